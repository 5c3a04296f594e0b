/- Data: what is handed in, as abstract values, frozen or owned. -/
import Derived.Test.YtodlnccdpbpokaaDoorAmW
set_option linter.unusedSimpArgs false
set_option linter.unusedVariables false
namespace Go.AM
open Go

/-- Data of any type: a number, a flag, a text, a slice of n elements whose cells lie one behind the other. -/
inductive D where
  | I (k : IntKind) (n : Int)
  | B (b : Bool)
  | S (s : List UInt8)
  | L (e n : Nat) (cs : List D)

instance : Inhabited D := ⟨.B false⟩

mutual
/-- Frozen. -/
def C : D → AV
  | .I k n => .int k n
  | .B b => .bool b
  | .S s => .str s
  | .L _ n cs => .rsl n (Cs cs)
def Cs : List D → List AV
  | [] => []
  | d :: ds => C d :: Cs ds
end
mutual
/-- Owned. -/
def Ow : D → AV
  | .I k n => .int k n
  | .B b => .bool b
  | .S s => .str s
  | .L e n cs => .osl 0 e n (Ows cs)
def Ows : List D → List AV
  | [] => []
  | d :: ds => Ow d :: Ows ds
end

@[simp] theorem C_I {k : IntKind} {n : Int} : C (.I k n) = .int k n := by simp only [C]
@[simp] theorem C_B {b : Bool} : C (.B b) = .bool b := by simp only [C]
@[simp] theorem C_S {s : List UInt8} : C (.S s) = .str s := by simp only [C]
@[simp] theorem C_L {e n : Nat} {cs : List D} : C (.L e n cs) = .rsl n (Cs cs) := by simp only [C]
@[simp] theorem Ow_I {k : IntKind} {n : Int} : Ow (.I k n) = .int k n := by simp only [Ow]
@[simp] theorem Ow_B {b : Bool} : Ow (.B b) = .bool b := by simp only [Ow]
@[simp] theorem Ow_S {s : List UInt8} : Ow (.S s) = .str s := by simp only [Ow]
@[simp] theorem Ow_L {e n : Nat} {cs : List D} : Ow (.L e n cs) = .osl 0 e n (Ows cs) := by simp only [Ow]
@[simp] theorem Cs_nil : Cs [] = [] := by simp only [Cs]
@[simp] theorem Cs_cons {d : D} {ds : List D} : Cs (d :: ds) = C d :: Cs ds := by simp only [Cs]
@[simp] theorem Ows_nil : Ows [] = [] := by simp only [Ows]
@[simp] theorem Ows_cons {d : D} {ds : List D} : Ows (d :: ds) = Ow d :: Ows ds := by simp only [Ows]
theorem Cs_map {ds : List D} : Cs ds = ds.map C := by
  induction ds with
  | nil => simp
  | cons d ds ih => simp [ih]
theorem Ows_map {ds : List D} : Ows ds = ds.map Ow := by
  induction ds with
  | nil => simp
  | cons d ds ih => simp [ih]
@[simp] theorem Cs_append {a b : List D} : Cs (a ++ b) = Cs a ++ Cs b := by simp [Cs_map]
@[simp] theorem Ows_append {a b : List D} : Ows (a ++ b) = Ows a ++ Ows b := by simp [Ows_map]
@[simp] theorem Cs_length {a : List D} : (Cs a).length = a.length := by simp [Cs_map]
@[simp] theorem Ows_length {a : List D} : (Ows a).length = a.length := by simp [Ows_map]
theorem Cs_drop {a : List D} {n : Nat} : (Cs a).drop n = Cs (a.drop n) := by simp [Cs_map]
theorem Cs_take {a : List D} {n : Nat} : (Cs a).take n = Cs (a.take n) := by simp [Cs_map]
theorem Ows_drop {a : List D} {n : Nat} : (Ows a).drop n = Ows (a.drop n) := by simp [Ows_map]
theorem Ows_take {a : List D} {n : Nat} : (Ows a).take n = Ows (a.take n) := by simp [Ows_map]

@[simp] theorem isFz_C {d : D} : isFz (C d) = true := by cases d <;> simp [isFz]
@[simp] theorem isRef1_C {d : D} : isRef1 (C d) = false := by cases d <;> rfl
@[simp] theorem isRef_C {d : D} : isRef (C d) = false := by cases d <;> rfl
@[simp] theorem isRef_Ow {d : D} : isRef (Ow d) = false := by cases d <;> rfl
@[simp] theorem isRef1_Ow {d : D} : isRef1 (Ow d) = false := by cases d <;> rfl
@[simp] theorem hasRef_C {d : D} : hasRef (C d) = false := by cases d <;> rfl
@[simp] theorem hasRef_Ow {d : D} : hasRef (Ow d) = false := by cases d <;> rfl
@[simp] theorem any_Cs {ds : List D} : (Cs ds).any isRef = false := by simp [Cs_map]
@[simp] theorem any_Ows {ds : List D} : (Ows ds).any isRef = false := by simp [Ows_map]
@[simp] theorem snapC_C {e : Env} {d : D} : snapC e (C d) = some (C d, false) := by cases d <;> simp [snapC, isFz]
@[simp] theorem snapCs_Cs {e : Env} {ds : List D} : snapCs e (Cs ds) = some (Cs ds, false) := by
  induction ds with
  | nil => simp [snapCs]
  | cons d ds ih => simp [snapCs, ih]
@[simp] theorem takeC_C {e : Env} {d : D} : takeC e (C d) = some (C d, e) := by cases d <;> simp [takeC]
@[simp] theorem takeCs_Cs {e : Env} {ds : List D} : takeCs e (Cs ds) = some (Cs ds, e) := by
  induction ds with
  | nil => simp [takeCs]
  | cons d ds ih => simp [takeCs, ih]
@[simp] theorem lz1_C {r o : Nat} {p : List Nat} {d : D} : lz1 r p o (C d) = C d := by cases d <;> simp [lz1]
@[simp] theorem lzc_Cs {r : Nat} {p : List Nat} {o : Nat} {ds : List D} : lzc r p o (Cs ds) = Cs ds := by
  induction ds generalizing o with
  | nil => simp [lzc]
  | cons d ds ih => simp [lzc, ih]
@[simp] theorem lzv_C {j : Nat} {d : D} : lzv j (C d) = C d := by cases d <;> simp [lzv, lz1]
mutual
theorem frzC_Ow : ∀ (d : D), frzC (Ow d) = some (C d)
  | .I k n => by simp [frzC]
  | .B b => by simp [frzC]
  | .S s => by simp [frzC]
  | .L e n cs => by simp [frzC, frzs_Ows cs]
theorem frzs_Ows : ∀ (ds : List D), frzs (Ows ds) = some (Cs ds)
  | [] => by simp [frzs]
  | d :: ds => by simp [frzs, frzC_Ow d, frzs_Ows ds]
end
attribute [simp] frzC_Ow frzs_Ows
@[simp] theorem frzC_C {d : D} : frzC (C d) = some (C d) := by cases d <;> simp [frzC]
@[simp] theorem frzs_Cs {ds : List D} : frzs (Cs ds) = some (Cs ds) := by
  induction ds with
  | nil => simp [frzs]
  | cons d ds ih => simp [frzs, ih]
mutual
theorem noFrz_Ow : ∀ (d : D), noFrz (Ow d) = true
  | .I k n => by simp [noFrz]
  | .B b => by simp [noFrz]
  | .S s => by simp [noFrz]
  | .L e n cs => by simp [noFrz, noFrzs_Ows cs]
theorem noFrzs_Ows : ∀ (ds : List D), noFrzs (Ows ds) = true
  | [] => by simp [noFrzs]
  | d :: ds => by simp [noFrzs, noFrz_Ow d, noFrzs_Ows ds]
end
attribute [simp] noFrz_Ow noFrzs_Ows
/-- A slice that is owned, seen from where it lies. -/
theorem inner_Ow {e n : Nat} {d : D} {cs : List D} : inner (Ow (.L e n (d :: cs))) = some (Ows (d :: cs)) := by simp [inner]

/-- Row i of rows of equal length. -/
theorem row_at {α : Type} (f : α → List D) (k : Nat) : ∀ (xs : List α) (i : Nat) (x : α), (∀ x ∈ xs, (f x).length = k) → xs[i]? = some x → ((xs.flatMap f).drop (i * k)).take k = f x ∧ i * k + k ≤ (xs.flatMap f).length
  | [], i, x, _, h => by simp at h
  | y :: ys, 0, x, hl, h => by
    simp at h; subst h
    have := hl y (by simp)
    simp [← this]
  | y :: ys, i + 1, x, hl, h => by
    have h1 := hl y (by simp)
    obtain ⟨a, b⟩ := row_at f k ys i x (fun x hx => hl x (by simp [hx])) (by simpa using h)
    have e : (i + 1) * k = (f y).length + i * k := by rw [h1, Nat.add_mul]; omega
    rw [List.flatMap_cons, e, List.drop_append, List.drop_eq_nil_of_le (by omega)]
    refine ⟨by simpa using a, ?_⟩
    rw [List.length_append]
    omega

theorem wrap_small {x : Int} (h1 : -9223372036854775808 ≤ x) (h2 : x < 9223372036854775808) : IntKind.i64.wrap x = x := by
  simp only [IntKind.wrap, IntKind.bits, IntKind.signed]
  simp
  split <;> omega

@[simp] theorem wrap_zero : IntKind.i64.wrap 0 = 0 := by decide
@[simp] theorem wrap_one : IntKind.i64.wrap 1 = 1 := by decide
@[simp] theorem wrap_neg1 : IntKind.i64.wrap (-1) = -1 := by decide
@[simp] theorem inner_bx {s t : Nat} {cs : List AV} : inner (.bx s t cs) = some cs := rfl
@[simp] theorem inner_osl {s e n : Nat} {cs : List AV} (h : cs ≠ []) : inner (.osl s e n cs) = some cs := by
  cases cs with
  | nil => exact absurd rfl h
  | cons c cs => rfl
@[simp] theorem takeC_oslC {s t n : Nat} {e : Env} : takeC e (.osl s t 0 []) = some (.osl s t 0 [], e) := rfl
theorem splice_mid {A B Z cs : List AV} {o : Nat} (ho : A.length = o) (hb : B.length = cs.length) : splice (A ++ (B ++ Z)) o cs = A ++ (cs ++ Z) := by
  subst ho
  simp [splice, ← hb, List.drop_append]

theorem lz1_lz1 {r r' o o' : Nat} {p p' : List Nat} (v : AV) : lz1 r p o (lz1 r' p' o' v) = lz1 r' p' o' v := by
  cases v with
  | fn f cs => cases cs <;> rfl
  | _ => rfl
@[simp] theorem lzc_lzc {r r' : Nat} {p p' : List Nat} {cs : List AV} {o o' : Nat} : lzc r p o (lzc r' p' o' cs) = lzc r' p' o' cs := by
  induction cs generalizing o o' with
  | nil => rfl
  | cons c cs ih => simp [lzc, ih, lz1_lz1]
@[simp] theorem splice_all {row cs : List AV} (h : row.length ≤ cs.length) : splice row 0 cs = cs := by
  simp [splice, List.drop_eq_nil_of_le h]
/-- What stays of a cell that was moved. -/
def gn : D → AV
  | .L _ _ _ => .gone
  | d => Ow d
def isL : D → Bool
  | .L _ _ _ => true
  | _ => false
@[simp] theorem lzc_length {r : Nat} {p : List Nat} {o : Nat} {cs : List AV} : (lzc r p o cs).length = cs.length := by
  induction cs generalizing o with
  | nil => rfl
  | cons c cs ih => simp [lzc, ih]
theorem takeCs_move {j : Nat} : ∀ {ds : List D} {e : Env} {pre : List AV}, e[j]? = some (.agg (pre ++ Ows ds)) → takeCs e (lzc j [] pre.length (Ows ds)) = some (Ows ds, e.set j (.agg (pre ++ ds.map gn))) := by
  intro ds
  induction ds with
  | nil =>
    intro e pre h
    have : e.set j (.agg (pre ++ [])) = e := set_same (by simpa using h)
    simpa [lzc, takeCs] using this.symm
  | cons d ds ih =>
    intro e pre h
    have hj := (List.getElem?_eq_some_iff.1 h).1
    have sc : ∀ {v : AV}, Ow d = v → gn d = v → lz1 j [] pre.length v = v → takeC e v = some (v, e) → takeCs e (lzc j [] pre.length (Ows (d :: ds))) = some (Ows (d :: ds), e.set j (.agg (pre ++ (d :: ds).map gn))) := by
      intro v h1 h2 h3 h4
      have := ih (e := e) (pre := pre ++ [v]) (by rw [h]; simp [h1])
      simp only [List.length_append, List.length_singleton] at this
      simp [lzc, takeCs, h1, h3, h4, this, h2]
    cases d with
    | I k n => exact sc (v := .int k n) (by simp) (by simp [gn]) rfl rfl
    | B b => exact sc (v := .bool b) (by simp) (by simp [gn]) rfl rfl
    | S s => exact sc (v := .str s) (by simp) (by simp [gn]) rfl rfl
    | L el n cs =>
      have hrow : rowE e j [] = some (pre ++ Ows (.L el n cs :: ds)) := by simp [rowE, h, rowAt, cellsOf]
      have hset : setRowE e j [] (pre ++ .gone :: Ows ds) = e.set j (.agg (pre ++ .gone :: Ows ds)) := by
        simp [setRowE, h, setRow, withCells]
      have := ih (e := e.set j (.agg (pre ++ .gone :: Ows ds))) (pre := pre ++ [.gone]) (by simp [hj])
      simp only [List.length_append, List.length_singleton] at this
      simp [lzc, takeCs, lz1, takeC, hrow, hset, this, gn]
/-- The cells of a value in a slot, moved. -/
@[simp] theorem takeCs_slot {j : Nat} {ds : List D} {e : Env} (h : e[j]? = some (.agg (Ows ds))) : takeCs e (lzc j [] 0 (Ows ds)) = some (Ows ds, e.set j (.agg (ds.map gn))) := by
  have := takeCs_move (j := j) (ds := ds) (e := e) (pre := []) (by simpa using h)
  simpa using this
theorem snapCs_row {r : Nat} {p : List Nat} {e : Env} : ∀ {ds : List D} {pre post : List AV}, rowE e r p = some (pre ++ (Ows ds ++ post)) → snapCs e (lzc r p pre.length (Ows ds)) = some (Cs ds, ds.any isL) := by
  intro ds
  induction ds with
  | nil => intro pre post h; simp [lzc, snapCs]
  | cons d ds ih =>
    intro pre post h
    have sc : ∀ {v : AV}, Ow d = v → C d = v → isL d = false → lz1 r p pre.length v = v → snapC e v = some (v, false) → snapCs e (lzc r p pre.length (Ows (d :: ds))) = some (Cs (d :: ds), (d :: ds).any isL) := by
      intro v h1 h2 h3 h4 h5
      have := ih (pre := pre ++ [v]) (post := post) (by rw [h]; simp [h1])
      simp only [List.length_append, List.length_singleton] at this
      simp [lzc, snapCs, h1, h2, h3, h4, h5, this]
    cases d with
    | I k n => exact sc (v := .int k n) (by simp) (by simp) rfl rfl (by simp [snapC, isFz])
    | B b => exact sc (v := .bool b) (by simp) (by simp) rfl rfl (by simp [snapC, isFz])
    | S s => exact sc (v := .str s) (by simp) (by simp) rfl rfl (by simp [snapC, isFz])
    | L el n cs =>
      have := ih (pre := pre ++ [.osl 0 el n (Ows cs)]) (post := post) (by rw [h]; simp)
      simp only [List.length_append, List.length_singleton] at this
      have hs : snapC e (.ps r p pre.length) = some (.rsl n (Cs cs), true) := by simp [snapC, h, frzC]
      simp [lzc, lz1, snapCs, hs, this, isL]
@[simp] theorem snapCs_slot {r : Nat} {p : List Nat} {e : Env} {ds : List D} (h : rowE e r p = some (Ows ds)) : snapCs e (lzc r p 0 (Ows ds)) = some (Cs ds, ds.any isL) := by
  have := snapCs_row (e := e) (r := r) (p := p) (ds := ds) (pre := []) (post := []) (by simpa using h)
  simpa using this

/- What comes behind is left alone until it is come to. -/
section
variable {P : Program} {m k : Nat}
@[congr] theorem wpS_cong {sc : SCode} {e e' : Env} {Q : Exit → Env → Prop} (h : e = e') : wpS P m sc e Q = wpS P m sc e' Q := by rw [h]
@[congr] theorem W_cong {sc : SCode} {e e' : Env} {Q : Exit → Env → Prop} (h : e = e') : W P m sc e Q = W P m sc e' Q := by rw [h]
@[congr] theorem SRun_cong {ops ops' : List SOpr} {e e' : Env} {Q : Env → Prop} (ho : ops = ops') (h : e = e') : SRun P m k ops e Q = SRun P m k ops' e' Q := by rw [h, ho]
@[congr] theorem OpW_cong {so : SOpr} {e e' : Env} {Q : Env → Prop} (h : e = e') : OpW P m k so e Q = OpW P m k so e' Q := by rw [h]
@[congr] theorem DRunB_cong {e e' : Env} {ops ops' : List SOpr} {info : List (List Bool × Option (List Nat))} {acc acc' : List AV} {Q : List AV → Prop} (ho : ops = ops') (h : e = e') (ha : acc = acc') : DRunB P e ops info acc Q = DRunB P e' ops' info acc' Q := by rw [h, ho, ha]
@[congr] theorem OpV_cong {so : SOpr} {e e' : Env} {Q : AV → Prop} (h : e = e') : OpV P so e Q = OpV P so e' Q := by rw [h]
@[congr] theorem OpC_cong {so : SOpr} {e e' : Env} {d d' : List Nat} {Q : AV → Prop} (h : e = e') (hd : d = d') : OpC so e d Q = OpC so e' d' Q := by rw [h, hd]
end

attribute [simp] wpS SRun OpW opx ev putV lzv lz1 lzc endOk killE killJ valOk refOk killL liveV liveC appX hasRef isRef isRef1 resX resT isVal tupOf deads dropS outOf cellsOf mkv binX prepX snapV snapC isFz rowE rowAt takeV takeC takeCs lenX optI
  setRowE setRow withCells withInner rootOk isScalar fillP evs elemsX snapCs frzC frzs frz noFrz noFrzs capOk shA offT DRunB OpV OpC maskB isDead pureOp EndsW calleeC EndsM resO resY outsX takeE takeI takeL isS num nB bkOf ownS giveC giveCs giveF giveV give1 give2 calleeM stampL putBks putCl bksOk outOk reSt reSts inSt noSt noSts hrs hr capOk
end Go.AM
