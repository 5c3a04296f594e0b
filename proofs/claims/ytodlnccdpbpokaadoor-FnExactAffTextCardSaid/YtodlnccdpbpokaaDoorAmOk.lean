/- The slim code against the loaded program: a check that the kernel carries out. -/
import Derived.Laws.StructEq
import Derived.Test.YtodlnccdpbpokaaDoorAmTake
set_option linter.unusedSimpArgs false
set_option linter.unusedVariables false
namespace Go.AM
open Go

def okCon : Value → AV → Bool
  | .int k n, .int k' n' => k = k' && n = n'
  | .bool b, .bool b' => b == b'
  | .string s, .str l => s.data.toList == l
  | .slice a n c, .osl s _ n' cs => a.isNone && n == 0 && c == 0 && s == 0 && n' == 0 && cs.isEmpty
  | .nilFunc, .nilf => true
  | _, _ => false
def okX (ν : List Nat) : Operand → Opd → Bool
  | .tmp t, .slot j => ν[j]? == some t
  | .const v, .con av => okCon v av
  | .func f, .con (.fn f' []) => f == f'
  | _, _ => false
def okXs (ν : List Nat) : List Operand → List Opd → Bool
  | [], [] => true
  | x :: xs, y :: ys => okX ν x y && okXs ν xs ys
  | _, _ => false
def okCons : List Value → List AV → Bool
  | [], [] => true
  | x :: xs, y :: ys => okCon x y && okCons xs ys
  | _, _ => false
def okOpt (ν : List Nat) : Option Operand → Option Opd → Bool
  | none, none => true
  | some x, some y => okX ν x y
  | _, _ => false
def szOf (P : Program) (t : TypeId) : Option Nat := (P.info? t).map (·.size)
def isAggP (P : Program) (t : TypeId) : Option Bool := (P.underlying t).map fun | .struct _ => true | .array _ _ => true | _ => false
def elemP (P : Program) (t : TypeId) : Option TypeId := match P.underlying t with | some (.slice e) => some e | _ => none
def okParts (ν : List Nat) (places : Nat → Option (Nat × Nat)) : List (Nat × Operand) → List (Nat × Nat × Opd) → Bool
  | [], [] => true
  | (i, x) :: xs, (off, sz, y) :: ys => (places i == some (off, sz)) && okX ν x y && okParts ν places xs ys
  | _, _ => false
def fieldPlaces (P : Program) (t : TypeId) : Option (List (Nat × Nat)) :=
  match P.underlying t with
  | some (.struct fs) => fs.toList.mapM fun f => (szOf P f.type).map fun s => (f.offset, s)
  | some (.array n e) => (szOf P e).map fun s => (List.range n).map fun i => (i * s, s)
  | _ => none
def zeroOk (P : Program) (t : TypeId) (zs : List AV) : Bool :=
  match (P.info? t).bind (·.zero) with
  | some z => okCons z.cells.toList zs
  | none => false
/-- An element type's row of the table: its cells and bytes. -/
def elemOk (P : Program) (e : TypeId) (sz : Nat) : Bool :=
  match P.info? e with
  | some i => i.size == sz && decide (0 < sz) && decide (i.bytes ≤ 32768) && (match i.zero with | some z => z.cells.size == sz | none => false)
  | none => false
def plainOp : BinOp → Bool
  | .add | .sub | .mul | .quo | .rem | .eql | .neq | .lss | .leq | .gtr | .geq | .and | .or | .xor | .andNot => true
  | _ => false

/-- The fields one behind the other, each a number, a flag, a text. -/
def okFlat (P : Program) : List Nat → List Field → Nat → Bool
  | [], [], _ => true
  | k :: ks, f :: fs, i => f.name != "_" && f.offset == i && (match k, P.underlying f.type with | 0, some (.int _) => true | 1, some .bool => true | 2, some .string => true | _, _ => false) && okFlat P ks fs (i + 1)
  | _, _, _ => false
def okOp (P : Program) (ν : List Nat) (o : Op) : SOp → Bool
  | .mv y => match o with
    | .move x => okX ν x y
    | .assign x => okX ν x y
    | _ => false
  | .asg y => match o with
    | .move x => okX ν x y
    | .assign x => okX ν x y
    | _ => false
  | .pick c a b => match o with
    | .pick c' a' b' => okX ν c' c && okX ν a' a && okX ν b' b
    | _ => false
  | .mk t z => match o with
    | .alloc t' => t == t' && zeroOk P t z
    | _ => false
  | .box t sz y => match o with
    | .box t' x => t == t' && okX ν x y
    | _ => false
  | .build z ps => match o with
    | .build t ps' => zeroOk P t z && (match fieldPlaces P t with | some pl => okParts ν (pl[·]?) ps'.toList ps | none => false)
    | _ => false
  | .bsl e n z ps => match o with
    | .buildSlice t n' ps' => n == n' && elemP P t == some e && elemOk P e z.length && zeroOk P e z && decide (n * z.length ≤ 16777216) && okParts ν (fun i => some (i * z.length, z.length)) ps'.toList ps
    | _ => false
  | .load sz ag y => match o with
    | .load t x => okX ν x y && isAggP P t == some ag && (if ag then szOf P t == some sz else sz == 1)
    | _ => false
  | .store sz st y z => match o with
    | .store t x v => okX ν x y && okX ν v z && szOf P t == some sz
    | _ => false
  | .bin op y z => match o with
    | .binOp op' t a b _ => okX ν a y && okX ν b z && decide (op = op') && plainOp op
    | _ => false
  | .beq ne y z => match o with
    | .binOp op t a b _ => okX ν a y && okX ν b z && (match op with | .eql => !ne | .neq => ne | _ => false) && (match P.underlying t with | some .bool => true | _ => false)
    | _ => false
  | .not y => match o with
    | .unOp .not _ x => okX ν x y
    | _ => false
  | .neg y => match o with
    | .unOp .neg _ x => okX ν x y
    | _ => false
  | .conv k y => match o with
    | .convert s t x => okX ν x y && (match P.underlying s with | some (.int _) => true | _ => false) && (match P.underlying t with | some (.int k') => k = k' | _ => false)
    | _ => false
  | .mkf f ys => match o with
    | .makeFunc (.func f') first caps => f == f' && first.isEmpty && okXs ν caps.toList ys
    | _ => false
  | .mksl e z l c => match o with
    | .makeSlice t l' c' => elemP P t == some e && elemOk P e z.length && zeroOk P e z && okX ν l' l && okX ν c' c
    | _ => false
  | .slice st sz y lo hi => match o with
    | .slice t x lo' hi' none => okX ν x y && okOpt ν lo' lo && okOpt ν hi' hi && (match P.underlying t with | some (.slice e) => !st && szOf P e == some sz | some .string => st | _ => false)
    | _ => false
  | .faddr off y => match o with
    | .fieldAddr s x f => okX ν x y && (match P.underlying s with | some (.struct fs) => (match fs[f]? with | some fd => fd.offset == off && (match szOf P fd.type with | some s => decide (0 < s) | none => false) | none => false) | _ => false)
    | _ => false
  | .iaddr sz y i => match o with
    | .indexAddr t x i' => okX ν x y && okX ν i' i && (match P.underlying t with | some (.slice e) => szOf P e == some sz | _ => false)
    | _ => false
  | .idx y i => match o with
    | .index t x i' => okX ν x y && okX ν i' i && (match P.underlying t with | some .string => true | _ => false)
    | _ => false
  | .len st y => match o with
    | .call c => (match c.callee, c.args.toList, c.argTypes.toList with
      | .builtin .len, [x], [t] => okX ν x y && (match P.underlying t with | some (.slice _) => !st | some .string => st | _ => false)
      | _, _, _ => false)
    | _ => false
  | .minmax mx y z => match o with
    | .call c => (match c.callee, c.args.toList with
      | .builtin .max, [x1, x2] => okX ν x1 y && okX ν x2 z && mx
      | .builtin .min, [x1, x2] => okX ν x1 y && okX ν x2 z && !mx
      | _, _ => false)
    | _ => false
  | .append e sz y z => match o with
    | .call c => (match c.callee, c.args.toList, c.argTypes.toList with
      | .builtin .append, [x1, x2], [t, t'] => okX ν x1 y && okX ν x2 z && elemP P t == some e && elemOk P e sz && t == t'
      | _, _, _ => false)
    | _ => false
  | .mvt j => match o with
    | .move x => okX ν x (.slot j)
    | .assign x => okX ν x (.slot j)
    | _ => false
  | .ext j ix => match o with
    | .extract x i => okX ν x (.slot j) && i == ix
    | _ => false
  | .aidx sz ag n y i => match o with
    | .index t x i' => okX ν x y && okX ν i' i && (match P.underlying t with | some (.array n' el) => n' == n && szOf P el == some sz && isAggP P el == some ag && (ag || sz == 1) | _ => false)
    | _ => false
  | .cut sz y hi => match o with
    | .slice t x none (some hi') none => okX ν x y && okX ν hi' hi && (match P.underlying t with | some (.slice e) => szOf P e == some sz | _ => false)
    | _ => false
  | .sbeq ne ks y z => match o with
    | .binOp op t a b _ => okX ν a y && okX ν b z && (match op with | .eql => !ne | .neq => ne | _ => false) && (match P.underlying t with | some (.struct _) => true | _ => false) && !P.stoodInHeld t && !P.eqGuardType P.depth t && okFlat P ks (P.fieldsOf t).toList 0
    | _ => false
  | .isnil ne y => match o with
    | .binOp op t a (.const (.slice none 0 0)) _ => okX ν a y && (match op with | .eql => !ne | .neq => ne | _ => false) && (match P.underlying t with | some (.slice _) => true | _ => false)
    | _ => false
  | .b2s y => match o with
    | .convert s t x => okX ν x y && (match P.underlying s with | some (.slice el) => (match P.underlying el with | some (.int .u8) => true | _ => false) | _ => false) && (match P.underlying t with | some .string => true | _ => false)
    | _ => false

section
variable {P : Program} {w : World} {Φ : Nat → Prop} {σ : Nat → Value} {ρ : List Value}

theorem okCon_rel {v : Value} {av : AV} (h : okCon v av = true) (f : Cnt) (hf : ∀ b, f b = 0) : VR P w Φ σ ρ av v f := by
  cases v <;> cases av <;> simp [okCon] at h
  · subst h; unfold VR; exact ⟨rfl, hf⟩
  · obtain ⟨rfl, rfl⟩ := h; unfold VR; exact ⟨rfl, hf⟩
  · rename_i s l
    simp only [VR]; exact ⟨by rw [← h], hf⟩
  · rename_i a n c s e n' cs
    obtain ⟨⟨⟨⟨⟨rfl, rfl⟩, rfl⟩, rfl⟩, rfl⟩, rfl⟩ := h
    simp only [VR]
    refine ⟨fun h => absurd rfl h, rfl, [], fun _ => 0, ⟨by simp, .inl ⟨rfl, rfl⟩⟩, CR_nil, fun b => by simp [own1, Value.ownBlock, hf b]⟩
  · unfold VR; exact ⟨rfl, hf⟩

theorem okCons_rel : ∀ {vs : List Value} {as : List AV}, okCons vs as = true → CR P w Φ σ ρ as vs (fun _ => 0)
  | [], [], _ => CR_nil
  | v :: vs, a :: as, h => by
    simp only [okCons, Bool.and_eq_true] at h
    have := CR_cons (okCon_rel h.1 (fun _ => 0) (fun _ => rfl) (P := P) (w := w) (Φ := Φ) (σ := σ) (ρ := ρ)) (okCons_rel h.2)
    simpa using this
  | [], _ :: _, h => by simp [okCons] at h
  | _ :: _, [], h => by simp [okCons] at h

/-- The slots and the frame: a slot's value is its temporary's, or nothing is known of it. -/
def LK (ν : List Nat) (ρ : List Value) (_e : Env) (tmps : Array Value) : Prop :=
  ∀ (j : Nat) (cv : Value), ρ[j]? = some cv → cv = unk ∨ ∃ t, ν[j]? = some t ∧ tmps.getD t undef = cv

theorem lzv_undef {j : Nat} {u : AV} {f : Cnt} (h : VR P w Φ σ ρ u unk f) (cv : Value) (g : Cnt) (hg : ∀ b, g b = 0) : VR P w Φ σ ρ (lzv j u) cv g := by
  cases u <;> simp only [VR] at h
  · simpa only [lzv, lz1, VR] using hg
  · simpa only [lzv, lz1, VR] using hg
  · have := h.1; cases this
  · have := h.1; cases this
  · have := h.1; cases this
  · obtain ⟨vs, e, _⟩ := h; cases e
  · have := h.1; cases this
  · obtain ⟨⟨a, c, e, _⟩, _⟩ := h; cases e
  · obtain ⟨⟨a, c, e, _⟩, _⟩ := h; cases e
  · obtain ⟨⟨a, e, _⟩, _⟩ := h; cases e
  · obtain ⟨_, _, xs, f1, ho, _⟩ := h; obtain ⟨a, c, e, _⟩ := ownsRow_slice ho; cases e
  · obtain ⟨_, _, b0, arr, f1, e, _⟩ := h; cases e
  · obtain ⟨arr, e, _⟩ := h; cases e
  · obtain ⟨arr, e, _⟩ := h; cases e
  · obtain ⟨⟨bo, row, a, n, c, _, _, e⟩, _⟩ := h; cases e
  · obtain ⟨⟨b0, row, _, e⟩, _⟩ := h; cases e
  · obtain ⟨⟨bo, row, g, fs, cs, _, _, e⟩, _⟩ := h; cases e

theorem ev_rel {e : Env} {f : Cnt} {ν : List Nat} {a : Act} {x : Operand} {y : Opd} {v : AV} (h : CR P w Φ σ ρ e ρ f) (hl : LK ν ρ e a.tmps) (hx : okX ν x y = true) (hv : ev e y = some v)
    (g : Cnt) (hg : ∀ b, g b = 0) : VR P w Φ σ ρ v (a.eval x) g := by
  cases y with
  | slot j =>
    cases x <;> simp [okX] at hx
    rename_i t
    simp only [ev] at hv
    cases he : e[j]? with
    | none => simp [he] at hv
    | some u =>
      simp [he] at hv; subst hv
      obtain ⟨cv, hcv, hvr⟩ := lzv_rel h he
      rcases hl j cv hcv with rfl | ⟨t', ht, hρ⟩
      · obtain ⟨cv', f1, f2, hcv', hv', _⟩ := CR_get j h he
        rw [hcv] at hcv'
        obtain rfl := Option.some.inj hcv'
        exact lzv_undef hv' _ g hg
      · rw [hx] at ht
        obtain rfl := Option.some.inj ht
        have e1 : a.eval (.tmp t) = cv := hρ
        rw [e1]
        exact hvr g hg
  | con av =>
    simp [ev] at hv; subst hv
    cases x with
    | tmp t => simp [okX] at hx
    | const u => exact okCon_rel (v := u) (by simpa only [okX] using hx) g hg
    | global gg => simp [okX] at hx
    | func ff =>
      cases av <;> simp [okX] at hx
      rename_i f' cs
      cases cs <;> simp [okX] at hx
      subst hx
      simp only [VR, Act.eval]
      exact ⟨#[], rfl, by simp, by unfold CR; exact ⟨rfl, hg⟩⟩

theorem evs_rel {e : Env} {f : Cnt} {ν : List Nat} {a : Act} (h : CR P w Φ σ ρ e ρ f) (hl : LK ν ρ e a.tmps) : ∀ {xs : List Operand} {ys : List Opd} {vs : List AV}, okXs ν xs ys = true → evs e ys = some vs →
    CR P w Φ σ ρ vs (xs.map a.eval) (fun _ => 0)
  | [], [], vs, _, hv => by simp [evs] at hv; subst hv; exact CR_nil
  | x :: xs, y :: ys, vs, hx, hv => by
    simp only [okXs, Bool.and_eq_true] at hx
    simp only [evs] at hv
    cases h1 : ev e y with
    | none => simp [h1] at hv
    | some v1 =>
      cases h2 : evs e ys with
      | none => simp [h1, h2] at hv
      | some vs1 =>
        simp [h1, h2] at hv; subst hv
        have := CR_cons (ev_rel h hl hx.1 h1 (fun _ => 0) (fun _ => rfl)) (evs_rel h hl hx.2 h2)
        simpa using this
  | [], _ :: _, _, hx, _ => by simp [okXs] at hx
  | _ :: _, [], _, hx, _ => by simp [okXs] at hx
end
end Go.AM
