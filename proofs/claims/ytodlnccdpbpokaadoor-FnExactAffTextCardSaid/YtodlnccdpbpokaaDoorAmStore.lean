/- Stores and appends. -/
import Derived.Test.YtodlnccdpbpokaaDoorAmMem
set_option linter.unusedSimpArgs false
set_option linter.unusedVariables false
set_option linter.unusedSectionVars false
namespace Go.AM
open Go
section
variable {P : Program} {w : World} {Φ : Nat → Prop} {σ : Nat → Value} {ρ : List Value}

theorem isRef_hr {c : AV} {cv : Value} {f : Cnt} (h : VR P w Φ σ ρ c cv f) (hr0 : isRef c = false) : hr c = false := by
  cases c <;> simp [isRef, isRef1] at hr0 <;> try rfl
  · rename_i g cs
    simp only [VR] at h
    obtain ⟨vs, _, hq, _⟩ := h
    simp only [hr]
    refine hrs_of fun c hc => ?_
    rcases hq c hc with h1 | h1
    · have : isRef1 c = false := hr0 c hc
      rw [this] at h1; cases h1
    · exact h1
  · exact hr_osl h
  · exact hr_bx h

theorem hasRef_hr {v : AV} {cv : Value} {f : Cnt} (h : VR P w Φ σ ρ v cv f) (h0 : hasRef v = false) : hr v = false := by
  have all : ∀ (cs : List AV) (vs : List Value) (f : Cnt), CR P w Φ σ ρ cs vs f → cs.any isRef = false → hrs cs = false := by
    intro cs
    induction cs with
    | nil => intro _ _ _ _; rfl
    | cons c cs ih =>
      intro vs f hc ha
      simp only [List.any_cons, Bool.or_eq_false_iff] at ha
      simp only [CR] at hc
      obtain ⟨v, vs', f1, f2, rfl, h1, h2, _⟩ := hc
      simp only [hrs, Bool.or_eq_false_iff]
      exact ⟨isRef_hr h1 ha.1, ih _ _ h2 ha.2⟩
  cases v with
  | agg cs => simp only [VR] at h; obtain ⟨arr, _, h⟩ := h; simp only [hr]; exact all _ _ _ h (by simpa [hasRef] using h0)
  | tup sh cs => simp only [VR] at h; obtain ⟨arr, _, _, h⟩ := h; simp only [hr]; exact all _ _ _ h (by simpa [hasRef] using h0)
  | _ => exact isRef_hr h (by simpa only [hasRef] using h0)

theorem killE_rel : ∀ {e : List AV} {vs : List Value} {f : Cnt}, CR P w Φ σ ρ e vs f → ∃ f', CR P w Φ σ ρ (killE e) vs f' ∧ (∀ b, f' b ≤ f b) ∧ hrs (killE e) = false
  | [], vs, f, h => ⟨f, by simpa [killE] using h, fun b => Nat.le_refl _, rfl⟩
  | v :: e, vs, f, h => by
    simp only [CR] at h
    obtain ⟨cv, vs', f1, f2, rfl, h1, h2, hf⟩ := h
    obtain ⟨f', k1, k2, k3⟩ := killE_rel h2
    simp only [killE, List.map_cons]
    by_cases hr0 : hasRef v = true
    · rw [if_pos hr0]
      refine ⟨_, CR_cons (f1 := fun _ => 0) (by unfold VR; exact fun _ => rfl) k1, fun b => by show 0 + f' b ≤ f b; have := hf b; have := k2 b; omega, ?_⟩
      simp only [hrs, Bool.or_eq_false_iff]; exact ⟨rfl, k3⟩
    · rw [if_neg hr0]
      refine ⟨_, CR_cons h1 k1, fun b => by show f1 b + f' b ≤ f b; have := hf b; have := k2 b; omega, ?_⟩
      simp only [hrs, Bool.or_eq_false_iff]; exact ⟨hasRef_hr h1 (by simpa using hr0), k3⟩

/-- A value whose references' places are there, in a world that left the blocks alone. -/
theorem live_cell {w' : World} {e : Env} {f : Cnt} (h : CR P w Φ σ ρ e ρ f) (hk : ∀ b, 1 ≤ f b → w'.heap[b]? = w.heap[b]?) (hΦ : ∀ b, Φ b → w'.heap[b]? = w.heap[b]?) {c : AV} {v : Value} {g : Cnt} (hc : VR P w Φ σ ρ c v g) (hg : ∀ b, 1 ≤ g b → w'.heap[b]? = w.heap[b]?) (hl : liveC e c = true) : VR P w' Φ σ ρ c v g := by
  have other : isRef c = false → VR P w' Φ σ ρ c v g := fun hr => stab w' Φ ρ hΦ (fun _ h => h) c v g (isRef_hr hc hr) hg hc
  cases c with
  | ps r p o =>
    simp only [liveC, Option.isSome_iff_exists] at hl
    obtain ⟨row, hrow⟩ := hl
    simp only [VR] at hc ⊢
    rw [live_walk h hrow hk]; exact hc
  | pp r p o =>
    simp only [liveC, Option.isSome_iff_exists] at hl
    obtain ⟨row, hrow⟩ := hl
    simp only [VR] at hc ⊢
    rw [live_walk h hrow hk]; exact hc
  | pf r p o =>
    simp only [liveC, Option.isSome_iff_exists] at hl
    obtain ⟨row, hrow⟩ := hl
    simp only [VR] at hc ⊢
    rw [live_walk h hrow hk]; exact hc
  | _ => exact other (by simpa [liveC] using hl)
theorem live_cells {w' : World} {e : Env} {f : Cnt} (h : CR P w Φ σ ρ e ρ f) (hk : ∀ b, 1 ≤ f b → w'.heap[b]? = w.heap[b]?) (hΦ : ∀ b, Φ b → w'.heap[b]? = w.heap[b]?) : ∀ {cs : List AV} {vs : List Value} {g : Cnt}, CR P w Φ σ ρ cs vs g → (∀ b, 1 ≤ g b → w'.heap[b]? = w.heap[b]?) → cs.all (liveC e) = true → CR P w' Φ σ ρ cs vs g
  | [], vs, g, hc, _, _ => by simpa only [CR] using hc
  | c :: cs, vs, g, hc, hg, ha => by
    simp only [List.all_cons, Bool.and_eq_true] at ha
    simp only [CR] at hc ⊢
    obtain ⟨v, vs', f1, f2, e1, h1, h2, hb⟩ := hc
    exact ⟨v, vs', f1, f2, e1, live_cell h hk hΦ h1 (fun b hb1 => hg b (by have := hb b; omega)) ha.1, live_cells h hk hΦ h2 (fun b hb1 => hg b (by have := hb b; omega)) ha.2, hb⟩
theorem live_val {w' : World} {e : Env} {f : Cnt} (h : CR P w Φ σ ρ e ρ f) (hk : ∀ b, 1 ≤ f b → w'.heap[b]? = w.heap[b]?) (hΦ : ∀ b, Φ b → w'.heap[b]? = w.heap[b]?) {c : AV} {v : Value} {g : Cnt} (hc : VR P w Φ σ ρ c v g) (hg : ∀ b, 1 ≤ g b → w'.heap[b]? = w.heap[b]?) (hl : liveV e c = true) : VR P w' Φ σ ρ c v g := by
  cases c with
  | agg cs => simp only [VR] at hc ⊢; obtain ⟨arr, e1, hc⟩ := hc; exact ⟨arr, e1, live_cells h hk hΦ hc hg hl⟩
  | tup sh cs => simp only [VR] at hc ⊢; obtain ⟨arr, e1, hs, hc⟩ := hc; exact ⟨arr, e1, hs, live_cells h hk hΦ hc hg hl⟩
  | _ => exact live_cell h hk hΦ hc hg hl
theorem killL_keep {w' : World} {e : Env} {f : Cnt} (h : CR P w Φ σ ρ e ρ f) (hk : ∀ b, 1 ≤ f b → w'.heap[b]? = w.heap[b]?) (hΦ : ∀ b, Φ b → w'.heap[b]? = w.heap[b]?) : ∀ {cs : List AV} {vs : List Value} {g : Cnt}, CR P w Φ σ ρ cs vs g → (∀ b, 1 ≤ g b → w'.heap[b]? = w.heap[b]?) →
    ∃ g', CR P w' Φ σ ρ (cs.map fun v => if liveV e v then v else .dead) vs g' ∧ ∀ b, g' b ≤ g b
  | [], vs, g, hc, _ => ⟨g, by simpa [CR] using hc, fun _ => Nat.le_refl _⟩
  | c :: cs, vs, g, hc, hg => by
    simp only [CR] at hc
    obtain ⟨v, vs', f1, f2, rfl, h1, h2, hb⟩ := hc
    obtain ⟨g', k1, k2⟩ := killL_keep h hk hΦ h2 (fun b hb1 => hg b (by have := hb b; omega))
    simp only [List.map_cons]
    by_cases hl : liveV e c = true
    · rw [if_pos hl]
      exact ⟨_, CR_cons (live_val h hk hΦ h1 (fun b hb1 => hg b (by have := hb b; omega)) hl) k1, fun b => by show f1 b + g' b ≤ g b; have := hb b; have := k2 b; omega⟩
    · rw [if_neg hl]
      exact ⟨_, CR_cons (f1 := fun _ => 0) (by unfold VR; exact fun _ => rfl) k1, fun b => by show 0 + g' b ≤ g b; have := hb b; have := k2 b; omega⟩
theorem killE_length (e : Env) : (killE e).length = e.length := by simp [killE]

theorem takeC_one {e e' : Env} {c c' : AV} {cv : Value} {f : Cnt} (ht : takeC e c = some (c', e')) (hv : VR P w Φ σ ρ c' cv f) : cv.oneCell' = true := by
  have ko : ∀ {s t n cs}, VR P w Φ σ ρ (.osl s t n cs) cv f → cv.oneCell' = true := fun hv => by
    simp only [VR] at hv; obtain ⟨_, _, xs, f1, ho, _⟩ := hv; obtain ⟨a, c, rfl, _⟩ := ownsRow_slice ho; rfl
  have kb : ∀ {s t cs}, VR P w Φ σ ρ (.bx s t cs) cv f → cv.oneCell' = true := fun hv => by
    simp only [VR] at hv; obtain ⟨_, _, b0, arr, f1, rfl, _⟩ := hv; rfl
  cases c with
  | ps r p o =>
    simp only [takeC] at ht
    split at ht
    · split at ht
      · simp at ht; obtain ⟨rfl, _⟩ := ht; exact ko hv
      · cases ht
    · cases ht
  | pp r p o =>
    simp only [takeC] at ht
    split at ht
    · split at ht
      · split at ht
        · split at ht
          · simp at ht; obtain ⟨rfl, _⟩ := ht; exact kb hv
          · cases ht
        · cases ht
      · cases ht
    · cases ht
  | osl s t n cs =>
    cases n with
    | succ n => simp [takeC] at ht
    | zero => cases cs with
      | nil => simp [takeC] at ht; obtain ⟨rfl, _⟩ := ht; exact ko hv
      | cons c cs => simp [takeC] at ht
  | fn g0 cs => cases cs with
    | nil => simp [takeC] at ht; obtain ⟨rfl, _⟩ := ht; simp only [VR] at hv; obtain ⟨vs, rfl, _⟩ := hv; rfl
    | cons c cs => simp [takeC] at ht
  | int k n => simp [takeC] at ht; obtain ⟨rfl, _⟩ := ht; simp only [VR] at hv; rw [hv.1]; rfl
  | bool b => simp [takeC] at ht; obtain ⟨rfl, _⟩ := ht; simp only [VR] at hv; rw [hv.1]; rfl
  | str s => simp [takeC] at ht; obtain ⟨rfl, _⟩ := ht; simp only [VR] at hv; rw [hv.1]; rfl
  | nilf => simp [takeC] at ht; obtain ⟨rfl, _⟩ := ht; simp only [VR] at hv; rw [hv.1]; rfl
  | nsl t => simp [takeC] at ht; obtain ⟨rfl, _⟩ := ht; simp only [VR] at hv; obtain ⟨⟨a, c, rfl, _⟩, _⟩ := hv; rfl
  | rsl n cs => simp [takeC] at ht; obtain ⟨rfl, _⟩ := ht; simp only [VR] at hv; obtain ⟨⟨a, c, rfl, _⟩, _⟩ := hv; rfl
  | rp cs => simp [takeC] at ht; obtain ⟨rfl, _⟩ := ht; simp only [VR] at hv; obtain ⟨⟨a, rfl, _⟩, _⟩ := hv; rfl
  | _ => simp [takeC] at ht

theorem takeCs_one : ∀ {cs cs' : List AV} {e e' : Env} {vs : List Value} {f : Cnt}, takeCs e cs = some (cs', e') → CR P w Φ σ ρ cs' vs f → ∀ v ∈ vs, v.oneCell' = true
  | [], cs', e, e', vs, f, ht, hv => by simp [takeCs] at ht; obtain ⟨rfl, _⟩ := ht; simp only [CR] at hv; simp [hv.1]
  | c :: cs, cs', e, e', vs, f, ht, hv => by
    simp only [takeCs] at ht
    cases ht1 : takeC e c with
    | none => simp [ht1] at ht
    | some x =>
      obtain ⟨c1, e1⟩ := x
      cases ht2 : takeCs e1 cs with
      | none => simp [ht1, ht2] at ht
      | some y =>
        obtain ⟨cs1, e2⟩ := y
        simp [ht1, ht2] at ht
        obtain ⟨rfl, rfl⟩ := ht
        simp only [CR] at hv
        obtain ⟨v, vs', f1, f2, rfl, h1, h2, _⟩ := hv
        intro u hu
        rcases List.mem_cons.1 hu with rfl | hu
        · exact takeC_one ht1 h1
        · exact takeCs_one ht2 h2 u hu

def concSc : Value → Bool
  | .int _ _ => true
  | .bool _ => true
  | .string _ => true
  | _ => false
theorem scalar_conc {c : AV} {cv : Value} {f : Cnt} (hs : isScalar c = true) (h : VR P w Φ σ ρ c cv f) : concSc cv = true := by
  cases c <;> simp [isScalar] at hs <;> (simp only [VR] at h; rw [h.1]; rfl)
theorem hblk_conc {v : Value} {b : Nat} (h : hblk v = some b) : concSc v = false := by
  cases v <;> first | rfl | (simp [hblk] at h)

/-- Scalars put over scalars: no way through memory is turned. -/
theorem walk_scalar {w' : World} {b : Nat} {arr arr' : Array Value} {t : TypeId} (hb : w.heap[b]? = some (.cells arr t (0, 0))) (hb' : w'.heap[b]? = some (.cells arr' t (0, 0)))
    (hother : ∀ x, x ≠ b → w'.heap[x]? = w.heap[x]?) (hs : ∀ (i : Nat) v, arr[i]? = some v → concSc v = false → arr'[i]? = some v) :
    ∀ (p : List Nat) (bo : Option Nat) (vs vs' : List Value) (bo' : Option Nat) (row : List Value), (∀ (i : Nat) v, vs[i]? = some v → concSc v = false → vs'[i]? = some v) → walk w bo vs p = some (bo', row) →
      ∃ row', walk w' bo vs' p = some (bo', row') ∧ (∀ (i : Nat) v, row[i]? = some v → concSc v = false → row'[i]? = some v)
  | [], bo, vs, vs', bo', row, hv, h => by
    simp [walk] at h; obtain ⟨rfl, rfl⟩ := h
    exact ⟨vs', by simp [walk], hv⟩
  | o :: p, bo, vs, vs', bo', row, hv, h => by
    simp only [walk] at h ⊢
    cases h1 : vs[o]? with
    | none => simp [h1] at h
    | some u =>
      cases h2 : hblk u with
      | none => simp [h1, h2] at h
      | some b1 =>
        cases h3 : brow w b1 with
        | none => simp [h1, h2, h3] at h
        | some r1 =>
          simp only [h1, h2, h3] at h
          have e1 := hv o u h1 (hblk_conc h2)
          simp only [e1, h2]
          by_cases hbb : b1 = b
          · subst hbb
            have h4 : brow w' b1 = some arr'.toList := by simp [brow, hb']
            have h5 : r1 = arr.toList := by simp [brow, hb] at h3; exact h3.symm
            subst h5
            simp only [h4]
            exact walk_scalar hb hb' hother hs p (some b1) arr.toList arr'.toList bo' row (fun i v hi hn => by simpa using hs i v (by simpa using hi) hn) h
          · have h4 : brow w' b1 = some r1 := by unfold brow at h3 ⊢; rw [hother b1 hbb]; exact h3
            simp only [h4]
            exact walk_scalar hb hb' hother hs p (some b1) r1 r1 bo' row (fun i v hi _ => hi) h

theorem take_three {A V : List Value} {o n : Nat} (h1 : o + V.length ≤ n) (h2 : n ≤ A.length) :
    (A.take o ++ V ++ A.drop (o + V.length)).take n = A.take o ++ V ++ (A.drop (o + V.length)).take (n - (o + V.length)) := by
  rw [List.take_append]
  have e1 : (A.take o ++ V).length = o + V.length := by simp; omega
  rw [e1, List.take_of_length_le (by omega)]

theorem CR_all_scalar : ∀ {cs : List AV} {vs : List Value} {f : Cnt}, CR P w Φ σ ρ cs vs f → cs.all isScalar = true → ∀ v ∈ vs, concSc v = true
  | [], vs, f, h, _ => by simp only [CR] at h; simp [h.1]
  | c :: cs, vs, f, h, ha => by
    simp only [List.all_cons, Bool.and_eq_true] at ha
    simp only [CR] at h
    obtain ⟨v, vs', f1, f2, rfl, h1, h2, _⟩ := h
    intro u hu
    rcases List.mem_cons.1 hu with rfl | hu
    · exact scalar_conc ha.1 h1
    · exact CR_all_scalar h2 ha.2 u hu

section
variable {e : Env} {f : Cnt} {ν : List Nat} {a : Act} {o : Oper} (h : CR P w Φ σ ρ e ρ f) (hl : LK ν ρ e a.tmps) (hi : Inv P w Φ f)
include h hl hi

theorem s_store {sz : Nat} {st : Bool} {y z : Opd} {v : AV} {e' : Env} (hok : okOp P ν o.op (.store sz st y z) = true) (hx : opx e (.store sz st y z) = some (v, e')) :
    ∃ w', (execOp a.eval o).run P w = .ok .skip w' ∧ StepR P w w' Φ σ ρ f v unk e' ∧ v = .dead := by
  simp only [opx] at hx
  simp only [okOp] at hok
  split at hok
  · rename_i t x xv ho
    simp only [Bool.and_eq_true, beq_iff_eq] at hok
    obtain ⟨⟨hx1, hx2⟩, hsz⟩ := hok
    simp only [szOf, Option.map_eq_some_iff] at hsz
    obtain ⟨inf, hinf, hsz⟩ := hsz
    split at hx
    · rename_i r p o0 u hv1 hv2
      split at hx
      · rename_i hlen
        obtain ⟨hlen, hp⟩ := hlen
        split at hx
        · rename_i cs e1 ht
          generalize hek : (if st = true then killE e1 else e1) = ek at hx
          split at hx
          · rename_i row hrow
            split at hx
            · rename_i hcond
              obtain ⟨hle, hroot, hsc⟩ := hcond
              simp only [Option.some.injEq, Prod.mk.injEq] at hx
              obtain ⟨rfl, rfl⟩ := hx
              have c1 := ev_rel h hl hx1 hv1 (fun _ => 0) (fun _ => rfl)
              simp only [VR] at c1
              obtain ⟨⟨b0, row0, hw, e0⟩, _⟩ := c1
              have c2 := ev_rel h hl hx2 hv2 (fun _ => 0) (fun _ => rfl)
              have hd : u ≠ .dead := by rintro rfl; simp [cellsOf, takeCs, takeC] at ht
              have hg : u ≠ .gone := by rintro rfl; simp [cellsOf, takeCs, takeC] at ht
              have htup : ∀ sh cs, u ≠ .tup sh cs := ev_notup hv2 (by rintro sh cs rfl; cases xv <;> simp [okX] at hx2; rename_i u; cases u <;> simp [okCon] at hx2)
              have hcu := cells_rel hd hg c2
              rw [← cells_eq c2 hd hg htup] at hcu
              have hvl := CR_length hcu
              obtain ⟨f1, f2, hcs, he1, hf, _⟩ := takeCs_rel h hi.sep hcu (fun _ => rfl) ht
              have hhr := takeCs_hr ht hcs
              have hone := takeCs_one ht hcs
              have hcl := CR_length hcs
              -- the slots, references struck where need be
              obtain ⟨f2', he2, hf2, hkill⟩ : ∃ f2', CR P w Φ σ ρ ek ρ f2' ∧ (∀ b, f2' b ≤ f2 b) ∧ (st = true → hrs ek = false) := by
                cases st with
                | true => obtain ⟨f', k1, k2, k3⟩ := killE_rel he1; simp at hek; subst hek; exact ⟨f', k1, k2, fun _ => k3⟩
                | false => simp at hek; subst hek; exact ⟨f2, he1, fun b => Nat.le_refl _, fun h => by cases h⟩
              have hsep2 : ∀ b, f2' b ≤ 1 := fun b => by have := hi.sep b; have := hf b; have := hf2 b; omega
              obtain ⟨b, tb, arr, g1, g2, uu, huu, hw2, hheap, hrowcr, hrr, hff, hb2, hup⟩ := env_update he2 hsep2 hrow hp
              rw [hw] at hw2
              obtain ⟨rfl, rfl⟩ : b0 = b ∧ row0 = arr.toList := by simpa using hw2
              have hbf : ∀ x, f x ≤ 1 := hi.sep
              have hb0f : 1 ≤ f b0 := by have := hf b0; have := hf2 b0; have := hff b0; omega
              have hrlen : row.length ≤ arr.size := by have := CR_length hrowcr; simp at this; omega
              let vs := (a.eval xv).cells.toList
              have hvs : vs.length = sz := by show (a.eval xv).cells.toList.length = sz; omega
              let arr' : Array Value := (arr.toList.take o0 ++ vs ++ arr.toList.drop (o0 + vs.length)).toArray
              have harr' : arr'.size = arr.size := by simp [arr', hvs]; omega
              let w' := w.setRow b0 arr'
              have hheap' : w'.heap[b0]? = some (.cells arr' tb (0, 0)) := setRow_heap w b0 arr arr' tb (0, 0) hheap
              have hoth : ∀ x, x ≠ b0 → w'.heap[x]? = w.heap[x]? := fun x hx => setRow_other w b0 x arr' hx
              refine ⟨w', ?_, ⟨⟨rfl, rfl, rfl, by simp [w', World.setRow], fun x _ hx0 => hoth x (by rintro rfl; omega)⟩, fun _ => 0, ?_⟩, rfl⟩
              · have hs : (storeCells ⟨b0, o0, none⟩ vs 0).run P w = .ok () w' := by
                  have := run_storeCells_at P b0 o0 tb vs 0 arr w hheap (by show o0 + 0 + vs.length ≤ arr.size; omega) hone
                  exact this
                have hsize : (a.eval xv).cells.size = inf.size := by rw [hsz, ← Array.length_toList]; exact hvs
                simp only [execOp, ho, e0, Instr.storeAt, Instr.sureAddr, storeVar]
                simp only [pure_bind, Sem.run_bind, show (sizeOf t).run P w = .ok inf.size w by simp [sizeOf, typeInfo, hinf], Result.andThen_ok, hsize]
                simp only [ne_eq, not_true_eq_false, if_false]
                simp only [vs] at hs
                simp [hs]
              · -- the relation
                have hΦ : ∀ x, Φ x → w'.heap[x]? = w.heap[x]? := fun x hx => hoth x (by rintro rfl; have := hi.apart x hx; omega)
                obtain ⟨k1, k2, hr1, hr2, hk⟩ := CR_take_drop o0 hrowcr
                obtain ⟨n1, n2, hn1, hn2, hn⟩ := CR_take_drop sz hr2
                rw [List.drop_drop, List.drop_drop] at hn2
                have hnb : ∀ x, x = b0 → f1 x = 0 ∧ k1 x = 0 ∧ n2 x = 0 := by
                  rintro x rfl
                  have := hf x; have := hf2 x; have := hff x; have := hk x; have := hn x; have := hbf x
                  omega
                have st1 := CR_stab w' Φ ρ hΦ (fun _ h => h) _ _ _ (by rw [← List.take_append_drop o0 row, hrs_append, Bool.or_eq_false_iff] at hrr; exact hrr.1) (fun x h1 => hoth x (fun e => by have := hnb x e; omega)) hr1
                have st2 := CR_stab w' Φ ρ hΦ (fun _ h => h) _ _ _ hhr (fun x h1 => hoth x (fun e => by have := hnb x e; omega)) hcs
                have st3 := CR_stab w' Φ ρ hΦ (fun _ h => h) _ _ _ (by rw [← List.take_append_drop (o0 + sz) row, hrs_append, Bool.or_eq_false_iff] at hrr; exact hrr.2) (fun x h1 => hoth x (fun e => by have := hnb x e; omega)) hn2
                have hnew : CR P w' Φ σ ρ (splice row o0 cs) (arr'.toList.take row.length) (fun x => k1 x + f1 x + n2 x) := by
                  have := CR_append (CR_append st1 st2) st3
                  have e1 : splice row o0 cs = row.take o0 ++ cs ++ row.drop (o0 + sz) := by simp only [splice]; rw [hcl]; show row.take o0 ++ cs ++ row.drop (o0 + vs.length) = _; rw [hvs]
                  rw [e1]
                  refine Eq.mp (congrArg (fun L => CR P w' Φ σ ρ _ L _) ?_) this
                  have ht1 : (arr.toList.take row.length).take o0 = arr.toList.take o0 := by rw [List.take_take]; congr 1; omega
                  have ht2 : (arr.toList.take row.length).drop (o0 + sz) = (arr.toList.drop (o0 + sz)).take (row.length - (o0 + sz)) := by rw [List.drop_take]
                  rw [ht1, ht2]
                  have := take_three (A := arr.toList) (V := vs) (o := o0) (n := row.length) (by omega) (by simpa using hrlen)
                  rw [hvs] at this
                  have e2 : arr'.toList = arr.toList.take o0 ++ vs ++ arr.toList.drop (o0 + sz) := by simp only [arr', hvs]
                  rw [e2]; exact this.symm
                have hrow' : hrs (splice row o0 cs) = false := by
                  simp only [splice, hrs_append, Bool.or_eq_false_iff]
                  have h1 := hrr
                  rw [← List.take_append_drop o0 row, hrs_append, Bool.or_eq_false_iff] at h1
                  have h2 := hrr
                  rw [← List.take_append_drop (o0 + cs.length) row, hrs_append, Bool.or_eq_false_iff] at h2
                  exact ⟨⟨h1.1, hhr⟩, h2.2⟩
                have hroot2 : hrs (cellsOf uu) = false := by
                  obtain ⟨cv, q1, q2, _, hq, _⟩ := CR_get r he2 huu
                  have h0 : hasRef uu = false := by simpa [rootOk, huu] using hroot
                  have := hasRef_hr hq h0
                  cases uu <;> simp_all [cellsOf, hr, hrs]
                have hall : ∀ (v : AV) cv g, v ∈ ek → (∀ x, 1 ≤ g x → w'.heap[x]? = w.heap[x]?) → VR P w Φ σ ρ v cv g → VR P w' Φ σ ρ v cv g := by
                  intro v cv g hv hgx hvr
                  cases st with
                  | true => exact stab w' Φ ρ hΦ (fun _ h => h) v cv g (hrs_mem (hkill rfl) v hv) hgx hvr
                  | false =>
                    obtain ⟨hsc1, hsc2⟩ := hsc rfl
                    have hws : ∀ (i : Nat) v, arr[i]? = some v → concSc v = false → arr'[i]? = some v := by
                      intro i v hi0 hvs0
                      have hmid := CR_all_scalar hn1 (by simpa using hsc2)
                      by_cases h1 : i < o0
                      · simp only [arr', List.getElem?_toArray]
                        rw [List.append_assoc, List.getElem?_append_left (by simp; have := (Array.getElem?_eq_some_iff.1 hi0).1; omega), List.getElem?_take, if_pos h1]
                        simpa using hi0
                      · by_cases h2 : i < o0 + sz
                        · exfalso
                          have hmem : v ∈ ((arr.toList.take row.length).drop o0).take sz := by
                            rw [List.mem_iff_getElem?]
                            refine ⟨i - o0, ?_⟩
                            rw [List.getElem?_take, if_pos (by omega), List.getElem?_drop, List.getElem?_take, if_pos (by omega)]
                            rw [show o0 + (i - o0) = i by omega]; simpa using hi0
                          have := hmid v hmem
                          rw [hvs0] at this; cases this
                        · simp only [arr', List.getElem?_toArray]
                          have hlt := (Array.getElem?_eq_some_iff.1 hi0).1
                          rw [List.getElem?_append_right (by simp [hvs]; omega), List.getElem?_drop]
                          rw [← hi0, ← Array.getElem?_toList]
                          congr 1
                          simp [hvs]; omega
                    have hwk : ∀ r p bo row, walk w none (rowOf ρ r) p = some (bo, row) → ∃ row', walk w' none (rowOf ρ r) p = some (bo, row') ∧ (∀ (i : Nat) v, row[i]? = some v → concSc v = false → row'[i]? = some v) :=
                      fun r p bo row hw => walk_scalar hheap hheap' hoth hws p none (rowOf ρ r) (rowOf ρ r) bo row (fun i v h _ => h) hw
                    refine stab2 w' Φ ρ hΦ (fun _ h => h) ?_ ?_ ?_ v cv g hgx hvr
                    · intro r p o cv f hh
                      simp only [VR] at hh ⊢
                      obtain ⟨⟨bo, row, a, n, c, hw, hv1, rfl⟩, hz⟩ := hh
                      obtain ⟨row', q1, q2⟩ := hwk _ _ _ _ hw
                      exact ⟨⟨bo, row', a, n, c, q1, q2 _ _ hv1 rfl, rfl⟩, hz⟩
                    · intro r p o cv f hh
                      simp only [VR] at hh ⊢
                      obtain ⟨⟨b0, row, hw, hv1⟩, hz⟩ := hh
                      obtain ⟨row', q1, q2⟩ := hwk _ _ _ _ hw
                      exact ⟨⟨b0, row', q1, hv1⟩, hz⟩
                    · intro r p o cv f hh
                      simp only [VR] at hh ⊢
                      obtain ⟨⟨bo, row, g, fs, cs, hw, hv1, rfl⟩, hz⟩ := hh
                      obtain ⟨row', q1, q2⟩ := hwk _ _ _ _ hw
                      exact ⟨⟨bo, row', g, fs, cs, q1, q2 _ _ hv1 rfl, rfl⟩, hz⟩
                have hfin := hup w' Φ (splice row o0 cs) arr' _ hroot2 hheap' harr' (fun x hx _ => hoth x hx) hΦ (fun _ h => h) (splice_len (by rw [hcl]; show o0 + vs.length ≤ _; omega)) hrow' hnew hall
                refine ⟨_, by unfold VR; exact fun _ => rfl, hfin, fun x => ?_, fun x hx => ?_⟩
                · show 0 + (k1 x + f1 x + n2 x + g2 x) ≤ 1
                  have := hf x; have := hf2 x; have := hff x; have := hk x; have := hn x; have := hbf x
                  omega
                · have hx' : 1 ≤ 0 + (k1 x + f1 x + n2 x + g2 x) := hx
                  have h1 : 1 ≤ f x := by
                    have := hf x; have := hf2 x; have := hff x; have := hk x; have := hn x
                    omega
                  exact ⟨.inl h1, by have := hi.lt x h1; simpa [w', World.setRow] using this⟩
            · cases hx
          · cases hx
        · cases hx
      · cases hx
    · cases hx
  · cases hok

omit h hl hi in
/-- An append: its row is the elder one's block, or a new block. -/
theorem app_run (t ty el : TypeId) (i : TypeInfo) (z : Value) (size : Nat) (ht : P.underlying t = some (.slice el)) (hinf : P.info? el = some i) (hz : i.zero = some z)
    (hsize : i.size = size) (hzs : z.cells.size = size) (hsz : 0 < size) (hby : i.bytes ≤ 32768)
    (v : Value) (n : Nat) (xs : List Value) (hown : w.ownsRow 0 el size v n xs)
    (ao : Option Addr) (m c : Nat) (hao : ao = none → m = 0 ∧ c = 0) (news : List Value) (hl1 : news.length = m * size) (hnews : ∀ ad, ao = some ad → ∀ j u, news[j]? = some u → w.cell? (ad.add j) = some u) (h1 : ∀ u ∈ news, u.oneCell' = true)
    (hb : n + m ≤ bnd) :
    ∃ v' w', (Builtin.append_ #[t, t] ty #[v, .slice ao m c]).run P w = .ok v' w' ∧ w'.ownsRow 0 el size v' (n + m) (xs ++ news) ∧ w.grownBy w' v.ownBlock ∧ (v'.ownBlock = v.ownBlock ∨ v'.ownBlock = some w.heap.size) := by
  have hb' : n + m ≤ 4294967296 := hb
  have h63 : n + m ≤ maxLen := by simp only [maxLen]; omega
  have hbytes : (n + m) * i.bytes ≤ 140737488355328 := by
    have := Nat.mul_le_mul hb' hby
    omega
  cases ao with
  | none =>
    obtain ⟨rfl, rfl⟩ := hao rfl
    have hn0 : news = [] := List.eq_nil_of_length_eq_zero (by simpa using hl1)
    subst hn0
    have hr := run_append_owned_none (P := P) (w := w) 0 t ty el i size ht hinf v n xs hown
    exact ⟨v, w, hr, by simpa using hown, World.grownBy.refl _ _, .inl rfl⟩
  | some ad =>
    have hn := hnews ad rfl
    obtain ⟨v', w', hr, h2, h3, _⟩ := run_append_own (P := P) w 0 t ty el i z size i.bytes ht hinf hz hsize rfl hzs hsz v n xs hown ad m c news hl1 hn h1 h63 hbytes (Nat.zero_le _)
    refine ⟨v', w', hr, h2, h3, ?_⟩
    rcases hown.2 with ⟨rfl, rfl⟩ | ⟨g, cap, cur, rfl, hbg, hg, hnc, hcm, hcs, htake⟩
    · by_cases hm : m = 0
      · subst hm
        rcases h2.2 with ⟨rfl, _⟩ | ⟨g, cap, cur, rfl, _, hg, _⟩
        · exact .inl rfl
        · right
          have hk := h3.block g
          by_cases hlt : g < w.heap.size
          · exfalso
            have hn0 : news = [] := List.eq_nil_of_length_eq_zero (by simpa using hl1)
            subst hn0
            have : (Builtin.append_ #[t, t] ty #[.slice none 0 0, .slice (some ad) 0 c]).run P w = .ok (.slice none 0 0) w := by
              simp [Builtin.append_, run_underlying ht, sizeOf, typeInfo, hinf, Builtin.lenOf, Builtin.firstCells, loadCells, loadCellsFrom]
            rw [this] at hr
            simp at hr
          · exfalso
            have hn0 : news = [] := List.eq_nil_of_length_eq_zero (by simpa using hl1)
            subst hn0
            have : (Builtin.append_ #[t, t] ty #[.slice none 0 0, .slice (some ad) 0 c]).run P w = .ok (.slice none 0 0) w := by
              simp [Builtin.append_, run_underlying ht, sizeOf, typeInfo, hinf, Builtin.lenOf, Builtin.firstCells, loadCells, loadCellsFrom]
            rw [this] at hr
            simp at hr
      · have hr2 := run_append_nil (P := P) (w := w) t ty el i z ht hinf hz ad m c news (by rw [hsize]; exact hl1) hn (by omega) (by omega) (by rw [Nat.zero_add] at hbytes; omega)
        rw [hr2] at hr
        cases hr
        exact .inr rfl
    · by_cases hroom : n + m ≤ cap
      · have hr2 := run_append_room (P := P) (w := w) t ty el i ht hinf g n cap cur hg ad m c news (by rw [hsize]; exact hl1) hn h1 hroom (by rw [hsize, hl1, hcs, ← Nat.add_mul]; exact Nat.mul_le_mul_right _ hroom)
        rw [hr2] at hr
        cases hr
        exact .inl rfl
      · have hr2 := run_append_grow (P := P) (w := w) t ty el i z ht hinf hz ⟨g, 0, none⟩ n cap xs (by rw [hsize]; exact hown.1) (hown.cells (g := g) rfl) ad m c news (by rw [hsize]; exact hl1) hn (by omega) (by omega) (growslice_fits (by omega) hbytes)
        rw [hr2] at hr
        cases hr
        exact .inr rfl

omit h hl hi in
theorem fz_one {c : AV} {u : Value} {g : Cnt} (hz : isFz c = true) (hv : VR P w Φ σ ρ c u g) : u.oneCell' = true := by
  cases c <;> simp [isFz] at hz
  · simp only [VR] at hv; rw [hv.1]; rfl
  · simp only [VR] at hv; rw [hv.1]; rfl
  · simp only [VR] at hv; rw [hv.1]; rfl
  · simp only [VR] at hv; obtain ⟨vs, rfl, _⟩ := hv; rfl
  · simp only [VR] at hv; rw [hv.1]; rfl
  · simp only [VR] at hv; obtain ⟨⟨a, c, rfl, _⟩, _⟩ := hv; rfl
  · simp only [VR] at hv; obtain ⟨⟨a, c, rfl, _⟩, _⟩ := hv; rfl
  · simp only [VR] at hv; obtain ⟨⟨a, rfl, _⟩, _⟩ := hv; rfl
omit h hl hi in
theorem FC_one : ∀ {cs : List AV} {ad : Addr} {j : Nat}, FC P w Φ σ ρ cs (some ad) j →
    ∃ us, CR P w Φ σ ρ cs us (fun _ => 0) ∧ (∀ i u, us[i]? = some u → w.cell? (ad.add (j + i)) = some u) ∧ (∀ u ∈ us, u.oneCell' = true) ∧ hrs cs = false
  | [], ad, j, _ => ⟨[], CR_nil, fun i u h => by simp at h, by simp, rfl⟩
  | c :: cs, ad, j, h => by
    simp only [FC] at h
    obtain ⟨⟨ad', u, e, hp, hc, hz, hv⟩, h⟩ := h
    obtain rfl := Option.some.inj e
    obtain ⟨us, h1, h2, h3, h4⟩ := FC_one h
    refine ⟨u :: us, by have := CR_cons (hv (fun _ => 0) (fun _ => rfl)) h1; simpa using this, fun i x hi => ?_, fun x hx => ?_, by simp only [hrs, Bool.or_eq_false_iff]; exact ⟨isFz_hr hz, h4⟩⟩
    · cases i with
      | zero => simp at hi; subst hi; exact hc
      | succ i => simp at hi; have := h2 i x hi; rwa [show j + 1 + i = j + (i + 1) by omega] at this
    · rcases List.mem_cons.1 hx with rfl | hx
      · exact fz_one hz (hv (fun _ => 0) (fun _ => rfl))
      · exact h3 x hx

omit hl in
/-- What is appended: its cells, taken. -/
theorem elems_rel {xv : AV} {cv : Value} {m : Nat} {new : List AV} {e1 : Env} {el sz : Nat} (hco : P.cellsOf el = sz) (hc : VR P w Φ σ ρ xv cv (fun _ => 0)) (hx : elemsX e el sz xv = some (m, new, e1)) :
    ∃ (ao : Option Addr) (c : Nat) (news : List Value) (f1 f2 : Cnt), cv = .slice ao m c ∧ (ao = none → m = 0 ∧ c = 0) ∧ news.length = m * sz ∧ (∀ ad, ao = some ad → ∀ j u, news[j]? = some u → w.cell? (ad.add j) = some u) ∧ (∀ u ∈ news, u.oneCell' = true) ∧
      CR P w Φ σ ρ new news f1 ∧ CR P w Φ σ ρ e1 ρ f2 ∧ (∀ b, f b = f1 b + f2 b) ∧ hrs new = false := by
  cases xv <;> simp only [elemsX] at hx <;> try (cases hx; done)
  · simp only [Option.some.injEq, Prod.mk.injEq] at hx
    obtain ⟨rfl, rfl, rfl⟩ := hx
    simp only [VR] at hc
    obtain ⟨⟨ao, c, rfl, _, hne⟩, _⟩ := hc
    refine ⟨ao, c, ([] : List Value), fun _ => 0, f, rfl, fun h => ⟨rfl, hne h⟩, by simp, fun ad _ j u hj => by simp at hj, by simp, CR_nil, h, fun b => by simp, rfl⟩
  · rename_i n cs
    split at hx
    · rename_i hlen
      simp only [Option.some.injEq, Prod.mk.injEq] at hx
      obtain ⟨rfl, rfl, rfl⟩ := hx
      simp only [VR] at hc
      obtain ⟨⟨ao, c, rfl, hcap, hne, hfc⟩, _⟩ := hc
      cases ao with
      | none =>
        obtain ⟨rfl, rfl⟩ := hne rfl
        have : cs = [] := List.eq_nil_of_length_eq_zero (by simpa using hlen)
        subst this
        refine ⟨none, 0, ([] : List Value), fun _ => 0, f, rfl, fun _ => ⟨rfl, rfl⟩, by simp, ?_, by simp, CR_nil, h, fun b => by simp, rfl⟩
        intro ad h1; cases h1
      | some ad =>
        obtain ⟨us, h1, h2, h3, h4⟩ := FC_one hfc
        refine ⟨some ad, c, us, fun _ => 0, f, rfl, hne, by rw [← CR_length h1, hlen], fun ad' e' j u hj => ?_, h3, h1, h, fun b => by simp, h4⟩
        obtain rfl := Option.some.inj e'
        have := h2 j u hj
        rwa [Nat.zero_add] at this
    · cases hx
  · rename_i t n cs
    cases n with
    | succ n => simp at hx
    | zero => cases cs with
      | cons c cs => simp at hx
      | nil =>
        simp at hx
        obtain ⟨rfl, rfl, rfl⟩ := hx
        simp only [VR] at hc
        obtain ⟨_, _, xs, f1, ho, hcr, hz⟩ := hc
        obtain ⟨ao, c, rfl, hcap, hne, _⟩ := ownsRow_slice ho
        exact ⟨ao, c, [], fun _ => 0, f, rfl, hne, by simp, fun ad h j u hj => by simp at hj, by simp, CR_nil, h, fun b => by simp, rfl⟩
  · rename_i r p o0
    split at hx
    · rename_i row hrow
      split at hx
      · rename_i t n cs hro
        split at hx
        · rename_i hte
          subst hte
          split at hx
          · rename_i cs' e' ht
            simp only [Option.some.injEq, Prod.mk.injEq] at hx
            obtain ⟨rfl, rfl, rfl⟩ := hx
            simp only [VR] at hc
            obtain ⟨⟨bo, row0, ao, n0, c0, hw, hv0, rfl⟩, _⟩ := hc
            obtain ⟨bo', cvs, f1, f2, hw', hcr, hf, _, _⟩ := env_focus h hi.sep hrow
            have hw2 := hw
            rw [hw] at hw'
            obtain ⟨rfl, rfl⟩ : bo = bo' ∧ row0 = cvs := by simpa using hw'
            obtain ⟨cv, g1, g2, hcv, hvr, hff, _⟩ := CR_get o0 hcr hro
            obtain ⟨hcv0, _⟩ := get_take_lt hcv
            rw [hv0] at hcv0
            obtain rfl := Option.some.inj hcv0
            simp only [VR] at hvr
            obtain ⟨_, _, xs, f1', ho1, hxs, _⟩ := hvr
            have hlz : CR P w Φ σ ρ (lzc r (p ++ [o0]) 0 cs) xs (fun _ => 0) := by
              rcases ho1.2 with ⟨e2, rfl⟩ | ⟨b, cap, cur, e2, h0, hg, hn, hm, hs, htk⟩
              · have : xs = [] := List.eq_nil_of_length_eq_zero (by simpa using ho1.1)
                subst this
                have : cs = [] := List.eq_nil_of_length_eq_zero (CR_length hxs)
                subst this
                exact CR_nil
              · cases e2
                exact lzc_rel (walk_snoc _ _ _ _ _ _ _ _ _ hw2 hv0 rfl (by simp [brow, hg]; rfl)) cs 0 xs f1' (fun _ => 0) hxs (fun i v hi => by
                  rw [← htk, List.getElem?_take] at hi
                  split at hi
                  · simpa using hi
                  · cases hi) (fun _ => rfl)
            obtain ⟨k1, k2, hcs', he', hk, _⟩ := takeCs_rel h hi.sep hlz (fun _ => rfl) ht
            obtain ⟨a2, c2, e2, hcap, hne, hcells⟩ := ownsRow_slice ho1
            cases e2
            refine ⟨ao, c0, xs, k1, k2, rfl, hne, by rw [← hco]; exact ho1.1, fun ad e2 j u hj => ?_, takeCs_one ht hcs', hcs', he', hk, takeCs_hr ht hcs'⟩
            obtain ⟨ad', e3, _, e4⟩ := hcells j u hj
            rw [e2] at e3
            obtain rfl := Option.some.inj e3
            exact e4
          · cases hx
        · cases hx
      · cases hx
    · cases hx

omit h hl hi in
theorem owns_cut {b : Nat} {e : TypeId} {sz : Nat} {ao : Option Addr} {n m c : Nat} {xs : List Value} (ho : w.ownsRow b e sz (.slice ao n c) n xs) (hm : m ≤ n) : w.ownsRow b e sz (.slice ao m c) m (xs.take (m * sz)) := by
  obtain ⟨h1, h2⟩ := ho
  have hms : m * sz ≤ n * sz := Nat.mul_le_mul_right _ hm
  refine ⟨by rw [List.length_take]; omega, ?_⟩
  rcases h2 with ⟨h2, rfl⟩ | ⟨g, cap, cur, h2, h3, h4, h5, h6, h7, h8⟩
  · obtain rfl : m = 0 := by omega
    cases h2
    exact .inl ⟨rfl, rfl⟩
  · cases h2
    refine .inr ⟨g, _, cur, rfl, h3, h4, by omega, h6, h7, ?_⟩
    rw [← h8, List.take_take, Nat.min_eq_left hms]
theorem s_cut {sz : Nat} {y z : Opd} {v : AV} {e' : Env} (hok : okOp P ν o.op (.cut sz y z) = true) (hx : opx e (.cut sz y z) = some (v, e')) :
    ∃ cv w', (execOp a.eval o).run P w = .ok (.value cv) w' ∧ StepR P w w' Φ σ ρ f v cv e' := by
  simp only [opx, cutX] at hx
  simp only [okOp] at hok
  split at hok
  · rename_i t x1 x2 ho
    simp only [Bool.and_eq_true] at hok
    obtain ⟨⟨hx1, hx2⟩, hu⟩ := hok
    split at hx
    · rename_i xv k m hv1 hv2
      split at hx
      · rename_i s t' n cs e2 htk
        split at hx
        · rename_i hcond
          obtain ⟨hm0, hmn, hlen⟩ := hcond
          simp only [Option.some.injEq, Prod.mk.injEq] at hx
          obtain ⟨rfl, rfl⟩ := hx
          have c1 := ev_rel h hl hx1 hv1 (fun _ => 0) (fun _ => rfl)
          have c2 := VR_int (ev_rel h hl hx2 hv2 (fun _ => 0) (fun _ => rfl))
          obtain ⟨k1, k2, hbase, he2, hk, _⟩ := takeC_rel h hi.sep c1 htk
          have hk' : ∀ b, f b = k1 b + k2 b := fun b => by simpa using hk b
          simp only [VR] at hbase
          obtain ⟨_, hhc, xs, q1, hown, hxs, hq⟩ := hbase
          obtain ⟨ao, cap, e3, hcap, hne, _⟩ := ownsRow_slice hown
          split at hu
          · rename_i el hu'
            simp only [szOf, beq_iff_eq, Option.map_eq_some_iff] at hu
            obtain ⟨inf, hinf, rfl⟩ := hu
            have hr := run_bounds (P := P) (w := w) (a := a) true (lo := none) (l := 0) (.inl ⟨rfl, rfl⟩) (.inr ⟨k, x2, rfl, c2⟩) (Int.le_refl 0) hm0 hmn hcap
            rw [e3] at hown
            have hmn' : m.toNat ≤ n := by omega
            have hcut := owns_cut hown hmn'
            obtain ⟨q2, q3, t1, t2, hq23⟩ := CR_take_drop (m.toNat * P.cellsOf t') hxs
            have hcs : cs.take (m.toNat * inf.size) = cs.take (m.toNat * P.cellsOf t') := by
              by_cases hn0 : n = 0
              · have : m.toNat = 0 := by omega
                rw [this, Nat.zero_mul, Nat.zero_mul]
              · have e5 : cs.length = n * P.cellsOf t' := by rw [CR_length hxs]; exact hown.1
                have : n * inf.size = n * P.cellsOf t' := by omega
                rw [Nat.eq_of_mul_eq_mul_left (by omega) this]
            have how : own1 (.slice ao m.toNat cap) = own1 (a.eval x1) := by rw [e3]; funext b; simp only [own1, Value.ownBlock]; cases ao <;> rfl
            have hhc2 : hrs (cs.take (m.toNat * P.cellsOf t')) = false := by
              rw [← List.take_append_drop (m.toNat * P.cellsOf t') cs, hrs_append, Bool.or_eq_false_iff] at hhc
              exact hhc.1
            refine ⟨.slice ao m.toNat cap, w, ?_, ⟨Ext.refl _ _, fun b => own1 (a.eval x1) b + q2 b, k2, ?_, he2, fun b => ?_, fun b hb => ?_⟩⟩
            · simp only [Option.map_none, Option.map_some] at hr
              have hao : ao.map (fun x => x.add 0) = ao := by cases ao <;> simp [Addr.add]
              simp [execOp, ho, e3, Instr.sliceAt, run_underlying hu', Instr.slice, hr, sizeOf, typeInfo, hinf, hao]
            · simp only [VR]
              refine ⟨fun h => absurd rfl h, by rw [hcs]; exact hhc2, _, q2, hcut, by rw [hcs]; exact t1, fun b => by rw [how]⟩
            · have := hi.sep b; have := hk' b; have := hq b; have := hq23 b
              show own1 (a.eval x1) b + q2 b + k2 b ≤ 1
              omega
            · have h1 : 1 ≤ own1 (a.eval x1) b + q2 b + k2 b := hb
              have := hk' b; have := hq b; have := hq23 b
              have h2 : 1 ≤ f b := by omega
              exact ⟨.inl h2, hi.lt b h2⟩
          · cases hu
        · cases hx
      · cases hx
    · cases hx
  · cases hok
theorem s_append {el sz : Nat} {y z : Opd} {v : AV} {e' : Env} (hok : okOp P ν o.op (.append el sz y z) = true) (hx : opx e (.append el sz y z) = some (v, e')) :
    ∃ cv w', (execOp a.eval o).run P w = .ok (.value cv) w' ∧ StepR P w w' Φ σ ρ f v cv e' := by
  simp only [opx] at hx
  simp only [okOp] at hok
  split at hok
  · rename_i c ho
    split at hok
    · rename_i x1 x2 t t' hcal hargs htys
      simp only [Bool.and_eq_true, beq_iff_eq] at hok
      obtain ⟨⟨⟨⟨hx1, hx2⟩, hel⟩, hok2⟩, rfl⟩ := hok
      have hu := elem_parts hel
      obtain ⟨inf, zv, hinf, hs, hs0, hby, hzz, hzs, hco⟩ := elemOk_parts hok2
      have ha : c.args.map a.eval = #[a.eval x1, a.eval x2] := by
        have : c.args = #[x1, x2] := by rw [← Array.toArray_toList (xs := c.args), hargs]
        rw [this]; simp
      have hty : c.argTypes = #[t, t] := by rw [← Array.toArray_toList (xs := c.argTypes), htys]
      split at hx
      rotate_left
      · cases hx
      rename_i v0 ev0 hap
      simp only [Option.some.injEq, Prod.mk.injEq] at hx
      obtain ⟨rfl, rfl⟩ := hx
      simp only [appX] at hap
      have hx := hap; clear hap
      split at hx
      · rename_i sv xv hv1 hv2
        split at hx
        · rename_i m new e1 hel1
          split at hx
          · rename_i t' n cs e2 htk
            split at hx
            · rename_i hcond
              obtain ⟨rfl, hb⟩ := hcond
              simp only [Option.some.injEq, Prod.mk.injEq] at hx
              obtain ⟨rfl, rfl⟩ := hx
              have c1 := ev_rel h hl hx1 hv1 (fun _ => 0) (fun _ => rfl)
              have c2 := ev_rel h hl hx2 hv2 (fun _ => 0) (fun _ => rfl)
              obtain ⟨ao, cc, news, f1, f2, e0, hne, hnl, hncell, hone, hnew, he1, hf, hhr⟩ := elems_rel h hi hco c2 hel1
              have hsep1 : ∀ b, f2 b ≤ 1 := fun b => by have := hi.sep b; have := hf b; omega
              obtain ⟨k1, k2, hbase, he2, hk, _⟩ := takeC_rel he1 hsep1 c1 htk
              have hk' : ∀ b, f2 b = k1 b + k2 b := fun b => by simpa using hk b
              simp only [VR] at hbase
              obtain ⟨_, hhc, xs, q1, hown, hxs, hq⟩ := hbase
              rw [hco] at hown
              obtain ⟨v', w', hr, hown', hgr, hblk⟩ := app_run (P := P) t o.type t' inf zv sz hu hinf hzz hs hzs hs0 hby (a.eval x1) n xs hown ao m cc hne news hnl hncell hone hb
              have hbl : ∀ b, b < w.heap.size → own1 (a.eval x1) b = 0 → w'.heap[b]? = w.heap[b]? := fun b hb h0 => hgr.block b hb (by
                intro e; simp [own1, ← e] at h0)
              have hΦ : ∀ x, Φ x → w'.heap[x]? = w.heap[x]? := fun x hx => hbl x (hi.fz x hx) (by have := hi.apart x hx; have := hf x; have := hk' x; have := hq x; omega)
              have keep : ∀ {g : Cnt}, (∀ b, g b + own1 (a.eval x1) b ≤ 1) → (∀ b, 1 ≤ g b → 1 ≤ f b) → ∀ b, 1 ≤ g b → w'.heap[b]? = w.heap[b]? := fun h1 h2 b hb => hbl b (hi.lt b (h2 b hb)) (by have := h1 b; omega)
              have hk2all : ∀ b, 1 ≤ k2 b → w'.heap[b]? = w.heap[b]? := keep (fun b => by have := hi.sep b; have := hf b; have := hk' b; have := hq b; omega) (fun b hb => by have := hf b; have := hk' b; omega)
              obtain ⟨k2', s3, hk2⟩ := killL_keep he2 hk2all hΦ he2 hk2all
              refine ⟨v', w', ?_, ⟨⟨hgr.os, hgr.tape, hgr.output, hgr.size, fun b hb0 h0 => hbl b hb0 (by have := hf b; have := hk' b; have := hq b; omega)⟩, ?_⟩⟩
              · simp [execOp, ho, resolve, hcal, ha, hty, invoke, builtin, e0] at hr ⊢
                simp [hr]
              · have s1 := CR_stab w' Φ ρ hΦ (fun _ h => h) _ _ _ hhc (keep (fun b => by have := hi.sep b; have := hf b; have := hk' b; have := hq b; omega) (fun b hb => by have := hf b; have := hk' b; have := hq b; omega)) hxs
                have s2 := CR_stab w' Φ ρ hΦ (fun _ h => h) _ _ _ hhr (keep (fun b => by have := hi.sep b; have := hf b; have := hk' b; have := hq b; omega) (fun b hb => by have := hf b; omega)) hnew
                refine ⟨fun b => own1 v' b + (q1 b + f1 b), k2', ?_, s3, fun b => ?_, fun b hb1 => ?_⟩
                · simp only [VR]
                  refine ⟨fun h => absurd rfl h, by rw [hrs_append, hhc, hhr]; rfl, xs ++ news, _, by rw [hco]; exact hown', CR_append s1 s2, fun b => rfl⟩
                · show own1 v' b + (q1 b + f1 b) + k2' b ≤ 1
                  have h1 := hi.sep b
                  have h2 := hf b; have h3 := hk' b; have h4 := hq b; have h5 := hk2 b
                  rcases hblk with e5 | e5
                  · have : own1 v' b = own1 (a.eval x1) b := by simp only [own1, e5]
                    omega
                  · by_cases hbs : b = w.heap.size
                    · have : ¬ 1 ≤ f b := fun h1 => by have := hi.lt b h1; omega
                      have : own1 v' b ≤ 1 := by simp only [own1]; split <;> omega
                      omega
                    · have : own1 v' b = 0 := by simp [own1, e5]; omega
                      omega
                · have hb2 : 1 ≤ own1 v' b + (q1 b + f1 b) + k2' b := hb1
                  have h2 := hf b; have h3 := hk' b; have h4 := hq b; have h5 := hk2 b
                  by_cases h0 : own1 v' b = 0
                  · have h1 : 1 ≤ f b := by omega
                    exact ⟨.inl h1, by have := hi.lt b h1; have := hgr.size; omega⟩
                  · have e6 : v'.ownBlock = some b := by
                      by_cases e6 : v'.ownBlock = some b
                      · exact e6
                      · simp [own1, e6] at h0
                    have hlt := (hown'.lt b e6).2
                    rcases hblk with e5 | e5
                    · have : own1 (a.eval x1) b = 1 := by simp only [own1, ← e5, e6, if_true]
                      exact ⟨.inl (by omega), hlt⟩
                    · rw [e6] at e5
                      obtain rfl := Option.some.inj e5
                      exact ⟨.inr (Nat.le_refl _), hlt⟩
            · cases hx
          · cases hx
        · cases hx
      · cases hx
    · cases hok
  · cases hok
end
end
end Go.AM
