/- From what is handed in to abstract values. -/
import Derived.Test.YtodlnccdpbpokaaDoorAmData
import Derived.ChangeArms
set_option linter.unusedSimpArgs false
set_option linter.unusedVariables false
set_option linter.unusedSectionVars false
namespace Go.AM
open Go

section
variable {H : Type} {enc : TypeId × Value → H} {P : Program} {w : World} {Φ : Nat → Prop} {σ : Nat → Value} {ρ : List Value}

/-- Some cells read as these data. -/
def Rd (P : Program) (w : World) (ds : List D) (cs : List Value) : Prop := ∀ (Φ : Nat → Prop) (σ : Nat → Value) (ρ : List Value), (∀ b, b < w.heap.size → Φ b) → CR P w Φ σ ρ (Cs ds) cs (fun _ => 0)

theorem Rd_nil : Rd P w [] [] := fun _ _ _ _ => by simpa using CR_nil
theorem Rd_one {d : D} {v : Value} (h : ∀ (Φ : Nat → Prop) (σ : Nat → Value) (ρ : List Value), (∀ b, b < w.heap.size → Φ b) → VR P w Φ σ ρ (C d) v (fun _ => 0)) : Rd P w [d] [v] := fun Φ σ ρ hΦ => by
  simpa using CR_cons (h Φ σ ρ hΦ) CR_nil
theorem Rd_append {a b : List D} {cs cs' : List Value} (h : Rd P w a cs) (h' : Rd P w b cs') : Rd P w (a ++ b) (cs ++ cs') := fun Φ σ ρ hΦ => by
  simpa using CR_append (h Φ σ ρ hΦ) (h' Φ σ ρ hΦ)
theorem Rd_length {a : List D} {cs : List Value} (h : Rd P w a cs) : a.length = cs.length := by
  have := CR_length (h (fun _ => True) (fun _ => undef) [] (fun _ _ => trivial))
  simpa using this

/-- One field, and those behind it. -/
theorem Rd_seg {a b : List D} {cs : List Value} {o s : Nat} (h : Rd P w a ((cs.drop o).take s)) (h' : Rd P w b (cs.drop (o + s))) : Rd P w (a ++ b) (cs.drop o) := by
  have := Rd_append h h'
  rwa [← List.drop_drop, List.take_append_drop] at this
theorem Rd_end {cs : List Value} {o : Nat} (h : cs.length = o) : Rd P w [] (cs.drop o) := by
  rw [List.drop_eq_nil_of_le (by omega)]; exact Rd_nil

theorem Rd_int {k : IntKind} {n : Int} : Rd P w [.I k n] [.int k n] := Rd_one fun _ _ _ _ => by simp [VR]
theorem Rd_bool {b : Bool} : Rd P w [.B b] [.bool b] := Rd_one fun _ _ _ _ => by simp [VR]
theorem Rd_str {s : ByteArray} : Rd P w [.S s.data.toList] [.string s] := Rd_one fun _ _ _ _ => by simp [VR]

theorem FC_append {cs ds : List AV} {a : Option Addr} : ∀ {j : Nat}, FC P w Φ σ ρ cs a j → FC P w Φ σ ρ ds a (j + cs.length) → FC P w Φ σ ρ (cs ++ ds) a j := by
  induction cs with
  | nil => intro j _ h; simpa using h
  | cons c cs ih =>
    intro j h h'
    simp only [FC, List.cons_append] at h ⊢
    exact ⟨h.1, ih h.2 (by simpa [Nat.add_assoc, Nat.add_comm 1] using h')⟩

theorem FC_rd {ds : List D} : ∀ {cs : List Value} {a : Addr} {j : Nat}, CR P w Φ σ ρ (Cs ds) cs (fun _ => 0) → (∀ b, b < w.heap.size → Φ b) → (∀ i u, cs[i]? = some u → w.cell? (a.add (j + i)) = some u) → FC P w Φ σ ρ (Cs ds) (some a) j := by
  induction ds with
  | nil => intro cs a j _ _ _; simp [FC]
  | cons d ds ih =>
    intro cs a j h hΦ hc
    simp only [Cs_cons, CR] at h
    obtain ⟨v, vs, f1, f2, rfl, h1, h2, hf⟩ := h
    have e1 : f1 = fun _ => 0 := funext fun b => by have : 0 = f1 b + f2 b := hf b; omega
    have e2 : f2 = fun _ => 0 := funext fun b => by have : 0 = f1 b + f2 b := hf b; omega
    subst e1 e2
    simp only [Cs_cons, FC]
    have h0 := hc 0 v rfl
    refine ⟨⟨a, v, rfl, hΦ _ ?_, by simpa using h0, isFz_C, fun f hz => ?_⟩, ih h2 hΦ fun i u hi => ?_⟩
    · unfold World.cell? at h0
      split at h0
      · rename_i hb
        have := (Array.getElem?_eq_some_iff.1 hb).1
        rwa [add_block] at this
      · cases h0
    · rw [show f = fun _ => 0 from funext hz]; exact h1
    · have := hc (i + 1) u (by simpa using hi)
      rwa [show j + 1 + i = j + (i + 1) by omega]

theorem cells_each {a : Addr} {n : Nat} {cs : List Value} (h : w.cells? 0 a n = some cs) : ∀ i u, cs[i]? = some u → w.cell? (a.add i) = some u := by
  intro i u hi
  obtain ⟨_, h2, h3⟩ := World.cells?_some h
  have hl : i < cs.length := (List.getElem?_eq_some_iff.1 hi).1
  rw [h3 i (by omega), hi]

/-- The elements of a slice. -/
theorem Rd_elems {T : Type} (td : T → List D) (ok : T → Prop) (k : Nat) (hk : ∀ x, (td x).length = k) {a : Addr} : ∀ (len : Nat), (∀ i, i < len → ∃ cs, w.cells? 0 (a.add (i * k)) k = some cs ∧ ∃ x, ok x ∧ Rd P w (td x) cs) →
    ∃ xs : List T, xs.length = len ∧ (∀ x ∈ xs, ok x) ∧ ∀ (Φ : Nat → Prop) (σ : Nat → Value) (ρ : List Value), (∀ b, b < w.heap.size → Φ b) → FC P w Φ σ ρ (Cs (xs.flatMap td)) (some a) 0
  | 0, _ => ⟨[], rfl, by simp, fun _ _ _ _ => by simp [FC]⟩
  | len + 1, h => by
    obtain ⟨xs, h1, h2, h3⟩ := Rd_elems td ok k hk len fun i hi => h i (by omega)
    obtain ⟨cs, hc, x, hx, hr⟩ := h len (by omega)
    have hl : (xs.flatMap td).length = len * k := by
      rw [List.length_flatMap]
      have : xs.map (fun x => (td x).length) = List.replicate len k := by
        apply List.ext_getElem
        · simp [h1]
        · intro j q1 q2; simp [hk]
      rw [this]; simp
    refine ⟨xs ++ [x], by simp [h1], fun y hy => ?_, fun Φ σ ρ hΦ => ?_⟩
    · rcases List.mem_append.1 hy with h | h
      · exact h2 y h
      · simp at h; subst h; exact hx
    · rw [List.flatMap_append, Cs_append]
      refine FC_append (h3 Φ σ ρ hΦ) ?_
      simp only [List.flatMap_cons, List.flatMap_nil, List.append_nil]
      refine FC_rd (hr Φ σ ρ hΦ) hΦ fun i u hi => ?_
      have := cells_each hc i u hi
      rw [add_add] at this
      rw [Cs_length, hl, Nat.zero_add]
      exact this

/-- A slice. -/
theorem Rd_slice {T : Type} (td : T → List D) (ok : T → Prop) (k e el : Nat) (hk : ∀ x, (td x).length = k) {t : TypeId} (ht : P.underlying t = some (.slice e)) (hke : P.cellsOf e = k) {spare : Nat → Bool} {held : Bool} {fuel : Nat} {cs : List Value} {x : DataW H × List MemPlace}
    (h : DataW.trod enc P w 0 spare held fuel t cs = some x) (hT : ∀ n, n < fuel → ∀ cs x, DataW.trod enc P w 0 spare held n e cs = some x → ∃ y, ok y ∧ Rd P w (td y) cs) :
    ∃ xs : List T, xs.length ≤ maxLen ∧ (∀ x ∈ xs, ok x) ∧ Rd P w [.L el xs.length (xs.flatMap td)] cs := by
  rcases DataW.trod_slice ht h with ⟨rfl, _⟩ | ⟨a, len, cap, elems, rest, n, rfl, rfl, _, _, hlc, hcm, hel, helems, _, _⟩
  · refine ⟨[], by simp [maxLen], by simp, Rd_one fun Φ σ ρ hΦ => ?_⟩
    simp only [C_L, VR]
    exact ⟨⟨none, 0, rfl, Nat.le_refl _, fun _ => ⟨rfl, rfl⟩, by simp [FC]⟩, fun _ => trivial⟩
  · obtain ⟨xs, h1, h2, h3⟩ := Rd_elems (P := P) td ok k hk (a := a) (w := w) len fun i hi => by
      have := helems i hi
      rw [hke, List.getElem?_eq_getElem (by omega), Option.bind_eq_some_iff] at this
      obtain ⟨cs, hc, hr⟩ := this
      exact ⟨cs, hc, hT n (by omega) cs _ hr⟩
    refine ⟨xs, by omega, h2, Rd_one fun Φ σ ρ hΦ => ?_⟩
    simp only [C_L, VR]
    refine ⟨⟨some a, cap, by rw [h1], by omega, by simp, h3 Φ σ ρ hΦ⟩, by simp⟩
end
end Go.AM
