/- What the library's functions say, by their contracts: nothing that was there is written. -/
import Derived.Test.YtodlnccdpbpokaaDoorAmBase
import Derived.Below
import Derived.Sort.Grow
import Derived.Deep.Draws
set_option linter.unusedSimpArgs false
set_option linter.unusedVariables false
namespace Go.AM
open Go

/-- Behind the call all that was there is as it was. -/
structure Still (w w' : World) : Prop where
  os : w'.os = w.os
  tape : w'.tape = w.tape
  output : w'.output = w.output
  size : w.heap.size ≤ w'.heap.size
  block : ∀ k, k < w.heap.size → w'.heap[k]? = w.heap[k]?
theorem Still.refl (w : World) : Still w w := ⟨rfl, rfl, rfl, Nat.le_refl _, fun _ _ => rfl⟩
theorem Still.of_below {w w' : World} (h : RowKit.Below w.heap.size w w') : Still w w' := ⟨h.os, h.tape, h.output, h.size, h.block⟩
theorem Still.of_grow (w : World) (k : Nat) (os : Array Obj) : Still w (Go.Sort.grow (w.drewN k) os) := by
  refine ⟨rfl, rfl, rfl, ?_, fun b hb => ?_⟩
  · show w.heap.size ≤ (w.heap ++ os).size
    simp
  · show (w.heap ++ os)[b]? = _
    rw [Array.getElem?_append_left hb]
theorem Still.ext {w w' : World} (h : Still w w') (f : Cnt) : Ext w w' f := ⟨h.os, h.tape, h.output, h.size, fun b hb _ => h.block b hb⟩
theorem Still.inv {P : Program} {w w' : World} {Φ : Nat → Prop} {f : Cnt} (h : Still w w') (hi : Inv P w Φ f) : Inv P w' Φ f :=
  ⟨hi.sep, fun b hb => Nat.lt_of_lt_of_le (hi.lt b hb) h.size, fun b hb => Nat.lt_of_lt_of_le (hi.fz b hb) h.size, hi.apart, tabs_keep hi.tab (fun b hb => h.block b (hi.fz b hb)) (fun _ h => h)⟩

/-- A contract of a function that hands back a number, a flag, a text. -/
theorem Says_lib {P : Program} {g : Nat} {args : List AV} {res : AV} (hres : isScalar res = true)
    (h : ∀ (w : World) (Φ : Nat → Prop) (σ : Nat → Value) (cargs : Array Value) (fa : Cnt), CR P w Φ σ [] args cargs.toList fa → Inv P w Φ fa →
      Calls P g cargs w fun en w' => ∃ cv, en = .returned cv ∧ Still w w' ∧ ∀ w', VR P w' Φ σ [] res cv (fun _ => 0)) : Says P g args res [] := by
  intro w Φ σ cargs fa hcr _ hinv
  refine (h w Φ σ cargs fa hcr hinv).mono ?_
  rintro en w' ⟨cv, rfl, hst, hv⟩
  have hr0 : hr res = false := by cases res <;> simp [isScalar] at hres <;> rfl
  refine ⟨cv, Φ, fun _ => 0, fun _ => 0, rfl, hst.ext _, fun _ h => h, fun _ h => .inl h, hv w', hr0, ?_, rfl, ?_, fun b hb => by simp at hb⟩
  · simpa using CR_nil
  · have := hst.inv hinv
    exact ⟨fun b => by simp, fun b hb => by simp at hb, this.fz, fun b _ => by simp, this.tab⟩
/-- The table that Itoa reads. -/
theorem tab_pow {P : Program} {w : World} {Φ : Nat → Prop} {f : Cnt} (h : Inv P w Φ f) {g : Nat} (hg : P.globalNamed "internal/strconv.uint64pow10" = some g) : Lib.TabIs P w "internal/strconv.uint64pow10" .u64 Lib.pow10Tab :=
  (h.tab ("internal/strconv.uint64pow10", (Lib.pow10Tab.map fun z => Value.int .u64 z).toArray) (by simp [tabList]) g hg).2
theorem CR_int {P : Program} {w : World} {Φ : Nat → Prop} {σ : Nat → Value} {k : IntKind} {n : Int} {vs : List Value} {f : Cnt} (h : CR P w Φ σ [] [.int k n] vs f) : vs = [.int k n] := by
  simp only [CR, VR] at h
  obtain ⟨v, vs', f1, f2, rfl, ⟨rfl, _⟩, ⟨rfl, _⟩, _⟩ := h
  rfl
end Go.AM
