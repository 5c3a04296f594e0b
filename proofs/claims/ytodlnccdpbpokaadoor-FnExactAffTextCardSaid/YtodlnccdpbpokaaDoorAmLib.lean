/- What the library's functions say, by their contracts: nothing that was there is written. -/
import Derived.Test.YtodlnccdpbpokaaDoorAmBase
import Derived.Below
import Derived.Sort.Grow
import Derived.Deep.Draws
import Derived.Lib.Join
set_option linter.unusedSimpArgs false
set_option linter.unusedVariables false
namespace Go.AM
open Go

theorem noSts_append {a b : List AV} : noSts (a ++ b) = (noSts a && noSts b) := by
  induction a with
  | nil => simp [noSts]
  | cons x a ih => simp [noSts, ih, Bool.and_assoc]
theorem noFrzs_append {a b : List AV} : noFrzs (a ++ b) = (noFrzs a && noFrzs b) := by
  induction a with
  | nil => simp [noFrzs]
  | cons x a ih => simp [noFrzs, ih, Bool.and_assoc]
attribute [simp] noSts_append noFrzs_append

/-- Behind the call all that was there is as it was. -/
structure Still (w w' : World) : Prop where
  os : w'.os = w.os
  tape : w'.tape = w.tape
  output : w'.output = w.output
  size : w.heap.size ≤ w'.heap.size
  block : ∀ k, k < w.heap.size → w'.heap[k]? = w.heap[k]?
theorem Still.refl (w : World) : Still w w := ⟨rfl, rfl, rfl, Nat.le_refl _, fun _ _ => rfl⟩
theorem Still.of_below {w w' : World} (h : RowKit.Below w.heap.size w w') : Still w w' := ⟨h.os, h.tape, h.output, h.size, h.block⟩
theorem Still.of_grow (w : World) (k : Nat) (os : Array Obj) : Still w (Go.Sort.grow (w.drewN k) os) := by
  refine ⟨rfl, rfl, rfl, ?_, fun b hb => ?_⟩
  · show w.heap.size ≤ (w.heap ++ os).size
    simp
  · show (w.heap ++ os)[b]? = _
    rw [Array.getElem?_append_left hb]
theorem Still.ext {w w' : World} (h : Still w w') (f : Cnt) : Ext w w' f := ⟨h.os, h.tape, h.output, h.size, fun b hb _ => h.block b hb⟩
theorem Still.inv {P : Program} {w w' : World} {Φ : Nat → Prop} {f : Cnt} (h : Still w w') (hi : Inv P w Φ f) : Inv P w' Φ f :=
  ⟨hi.sep, fun b hb => Nat.lt_of_lt_of_le (hi.lt b hb) h.size, fun b hb => Nat.lt_of_lt_of_le (hi.fz b hb) h.size, hi.apart, tabs_keep hi.tab (fun b hb => h.block b (hi.fz b hb)) (fun _ h => h)⟩

/-- A contract of a function that hands back a number, a flag, a text. -/
theorem Says_lib {P : Program} {g : Nat} {args : List AV} {res : AV} (hres : isScalar res = true)
    (h : ∀ (w : World) (Φ : Nat → Prop) (σ : Nat → Value) (cargs : Array Value) (fa : Cnt), CR P w Φ σ [] args cargs.toList fa → Inv P w Φ fa →
      Calls P g cargs w fun en w' => ∃ cv, en = .returned cv ∧ Still w w' ∧ ∀ w', VR P w' Φ σ [] res cv (fun _ => 0)) : Says P g args res [] := by
  intro w Φ σ cargs fa hcr _ hinv
  refine (h w Φ σ cargs fa hcr hinv).mono ?_
  rintro en w' ⟨cv, rfl, hst, hv⟩
  have hr0 : hr res = false := by cases res <;> simp [isScalar] at hres <;> rfl
  refine ⟨cv, Φ, fun _ => 0, fun _ => 0, rfl, hst.ext _, fun _ h => h, fun _ h => .inl h, hv w', hr0, ?_, rfl, ?_, fun b hb => by simp at hb⟩
  · simpa using CR_nil
  · have := hst.inv hinv
    exact ⟨fun b => by simp, fun b hb => by simp at hb, this.fz, fun b _ => by simp, this.tab⟩
/-- The table that Itoa reads. -/
theorem tab_pow {P : Program} {w : World} {Φ : Nat → Prop} {f : Cnt} (h : Inv P w Φ f) {g : Nat} (hg : P.globalNamed "internal/strconv.uint64pow10" = some g) : Lib.TabIs P w "internal/strconv.uint64pow10" .u64 Lib.pow10Tab :=
  (h.tab ("internal/strconv.uint64pow10", (Lib.pow10Tab.map fun z => Value.int .u64 z).toArray) (by simp [tabList]) g hg).2
theorem CR_int {P : Program} {w : World} {Φ : Nat → Prop} {σ : Nat → Value} {k : IntKind} {n : Int} {vs : List Value} {f : Cnt} (h : CR P w Φ σ [] [.int k n] vs f) : vs = [.int k n] := by
  simp only [CR, VR] at h
  obtain ⟨v, vs', f1, f2, rfl, ⟨rfl, _⟩, ⟨rfl, _⟩, _⟩ := h
  rfl
/-- A scalar as it lies in memory. -/
def dv : D → Value
  | .I k n => .int k n
  | .B b => .bool b
  | .S s => .string ⟨s.toArray⟩
  | .L _ _ _ => .nilFunc

section
variable {P : Program} {w : World} {Φ : Nat → Prop} {σ : Nat → Value} {ρ : List Value}
theorem VR_sc {d : D} {v : Value} {f : Cnt} (hd : isL d = false) (h : VR P w Φ σ ρ (Ow d) v f) : v = dv d ∧ ∀ b, f b = 0 := by
  cases d with
  | I k n => simp only [Ow_I, VR] at h; exact h
  | B b => simp only [Ow_B, VR] at h; exact h
  | S s => simp only [Ow_S, VR] at h; exact h
  | L e n cs => simp [isL] at hd
theorem VR_sc' {d : D} (hd : isL d = false) : VR P w Φ σ ρ (Ow d) (dv d) (fun _ => 0) := by
  cases d with
  | I k n => simp [VR, dv]
  | B b => simp [VR, dv]
  | S s => simp [VR, dv]
  | L e n cs => simp [isL] at hd
theorem CR_sc : ∀ {ds : List D} {vs : List Value} {f : Cnt}, (∀ d ∈ ds, isL d = false) → CR P w Φ σ ρ (Ows ds) vs f → vs = ds.map dv ∧ ∀ b, f b = 0
  | [], vs, f, _, h => by simp only [Ows_nil, CR] at h; simpa using h
  | d :: ds, vs, f, hd, h => by
    simp only [Ows_cons, CR] at h
    obtain ⟨v, vs', f1, f2, rfl, h1, h2, hf⟩ := h
    obtain ⟨rfl, z1⟩ := VR_sc (hd d (by simp)) h1
    obtain ⟨rfl, z2⟩ := CR_sc (fun x hx => hd x (by simp [hx])) h2
    exact ⟨by simp, fun b => by rw [hf b, z1 b, z2 b]⟩
theorem CR_sc' : ∀ {ds : List D}, (∀ d ∈ ds, isL d = false) → CR P w Φ σ ρ (Ows ds) (ds.map dv) (fun _ => 0)
  | [], _ => by simp [CR]
  | d :: ds, hd => by
    have := CR_cons (VR_sc' (P := P) (w := w) (Φ := Φ) (σ := σ) (ρ := ρ) (hd d (by simp))) (CR_sc' (ds := ds) (fun x hx => hd x (by simp [hx])))
    simpa using this
end


/-- strings.Join: what is given is given back. -/
theorem says_join {P : Program} {g e : Nat} (hcell : P.cellsOf e = 1) (xs : List (List UInt8)) (sep : List UInt8)
    (hsome : ∀ (w : World) (blk cap : Nat), (∀ j x, xs[j]? = some x → w.cell? ⟨blk, j, none⟩ = some (.string ⟨x.toArray⟩)) → blk < w.heap.size → xs.length ≤ cap →
      Calls P g #[.slice (some ⟨blk, 0, none⟩) xs.length cap, .string ⟨sep.toArray⟩] w fun en w' => en = .returned (.string ⟨(Lib.join xs sep).toArray⟩) ∧ Still w w')
    (hnone : ∀ (w : World), Calls P g #[.slice none 0 0, .string ⟨sep.toArray⟩] w fun en w' => en = .returned (.string ⟨#[]⟩) ∧ w' = w) :
    Says P g [.osl 1 e xs.length (Ows (xs.flatMap dStr)), .str sep] (.str (Lib.join xs sep)) [(1, .osl 1 e xs.length (Ows (xs.flatMap dStr)))] := by
  intro w Φ σ cargs fa hcr hh hinv
  simp only [CR] at hcr
  obtain ⟨v, vs', f1, f2, hca, hv, ⟨u, vs2, f3, f4, hvs, hu, ⟨rfl, hz4⟩, hf2⟩, hfa⟩ := hcr
  simp only [VR] at hu
  obtain ⟨rfl, hz3⟩ := hu
  subst hvs
  have hsc : ∀ d ∈ xs.flatMap dStr, isL d = false := fun d hd => by
    obtain ⟨x, _, hx⟩ := List.mem_flatMap.1 hd
    simp at hx; subst hx; rfl
  simp only [VR] at hv
  obtain ⟨hst, hx, cs, f5, ho, hc, hb⟩ := hv
  obtain ⟨rfl, hz5⟩ := CR_sc hsc hc
  have hcargs : cargs = #[v, .string ⟨sep.toArray⟩] := by
    apply Array.toList_inj.1; rw [hca]
  have hs1 : σ 1 = v := hst (by simp)
  have hfv : ∀ b, fa b = own1 v b := fun b => by rw [hfa b, hf2 b, hz3 b, hz4 b, hb b, hz5 b]; omega
  -- what is handed back
  have back : ∀ (w' : World) (s : List UInt8), Still w w' → ∃ (cv : Value) (Φ' : Nat → Prop) (f1 f2 : Cnt), Ending.returned (.string ⟨s.toArray⟩) = .returned cv ∧ Ext w w' fa ∧ (∀ b, Φ b → Φ' b) ∧ (∀ b, Φ' b → Φ b ∨ 1 ≤ fa b ∨ w.heap.size ≤ b) ∧
      VR P w' Φ' σ [] (.str s) cv f1 ∧ hr (.str s) = false ∧ CR P w' Φ' σ [] ([(1, AV.osl 1 e xs.length (Ows (xs.flatMap dStr)))].map (·.2)) ([(1, AV.osl 1 e xs.length (Ows (xs.flatMap dStr)))].map fun p => σ p.1) f2 ∧ hrs ([(1, AV.osl 1 e xs.length (Ows (xs.flatMap dStr)))].map (·.2)) = false ∧
      Inv P w' Φ' (fun b => f1 b + f2 b) ∧ (∀ b, 1 ≤ f1 b + f2 b → 1 ≤ fa b ∨ w.heap.size ≤ b) := by
    intro w' s hstl
    refine ⟨_, Φ, fun _ => 0, fa, rfl, hstl.ext _, fun _ h => h, fun _ h => .inl h, by simp [VR], rfl, ?_, by simp [hrs, hr], ?_, fun b h => .inl (by simpa using h)⟩
    · refine CR_one ?_
      simp only [VR]
      refine ⟨by simp, hx, (xs.flatMap dStr).map dv, fun _ => 0, ?_, CR_sc' hsc, fun b => by rw [hfv b, hs1]; rfl⟩
      show w'.ownsRow 0 e (P.cellsOf e) (σ 1) xs.length _
      rw [hs1]
      refine ⟨ho.1, ?_⟩
      rcases ho.2 with hn | ⟨gb, cap, cur, e1, h0, hg, rest⟩
      · exact .inl hn
      · refine .inr ⟨gb, cap, cur, e1, h0, ?_, rest⟩
        rw [hstl.block gb (Array.getElem?_eq_some_iff.1 hg).1]
        exact hg
    · have e0 : (fun b => (fun _ => 0) b + fa b) = fa := funext fun b => by simp
      rw [e0]; exact hstl.inv hinv
  rw [hcargs]
  rcases ho.2 with ⟨rfl, h0⟩ | ⟨gb, cap, cur, rfl, _, hg, hn, hm, hs, ht⟩
  · have hxs : xs = [] := List.eq_nil_of_length_eq_zero h0
    subst hxs
    refine (hnone w).mono ?_
    rintro en w' ⟨rfl, rfl⟩
    exact back w' [] (Still.refl _)
  · refine (hsome w gb cap (fun j x hj => ?_) (Array.getElem?_eq_some_iff.1 hg).1 hn).mono ?_
    · have hj1 : ((xs.flatMap dStr).map dv)[j]? = some (.string ⟨x.toArray⟩) := by
        have := row_drop dStr 1 (fun _ => by simp) hj
        rw [Nat.mul_one] at this
        have h2 : (xs.flatMap dStr)[j]? = some (.S x) := by
          have h3 := congrArg (·[0]?) this
          simpa using h3
        rw [List.getElem?_map, h2]; rfl
      have := ho.cells (g := gb) rfl j _ hj1
      simpa [add_lit] using this
    · rintro en w' ⟨rfl, hstl⟩
      exact back w' _ hstl
end Go.AM
