/- A sort of the library's, by its contract: what is given is given back, sorted. -/
import Derived.Test.YtbpejcnejeihbaaAmBase
import Derived.Shelf.GgSortFunc.InsertionK
set_option linter.unusedSimpArgs false
set_option linter.unusedVariables false
namespace Go.AM
open Go Go.Sort Go.Proofs

/-- A scalar as it lies in memory. -/
def dv : D → Value
  | .I k n => .int k n
  | .B b => .bool b
  | .S s => .string ⟨s.toArray⟩
  | .L _ _ _ => .nilFunc

section
variable {P : Program} {w : World} {Φ : Nat → Prop} {σ : Nat → Value} {ρ : List Value}
theorem VR_sc {d : D} {v : Value} {f : Cnt} (hd : isL d = false) (h : VR P w Φ σ ρ (Ow d) v f) : v = dv d ∧ ∀ b, f b = 0 := by
  cases d with
  | I k n => simp only [Ow_I, VR] at h; exact h
  | B b => simp only [Ow_B, VR] at h; exact h
  | S s => simp only [Ow_S, VR] at h; exact h
  | L e n cs => simp [isL] at hd
theorem VR_sc' {d : D} (hd : isL d = false) : VR P w Φ σ ρ (Ow d) (dv d) (fun _ => 0) := by
  cases d with
  | I k n => simp [VR, dv]
  | B b => simp [VR, dv]
  | S s => simp [VR, dv]
  | L e n cs => simp [isL] at hd
theorem CR_sc : ∀ {ds : List D} {vs : List Value} {f : Cnt}, (∀ d ∈ ds, isL d = false) → CR P w Φ σ ρ (Ows ds) vs f → vs = ds.map dv ∧ ∀ b, f b = 0
  | [], vs, f, _, h => by simp only [Ows_nil, CR] at h; simpa using h
  | d :: ds, vs, f, hd, h => by
    simp only [Ows_cons, CR] at h
    obtain ⟨v, vs', f1, f2, rfl, h1, h2, hf⟩ := h
    obtain ⟨rfl, z1⟩ := VR_sc (hd d (by simp)) h1
    obtain ⟨rfl, z2⟩ := CR_sc (fun x hx => hd x (by simp [hx])) h2
    exact ⟨by simp, fun b => by rw [hf b, z1 b, z2 b]⟩
theorem CR_sc' : ∀ {ds : List D}, (∀ d ∈ ds, isL d = false) → CR P w Φ σ ρ (Ows ds) (ds.map dv) (fun _ => 0)
  | [], _ => by simp [CR]
  | d :: ds, hd => by
    have := CR_cons (VR_sc' (P := P) (w := w) (Φ := Φ) (σ := σ) (ρ := ρ) (hd d (by simp))) (CR_sc' (ds := ds) (fun x hx => hd x (by simp [hx])))
    simpa using this
end

section
variable {α : Type} [Inhabited α]
/-- The rows' cells, one behind the other. -/
theorem flatK_list (enc : α → List Value) (k : Nat) (hk : ∀ x, (enc x).length = k) (xs : List α) : (flatK enc k xs.toArray).toList = xs.flatMap enc := by
  have hl : (xs.flatMap enc).length = xs.length * k := by
    induction xs with
    | nil => simp
    | cons x xs ih => simp [ih, hk, Nat.add_mul, Nat.add_comm]
  apply List.ext_getElem?
  intro t
  by_cases ht : t < xs.length * k
  · have k0 : 0 < k := by rcases Nat.eq_zero_or_pos k with h | h
                          · subst h; simp at ht
                          · exact h
    have h1 : (flatK enc k xs.toArray)[t]! = (enc xs.toArray[t / k]!)[t % k]! := get_flatK enc k xs.toArray t (by simpa using ht)
    have hs : t < (flatK enc k xs.toArray).size := by simpa using ht
    have e1 : (flatK enc k xs.toArray).toList[t]? = some (enc xs.toArray[t / k]!)[t % k]! := by
      rw [← h1, Array.getElem?_toList, Array.getElem?_eq_getElem hs, getElem!_pos _ t hs]
    rw [e1]
    have hq : t / k < xs.length := Nat.div_lt_of_lt_mul (by rw [Nat.mul_comm]; exact ht)
    obtain ⟨x, hx⟩ : ∃ x, xs[t / k]? = some x := ⟨_, List.getElem?_eq_getElem hq⟩
    have hx! : xs.toArray[t / k]! = x := by
      rw [getElem!_pos xs.toArray _ (by simpa using hq)]
      simpa using (List.getElem?_eq_some_iff.1 hx).2
    rw [hx!]
    have hm : t % k < (enc x).length := by rw [hk]; exact Nat.mod_lt _ k0
    have key : ∀ (ys : List α) (i r : Nat) (y : α), ys[i]? = some y → r < k → (ys.flatMap enc)[i * k + r]? = (enc y)[r]? := by
      intro ys
      induction ys with
      | nil => intro i r y h; simp at h
      | cons z zs ih =>
        intro i r y h hr
        cases i with
        | zero =>
          simp at h; subst h
          rw [List.flatMap_cons, Nat.zero_mul, Nat.zero_add, List.getElem?_append_left (by rw [hk]; exact hr)]
        | succ i =>
          rw [List.flatMap_cons, List.getElem?_append_right (by rw [hk, Nat.add_mul]; omega), hk]
          rw [show (i + 1) * k + r - k = i * k + r by rw [Nat.add_mul]; omega]
          exact ih i r y (by simpa using h) hr
    have := key xs (t / k) (t % k) x hx (Nat.mod_lt _ k0)
    rw [show t / k * k + t % k = t by rw [Nat.mul_comm]; exact Nat.div_add_mod t k] at this
    rw [this, List.getElem?_eq_getElem hm, getElem!_pos (enc x) (t % k) hm]
  · rw [List.getElem?_eq_none (by simp; omega), List.getElem?_eq_none (by omega)]

theorem hex_nil {P : Program} (w : World) (Φ : Nat → Prop) (σ : Nat → Value) (vs : List Value) (fa : Cnt) (h : CR P w Φ σ [] [] vs fa) : vs = [] ∧ ∀ b, fa b = 0 := by
  simpa only [CR] using h
theorem hex_fn {P : Program} (g : Nat) (w : World) (Φ : Nat → Prop) (σ : Nat → Value) (vs : List Value) (fa : Cnt) (h : CR P w Φ σ [] [.fn g []] vs fa) : vs = [.func (.func g) #[] #[]] ∧ ∀ b, fa b = 0 := by
  simp only [CR, VR] at h
  obtain ⟨v, vs', f1, f2, rfl, ⟨us, rfl, _, hu, z1⟩, ⟨rfl, z2⟩, hf⟩ := h
  have : us = #[] := Array.toList_inj.1 (by rw [hu])
  subst this
  exact ⟨rfl, fun b => by rw [hf b, z1 b, z2 b]⟩
/-- What a sort says. -/
theorem says_sort {P : Program} (f : α → List D) (k e g : Nat) (hk : ∀ x, (f x).length = k) (hsc : ∀ x, ∀ d ∈ f x, isL d = false) (hcell : P.cellsOf e = k) (xs ys : List α) (hlen : ys.length = xs.length) (ex : List AV) (exv : List Value)
    (hex : ∀ (w : World) (Φ : Nat → Prop) (σ : Nat → Value) (vs : List Value) (fa : Cnt), CR P w Φ σ [] ex vs fa → vs = exv ∧ ∀ b, fa b = 0)
    (hsome : ∀ (w : World) (blk cap : Nat), HoldsK (fun x => (f x).map dv) k w blk 0 xs.toArray → blk < w.heap.size → xs.length ≤ maxLen → Calls P g (#[.slice (some ⟨blk, 0, none⟩) xs.length cap] ++ exv.toArray) w fun en w' => en = .returned (.tuple #[]) ∧ ∃ n os, w' = sortWorldK (fun x => (f x).map dv) k w blk 0 n ys.toArray os)
    (hnone : ∀ (w : World), xs = [] → Calls P g (#[.slice none 0 0] ++ exv.toArray) w fun en w' => en = .returned (.tuple #[]) ∧ w' = w) :
    Says P g (.osl 1 e xs.length (Ows (xs.flatMap f)) :: ex) (.tup [] []) [(1, .osl 1 e xs.length (Ows (ys.flatMap f)))] := by
  intro w Φ σ cargs fa hcr hh hinv
  simp only [CR] at hcr
  obtain ⟨v, vs', f1, f2, hca, hv, he, hfa⟩ := hcr
  obtain ⟨rfl, hz2⟩ := hex w Φ σ vs' f2 he
  have hsc2 : ∀ zs : List α, ∀ d ∈ zs.flatMap f, isL d = false := fun zs d hd => by
    obtain ⟨x, _, hx⟩ := List.mem_flatMap.1 hd
    exact hsc x d hx
  simp only [VR] at hv
  obtain ⟨hst, hx, cs, f3, ho, hc, hb⟩ := hv
  obtain ⟨rfl, hz3⟩ := CR_sc (hsc2 xs) hc
  have hcargs : cargs = #[v] ++ vs'.toArray := by
    apply Array.toList_inj.1; rw [hca]; simp
  have hs1 : σ 1 = v := hst (by simp)
  have hfv : ∀ b, fa b = own1 v b := fun b => by rw [hfa b, hz2 b, hb b, hz3 b]; omega
  rcases ho.2 with ⟨rfl, h0⟩ | ⟨gb, cap, cur, rfl, _, hg, hn, hm, hs, ht⟩
  · have hxs : xs = [] := List.eq_nil_of_length_eq_zero h0
    subst hxs
    have hys : ys = [] := List.eq_nil_of_length_eq_zero (by simpa using hlen)
    subst hys
    rw [hcargs]
    refine (hnone w rfl).mono ?_
    rintro en w' ⟨rfl, rfl⟩
    refine ⟨_, Φ, fun _ => 0, fa, rfl, Ext.refl _ _, fun _ h => h, fun _ h => .inl h, ?_, rfl, ?_, ?_, ?_, fun b h => .inl (by simpa using h)⟩
    · simp [VR, CR, flatV]
    · refine CR_one ?_
      simp only [VR]
      exact ⟨by simp, by simp [hrs], [], fun _ => 0, by rw [hs1]; exact ho, by simp [CR], fun b => by rw [hfv b, hs1]; rfl⟩
    · simp [hrs, hr]
    · have e0 : (fun b => (fun _ => 0) b + fa b) = fa := funext fun b => by simp
      rw [e0]; exact hinv
  · have hg0 : gb < w.heap.size := by
      rw [Array.getElem?_eq_some_iff] at hg; exact hg.1
    have hflat : (flatK (fun x => (f x).map dv) k xs.toArray).toList = (xs.flatMap f).map dv := by
      rw [flatK_list _ k (fun x => by simp [hk]), List.map_flatMap]
    have hflat2 : (flatK (fun x => (f x).map dv) k ys.toArray).toList = (ys.flatMap f).map dv := by
      rw [flatK_list _ k (fun x => by simp [hk]), List.map_flatMap]
    have hH : HoldsK (fun x => (f x).map dv) k w gb 0 xs.toArray := by
      intro j hj
      have hj' : j < xs.length * k := by simpa using hj
      refine ⟨?_, ?_⟩
      · rw [Nat.zero_add, cell_of_row w gb j cur e (0, 0) hg]
        have h1 : (cur.toList.take (xs.length * P.cellsOf e))[j]? = cur[j]? := by
          rw [List.getElem?_take, if_pos (by rw [hcell]; exact hj'), Array.getElem?_toList]
        rw [← h1, ht, ← hflat, Array.getElem?_toList, Array.getElem?_eq_getElem hj]
        show _ = some (id _)
        rw [getElem!_pos _ j hj]; rfl
      · simp [World.frozen?, hg]
    rw [hcargs]
    refine (hsome w gb cap hH hg0 (by omega)).mono ?_
    rintro en w' ⟨rfl, n, os, rfl⟩
    have hheap : (sortWorldK (fun x => (f x).map dv) k w gb 0 n ys.toArray os).heap = w.heap.modify gb (onCells (putCells id 0 (flatK (fun x => (f x).map dv) k ys.toArray))) ++ os := rfl
    have hother : ∀ b, b < w.heap.size → b ≠ gb → (sortWorldK (fun x => (f x).map dv) k w gb 0 n ys.toArray os).heap[b]? = w.heap[b]? := by
      intro b hb1 hb2
      rw [hheap, Array.getElem?_append_left (by simpa using hb1), Array.getElem?_modify, if_neg (Ne.symm hb2)]
    have hcur : (sortWorldK (fun x => (f x).map dv) k w gb 0 n ys.toArray os).heap[gb]? = some (.cells (putCells id 0 (flatK (fun x => (f x).map dv) k ys.toArray) cur) e (0, 0)) := by
      rw [hheap, Array.getElem?_append_left (by simpa using hg0), Array.getElem?_modify, if_pos rfl, hg]
      rfl
    have hsz : w.heap.size ≤ (sortWorldK (fun x => (f x).map dv) k w gb 0 n ys.toArray os).heap.size := by rw [hheap]; simp
    have hown : ∀ b, own1 (.slice (some ⟨gb, 0, none⟩) xs.length cap) b = if b = gb then 1 else 0 := fun b => by
      simp [own1, Value.ownBlock, eq_comm]
    refine ⟨_, Φ, fun _ => 0, fa, rfl, ⟨rfl, rfl, rfl, hsz, fun b hb1 hb2 => hother b hb1 fun e1 => ?_⟩, fun _ h => h, fun _ h => .inl h, ?_, rfl, ?_, ?_, ?_, fun b h => .inl (by simpa using h)⟩
    · have := hfv b; rw [hown b, if_pos e1] at this; omega
    · simp [VR, CR, flatV]
    · refine CR_one ?_
      simp only [VR]
      have h2 : (hrs (Ows (ys.flatMap f))) = false := by simp
      refine ⟨by simp, h2, (ys.flatMap f).map dv, fun _ => 0, ?_, CR_sc' (hsc2 ys), fun b => by rw [hfv b, hs1]; rfl⟩
      rw [hs1]
      have hll : ((ys.flatMap f).map dv).length = xs.length * k := by rw [List.length_map, len_flat f k hk, hlen]
      refine ⟨by rw [hll, hcell], .inr ⟨gb, cap, _, rfl, Nat.zero_le _, hcur, hn, hm, by simpa [putCells] using hs, ?_⟩⟩
      apply List.ext_getElem?
      intro t
      rw [List.getElem?_take, hcell]
      by_cases htt : t < xs.length * k
      · rw [if_pos htt, Array.getElem?_toList]
        have hct : t < cur.size := by rw [hs, hcell]; exact Nat.lt_of_lt_of_le htt (Nat.mul_le_mul_right k hn)
        have hfs : t < (flatK (fun x => (f x).map dv) k ys.toArray).size := by simpa [hlen] using htt
        rw [putCells, Array.getElem?_mapIdx, Array.getElem?_eq_getElem hct, Option.map_some, if_pos ⟨Nat.zero_le _, by omega⟩, ← hflat2, Array.getElem?_toList, Array.getElem?_eq_getElem hfs, Nat.sub_zero, getElem!_pos _ t hfs]
        rfl
      · rw [if_neg htt, List.getElem?_eq_none (by omega)]
    · simp [hrs, hr]
    · have e0 : (fun b => (fun _ => 0) b + fa b) = fa := funext fun b => by simp
      rw [e0]
      exact ⟨hinv.sep, fun b hb1 => Nat.lt_of_lt_of_le (hinv.lt b hb1) hsz, fun b hb1 => Nat.lt_of_lt_of_le (hinv.fz b hb1) hsz, hinv.apart⟩
end
end Go.AM
