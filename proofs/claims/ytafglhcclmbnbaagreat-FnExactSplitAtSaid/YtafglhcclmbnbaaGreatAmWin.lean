/- Part of a proof: see the last text of this folder. -/
import Derived.Test.YtafglhcclmbnbaaGreatAmLib
import Derived.Shelf.GgSortFunc.InsertionK
import Derived.Shelf.Spec.SlicesGrow
/- A sort of the library's, by its contract: what is given is given back, sorted. -/
set_option linter.unusedSimpArgs false
set_option linter.unusedVariables false
namespace Go.AM
open Go Go.Sort Go.Proofs
section
variable {α : Type} [Inhabited α]
theorem flatK_list (enc : α → List Value) (k : Nat) (hk : ∀ x, (enc x).length = k) (xs : List α) : (flatK enc k xs.toArray).toList = xs.flatMap enc := by
  have hl : (xs.flatMap enc).length = xs.length * k := by
    induction xs with
    | nil => simp
    | cons x xs ih => simp [ih, hk, Nat.add_mul, Nat.add_comm]
  apply List.ext_getElem?
  intro t
  by_cases ht : t < xs.length * k
  · have k0 : 0 < k := by rcases Nat.eq_zero_or_pos k with h | h
                          · subst h; simp at ht
                          · exact h
    have h1 : (flatK enc k xs.toArray)[t]! = (enc xs.toArray[t / k]!)[t % k]! := get_flatK enc k xs.toArray t (by simpa using ht)
    have hs : t < (flatK enc k xs.toArray).size := by simpa using ht
    have e1 : (flatK enc k xs.toArray).toList[t]? = some (enc xs.toArray[t / k]!)[t % k]! := by
      rw [← h1, Array.getElem?_toList, Array.getElem?_eq_getElem hs, getElem!_pos _ t hs]
    rw [e1]
    have hq : t / k < xs.length := Nat.div_lt_of_lt_mul (by rw [Nat.mul_comm]; exact ht)
    obtain ⟨x, hx⟩ : ∃ x, xs[t / k]? = some x := ⟨_, List.getElem?_eq_getElem hq⟩
    have hx! : xs.toArray[t / k]! = x := by
      rw [getElem!_pos xs.toArray _ (by simpa using hq)]
      simpa using (List.getElem?_eq_some_iff.1 hx).2
    rw [hx!]
    have hm : t % k < (enc x).length := by rw [hk]; exact Nat.mod_lt _ k0
    have key : ∀ (ys : List α) (i r : Nat) (y : α), ys[i]? = some y → r < k → (ys.flatMap enc)[i * k + r]? = (enc y)[r]? := by
      intro ys
      induction ys with
      | nil => intro i r y h; simp at h
      | cons z zs ih =>
        intro i r y h hr
        cases i with
        | zero =>
          simp at h; subst h
          rw [List.flatMap_cons, Nat.zero_mul, Nat.zero_add, List.getElem?_append_left (by rw [hk]; exact hr)]
        | succ i =>
          rw [List.flatMap_cons, List.getElem?_append_right (by rw [hk, Nat.add_mul]; omega), hk]
          rw [show (i + 1) * k + r - k = i * k + r by rw [Nat.add_mul]; omega]
          exact ih i r y (by simpa using h) hr
    have := key xs (t / k) (t % k) x hx (Nat.mod_lt _ k0)
    rw [show t / k * k + t % k = t by rw [Nat.mul_comm]; exact Nat.div_add_mod t k] at this
    rw [this, List.getElem?_eq_getElem hm, getElem!_pos (enc x) (t % k) hm]
  · rw [List.getElem?_eq_none (by simp; omega), List.getElem?_eq_none (by omega)]
theorem hex_nil {P : Program} (w : World) (Φ : Nat → Prop) (σ : Nat → Value) (vs : List Value) (fa : Cnt) (h : CR P w Φ σ [] [] vs fa) : vs = [] ∧ ∀ b, fa b = 0 := by
  simpa only [CR] using h
theorem hex_fn {P : Program} (g : Nat) (w : World) (Φ : Nat → Prop) (σ : Nat → Value) (vs : List Value) (fa : Cnt) (h : CR P w Φ σ [] [.fn g []] vs fa) : vs = [.func (.func g) #[] #[]] ∧ ∀ b, fa b = 0 := by
  simp only [CR, VR] at h
  obtain ⟨v, vs', f1, f2, rfl, ⟨us, rfl, _, hu, z1⟩, ⟨rfl, z2⟩, hf⟩ := h
  have : us = #[] := Array.toList_inj.1 (by rw [hu])
  subst this
  exact ⟨rfl, fun b => by rw [hf b, z1 b, z2 b]⟩
theorem says_sort {P : Program} (f : α → List D) (k e g : Nat) (hk : ∀ x, (f x).length = k) (hsc : ∀ x, ∀ d ∈ f x, isL d = false) (hcell : P.cellsOf e = k) (xs ys : List α) (hlen : ys.length = xs.length) (ex : List AV) (exv : List Value)
    (hex : ∀ (w : World) (Φ : Nat → Prop) (σ : Nat → Value) (vs : List Value) (fa : Cnt), CR P w Φ σ [] ex vs fa → vs = exv ∧ ∀ b, fa b = 0)
    (hsome : ∀ (w : World) (blk cap : Nat), HoldsK (fun x => (f x).map dv) k w blk 0 xs.toArray → blk < w.heap.size → xs.length ≤ maxLen → Calls P g (#[.slice (some ⟨blk, 0, none⟩) xs.length cap] ++ exv.toArray) w fun en w' => en = .returned (.tuple #[]) ∧ ∃ n os, w' = sortWorldK (fun x => (f x).map dv) k w blk 0 n ys.toArray os)
    (hnone : ∀ (w : World), xs = [] → Calls P g (#[.slice none 0 0] ++ exv.toArray) w fun en w' => en = .returned (.tuple #[]) ∧ w' = w) :
    Says P g (.osl 1 e xs.length (Ows (xs.flatMap f)) :: ex) (.tup [] []) [(1, .osl 1 e xs.length (Ows (ys.flatMap f)))] := by
  intro w Φ σ cargs fa hcr hh hinv
  simp only [CR] at hcr
  obtain ⟨v, vs', f1, f2, hca, hv, he, hfa⟩ := hcr
  obtain ⟨rfl, hz2⟩ := hex w Φ σ vs' f2 he
  have hsc2 : ∀ zs : List α, ∀ d ∈ zs.flatMap f, isL d = false := fun zs d hd => by
    obtain ⟨x, _, hx⟩ := List.mem_flatMap.1 hd
    exact hsc x d hx
  simp only [VR] at hv
  obtain ⟨hst, hx, cs, f3, ho, hc, hb⟩ := hv
  obtain ⟨rfl, hz3⟩ := CR_sc (hsc2 xs) hc
  have hcargs : cargs = #[v] ++ vs'.toArray := by
    apply Array.toList_inj.1; rw [hca]; simp
  have hs1 : σ 1 = v := hst (by simp)
  have hfv : ∀ b, fa b = own1 v b := fun b => by rw [hfa b, hz2 b, hb b, hz3 b]; omega
  rcases ho.2 with ⟨rfl, h0⟩ | ⟨gb, cap, cur, rfl, _, hg, hn, hm, hs, ht⟩
  · have hxs : xs = [] := List.eq_nil_of_length_eq_zero h0
    subst hxs
    have hys : ys = [] := List.eq_nil_of_length_eq_zero (by simpa using hlen)
    subst hys
    rw [hcargs]
    refine (hnone w rfl).mono ?_
    rintro en w' ⟨rfl, rfl⟩
    refine ⟨_, Φ, fun _ => 0, fa, rfl, Ext.refl _ _, fun _ h => h, fun _ h => .inl h, ?_, rfl, ?_, ?_, ?_, fun b h => .inl (by simpa using h)⟩
    · simp [VR, CR, flatV]
    · refine CR_one ?_
      simp only [VR]
      exact ⟨by simp, by simp [hrs], [], fun _ => 0, by rw [hs1]; exact ho, by simp [CR], fun b => by rw [hfv b, hs1]; rfl⟩
    · simp [hrs, hr]
    · have e0 : (fun b => (fun _ => 0) b + fa b) = fa := funext fun b => by simp
      rw [e0]; exact hinv
  · have hg0 : gb < w.heap.size := by
      rw [Array.getElem?_eq_some_iff] at hg; exact hg.1
    have hflat : (flatK (fun x => (f x).map dv) k xs.toArray).toList = (xs.flatMap f).map dv := by
      rw [flatK_list _ k (fun x => by simp [hk]), List.map_flatMap]
    have hflat2 : (flatK (fun x => (f x).map dv) k ys.toArray).toList = (ys.flatMap f).map dv := by
      rw [flatK_list _ k (fun x => by simp [hk]), List.map_flatMap]
    have hH : HoldsK (fun x => (f x).map dv) k w gb 0 xs.toArray := by
      intro j hj
      have hj' : j < xs.length * k := by simpa using hj
      refine ⟨?_, ?_⟩
      · rw [Nat.zero_add, cell_of_row w gb j cur e (0, 0) hg]
        have h1 : (cur.toList.take (xs.length * P.cellsOf e))[j]? = cur[j]? := by
          rw [List.getElem?_take, if_pos (by rw [hcell]; exact hj'), Array.getElem?_toList]
        rw [← h1, ht, ← hflat, Array.getElem?_toList, Array.getElem?_eq_getElem hj]
        show _ = some (id _)
        rw [getElem!_pos _ j hj]; rfl
      · simp [World.frozen?, hg]
    rw [hcargs]
    refine (hsome w gb cap hH hg0 (by omega)).mono ?_
    rintro en w' ⟨rfl, n, os, rfl⟩
    have hheap : (sortWorldK (fun x => (f x).map dv) k w gb 0 n ys.toArray os).heap = w.heap.modify gb (onCells (putCells id 0 (flatK (fun x => (f x).map dv) k ys.toArray))) ++ os := rfl
    have hother : ∀ b, b < w.heap.size → b ≠ gb → (sortWorldK (fun x => (f x).map dv) k w gb 0 n ys.toArray os).heap[b]? = w.heap[b]? := by
      intro b hb1 hb2
      rw [hheap, Array.getElem?_append_left (by simpa using hb1), Array.getElem?_modify, if_neg (Ne.symm hb2)]
    have hcur : (sortWorldK (fun x => (f x).map dv) k w gb 0 n ys.toArray os).heap[gb]? = some (.cells (putCells id 0 (flatK (fun x => (f x).map dv) k ys.toArray) cur) e (0, 0)) := by
      rw [hheap, Array.getElem?_append_left (by simpa using hg0), Array.getElem?_modify, if_pos rfl, hg]
      rfl
    have hsz : w.heap.size ≤ (sortWorldK (fun x => (f x).map dv) k w gb 0 n ys.toArray os).heap.size := by rw [hheap]; simp
    have hown : ∀ b, own1 (.slice (some ⟨gb, 0, none⟩) xs.length cap) b = if b = gb then 1 else 0 := fun b => by
      simp [own1, Value.ownBlock, eq_comm]
    refine ⟨_, Φ, fun _ => 0, fa, rfl, ⟨rfl, rfl, rfl, hsz, fun b hb1 hb2 => hother b hb1 fun e1 => ?_⟩, fun _ h => h, fun _ h => .inl h, ?_, rfl, ?_, ?_, ?_, fun b h => .inl (by simpa using h)⟩
    · have := hfv b; rw [hown b, if_pos e1] at this; omega
    · simp [VR, CR, flatV]
    · refine CR_one ?_
      simp only [VR]
      have h2 : (hrs (Ows (ys.flatMap f))) = false := by simp
      refine ⟨by simp, h2, (ys.flatMap f).map dv, fun _ => 0, ?_, CR_sc' (hsc2 ys), fun b => by rw [hfv b, hs1]; rfl⟩
      rw [hs1]
      have hll : ((ys.flatMap f).map dv).length = xs.length * k := by rw [List.length_map, len_flat f k hk, hlen]
      refine ⟨by rw [hll, hcell], .inr ⟨gb, cap, _, rfl, Nat.zero_le _, hcur, hn, hm, by simpa [putCells] using hs, ?_⟩⟩
      apply List.ext_getElem?
      intro t
      rw [List.getElem?_take, hcell]
      by_cases htt : t < xs.length * k
      · rw [if_pos htt, Array.getElem?_toList]
        have hct : t < cur.size := by rw [hs, hcell]; exact Nat.lt_of_lt_of_le htt (Nat.mul_le_mul_right k hn)
        have hfs : t < (flatK (fun x => (f x).map dv) k ys.toArray).size := by simpa [hlen] using htt
        rw [putCells, Array.getElem?_mapIdx, Array.getElem?_eq_getElem hct, Option.map_some, if_pos ⟨Nat.zero_le _, by omega⟩, ← hflat2, Array.getElem?_toList, Array.getElem?_eq_getElem hfs, Nat.sub_zero, getElem!_pos _ t hfs]
        rfl
      · rw [if_neg htt, List.getElem?_eq_none (by omega)]
    · simp [hrs, hr]
    · have e0 : (fun b => (fun _ => 0) b + fa b) = fa := funext fun b => by simp
      rw [e0]
      exact ⟨hinv.sep, fun b hb1 => Nat.lt_of_lt_of_le (hinv.lt b hb1) hsz, fun b hb1 => Nat.lt_of_lt_of_le (hinv.fz b hb1) hsz, hinv.apart, tabs_keep hinv.tab (fun b hb1 => hother b (hinv.fz b hb1) fun e1 => by
        have h1 := hinv.apart b hb1; have := hfv b; rw [hown b, if_pos e1] at this; omega) (fun _ h => h)⟩
end
end Go.AM

/- slices.Grow of no slice, by the shelf's contract: an owned slice of length 0. -/
set_option linter.unusedSimpArgs false
set_option linter.unusedVariables false
namespace Go.AM
open Go Go.Proofs Go.Shelf
theorem grow_says {P : Program} {ρ : Ren} (L : Lays8.n4 P ρ) {z : Value} {size bytes : Nat} (hI : (P.info? (ρ.t 25)).map (fun i => (i.zero, i.size, i.bytes)) = some (some z, size, bytes)) (hs0 : 0 < size) (hzs : z.cells.size = size) (hc : P.cellsOf (ρ.t 25) = size)
    (n : Nat) (hn : n * bytes ≤ 140737488355328) (hn2 : n ≤ 4611686018427387904) : Says P (ρ.f 4) [.nsl true, .int .i64 n] (.osl 0 (ρ.t 25) 0 []) [] := by
  obtain ⟨i0, hi0, hz0, rfl, rfl⟩ := Go.info_parts hI
  intro w Φ σ cargs fa hcr _ hinv
  simp only [CR, VR] at hcr
  obtain ⟨v, vs', f1, f2, hca, ⟨⟨a, c, rfl, ha, hac⟩, hz1⟩, ⟨v2, vs2, f3, f4, rfl, ⟨rfl, hz3⟩, ⟨rfl, hz4⟩, hf2⟩, hfa⟩ := hcr
  have ha0 : a = none := by cases a <;> simp at ha ⊢
  subst ha0
  have hc0 := hac rfl
  subst hc0
  have hcargs : cargs = #[.slice none 0 0, .int .i64 n] := by
    apply Array.toList_inj.1; rw [hca]
  subst hcargs
  have hfa0 : ∀ b, fa b = 0 := fun b => by rw [hfa b, hz1 b, hf2 b, hz3 b, hz4 b]
  by_cases k : n = 0
  · subst k
    refine (Any8.slices_Grow_room L none 0 0 0 w (Nat.le_refl _) (by omega) (by omega) (by omega)).mono ?_
    rintro en w' ⟨rfl, rfl⟩
    refine ⟨_, Φ, fun _ => 0, fun _ => 0, rfl, Ext.refl _ _, fun _ h => h, fun _ h => .inl h, ?_, rfl, by simpa using CR_nil, rfl, ⟨fun b => by simp, fun b hb => by simp at hb, hinv.fz, fun b _ => by simp, hinv.tab⟩, fun b hb => by simp at hb⟩
    simp only [VR]
    exact ⟨fun h => absurd rfl h, rfl, [], fun _ => 0, World.ownsRow_nil _ _ _ _, CR_nil, fun b => by simp [own1, Value.ownBlock]⟩
  · refine (Any8.slices_Grow_grow L i0 z hi0 hz0 hs0 none 0 0 n [] w (Nat.le_refl _) (by omega) (by simpa using hn) (by omega) (by simp) (fun _ => rfl) (fun a h => nomatch h)).mono ?_
    rintro en w' ⟨rfl, rfl⟩
    have hge := grownCap_ge w (0 + n) 0 (ρ.t 25)
    have hle := grownCap_le_maxLen w (0 + n) 0 (ρ.t 25) (by unfold maxLen; omega)
    generalize grownCap w (0 + n) 0 (ρ.t 25) = cap at hge hle ⊢
    generalize hC : ([].toArray ++ Builtin.zeroCells z.cells (0 + n - 0) ++ Builtin.zeroCells z.cells (cap - (0 + n)) : Array Value) = C
    have hCs : C.size = cap * i0.size := by
      rw [← hC]
      simp only [Array.size_append, Go.size_zeroCells, hzs]
      simp
      rw [← Nat.add_mul]
      congr 1
      omega
    have hheap : (w.drew.alloc (.cells C (ρ.t 25))).heap = w.heap.push (.cells C (ρ.t 25)) := rfl
    have hsz : (w.drew.alloc (.cells C (ρ.t 25))).heap.size = w.heap.size + 1 := by rw [hheap, Array.size_push]
    have hst : Still w (w.drew.alloc (.cells C (ρ.t 25))) := by
      refine ⟨rfl, rfl, rfl, by omega, fun k hk => ?_⟩
      rw [hheap, Array.getElem?_push, if_neg (Nat.ne_of_lt hk)]
    have hgot : (w.drew.alloc (.cells C (ρ.t 25))).heap[w.heap.size]? = some (.cells C (ρ.t 25)) := by rw [hheap, Array.getElem?_push, if_pos rfl]
    have hown : ∀ b, own1 (.slice (some ⟨w.heap.size, 0, none⟩) 0 cap) b = if b = w.heap.size then 1 else 0 := fun b => by
      simp [own1, Value.ownBlock, eq_comm]
    refine ⟨_, Φ, own1 (.slice (some ⟨w.heap.size, 0, none⟩) 0 cap), fun _ => 0, rfl, hst.ext _, fun _ h => h, fun _ h => .inl h, ?_, rfl, by simpa using CR_nil, rfl, ?_, ?_⟩
    · simp only [VR]
      refine ⟨fun h => absurd rfl h, rfl, [], fun _ => 0, ⟨by simp, .inr ⟨w.heap.size, cap, C, rfl, Nat.zero_le _, ?_, Nat.zero_le _, hle, by rw [hc]; exact hCs, by simp⟩⟩, CR_nil, fun b => by simp⟩
      exact hgot
    · have hi := hst.inv (f := fun _ => 0) ⟨fun b => by simp, fun b hb => by simp at hb, hinv.fz, fun b _ => by simp, hinv.tab⟩
      refine ⟨fun b => ?_, fun b hb => ?_, hi.fz, fun b hb => ?_, hi.tab⟩
      · simp only [hown, Nat.add_zero]; split <;> omega
      · simp only [hown, Nat.add_zero] at hb
        have : b = w.heap.size := Classical.byContradiction fun e => by rw [if_neg e] at hb; omega
        omega
      · have := hinv.fz b hb
        simp only [hown, Nat.add_zero]
        rw [if_neg (by omega)]
    · intro b hb
      simp only [hown, Nat.add_zero] at hb
      have : b = w.heap.size := Classical.byContradiction fun e => by rw [if_neg e] at hb; omega
      omega
end Go.AM

/- Cells taken out of a slice, from a place on. -/
set_option linter.unusedSimpArgs false
set_option linter.unusedVariables false
namespace Go.AM
open Go
theorem inner_with {v : AV} {ics ics' : List AV} (h : inner v = some ics) (hl : ics'.length = ics.length) : inner (withInner v ics') = some ics' := by
  cases v <;> simp [inner] at h
  · rename_i s e n cs
    cases cs with
    | nil => simp [inner] at h
    | cons c cs =>
      simp [inner] at h
      subst h
      cases ics' with
      | nil => simp at hl
      | cons c' cs' => rfl
  · rfl
theorem with_with (v : AV) (a b : List AV) : withInner (withInner v a) b = withInner v b := by cases v <;> rfl
theorem with_self {v : AV} {ics : List AV} (h : inner v = some ics) : withInner v ics = v := by
  cases v <;> simp [inner] at h
  · rename_i s e n cs
    cases cs with
    | nil => simp [inner] at h
    | cons c cs => simp [inner] at h; subst h; rfl
  · subst h; rfl
theorem rowAt_cons {cs : List AV} {o : Nat} {p : List Nat} {row : List AV} (h : rowAt cs (o :: p) = some row) : ∃ v ics, cs[o]? = some v ∧ inner v = some ics ∧ rowAt ics p = some row := by
  simp only [rowAt] at h
  split at h
  · rename_i v hv
    split at h
    · rename_i ics hi
      exact ⟨v, ics, hv, hi, h⟩
    · cases h
  · cases h
theorem setRow_cons {cs : List AV} {o : Nat} {p : List Nat} {row : List AV} {v : AV} {ics : List AV} (h1 : cs[o]? = some v) (h2 : inner v = some ics) : setRow cs (o :: p) row = cs.set o (withInner v (setRow ics p row)) := by
  simp only [setRow, h1, h2]
theorem rowAt_set : ∀ (p : List Nat) (cs row row2 : List AV), rowAt cs p = some row → row2.length = row.length →
    (setRow cs p row2).length = cs.length ∧ rowAt (setRow cs p row2) p = some row2 ∧ ∀ row3, row3.length = row.length → setRow (setRow cs p row2) p row3 = setRow cs p row3
  | [], cs, row, row2, h, hl => by
    simp only [rowAt, Option.some.injEq] at h
    subst h
    exact ⟨by simpa [setRow] using hl, by simp [setRow, rowAt], fun row3 _ => by simp [setRow]⟩
  | o :: p, cs, row, row2, h, hl => by
    obtain ⟨v, ics, h1, h2, h3⟩ := rowAt_cons h
    obtain ⟨a1, a2, a3⟩ := rowAt_set p ics row row2 h3 hl
    rw [setRow_cons h1 h2]
    have hlt := (List.getElem?_eq_some_iff.1 h1).1
    have g1 : (cs.set o (withInner v (setRow ics p row2)))[o]? = some (withInner v (setRow ics p row2)) := by rw [List.getElem?_set_self hlt]
    have g2 := inner_with h2 a1
    refine ⟨by simp, by simp only [rowAt, g1, g2, a2], fun row3 h5 => ?_⟩
    rw [setRow_cons g1 g2, setRow_cons h1 h2, List.set_set, with_with, a3 row3 h5]
theorem setRow_self : ∀ (p : List Nat) (cs row : List AV), rowAt cs p = some row → setRow cs p row = cs
  | [], cs, row, h => by simp only [rowAt, Option.some.injEq] at h; subst h; rfl
  | o :: p, cs, row, h => by
    obtain ⟨v, ics, h1, h2, h3⟩ := rowAt_cons h
    rw [setRow_cons h1 h2, setRow_self p ics row h3, with_self h2]
    obtain ⟨hlt, rfl⟩ := List.getElem?_eq_some_iff.1 h1
    exact List.set_getElem_self hlt
theorem cells_with {v : AV} {o : Nat} {p : List Nat} {row row2 : List AV} (h : rowAt (cellsOf v) (o :: p) = some row) (hl : row2.length = row.length) :
    cellsOf (withCells v (setRow (cellsOf v) (o :: p) row2)) = setRow (cellsOf v) (o :: p) row2 ∧ withCells v (setRow (cellsOf v) (o :: p) row2) ≠ .dead ∧ withCells v (setRow (cellsOf v) (o :: p) row2) ≠ .gone ∧
      ∀ cs, withCells (withCells v (setRow (cellsOf v) (o :: p) row2)) cs = withCells v cs := by
  obtain ⟨u, ics, h1, h2, h3⟩ := rowAt_cons h
  rw [setRow_cons h1 h2]
  have hlt := (List.getElem?_eq_some_iff.1 h1).1
  cases v with
  | agg cs => exact ⟨rfl, by simp [withCells], by simp [withCells], fun _ => rfl⟩
  | tup sh cs => exact ⟨rfl, by simp [withCells], by simp [withCells], fun _ => rfl⟩
  | osl s e n cs =>
    simp only [cellsOf, List.length_singleton] at hlt h1
    obtain rfl : o = 0 := by omega
    simp at h1; subst h1
    exact ⟨rfl, by simp [withCells, withInner, cellsOf], by simp [withCells, withInner, cellsOf], fun _ => rfl⟩
  | bx s t cs =>
    simp only [cellsOf, List.length_singleton] at hlt h1
    obtain rfl : o = 0 := by omega
    simp at h1; subst h1
    exact ⟨rfl, by simp [withCells, withInner, cellsOf], by simp [withCells, withInner, cellsOf], fun _ => rfl⟩
  | _ =>
    exfalso
    simp only [cellsOf, List.length_singleton] at hlt h1
    obtain rfl : o = 0 := by omega
    simp at h1; subst h1
    simp [inner] at h2
theorem rowE_of {e : Env} {r : Nat} {p : List Nat} {row : List AV} (h : rowE e r p = some row) : ∃ v, e[r]? = some v ∧ rowAt (cellsOf v) p = some row := by
  obtain ⟨v, h1, _, _, h2⟩ := rowE_some h
  exact ⟨v, h1, h2⟩
theorem rowE_set {e : Env} {r o : Nat} {p : List Nat} {row row2 : List AV} (h : rowE e r (o :: p) = some row) (hl : row2.length = row.length) :
    rowE (setRowE e r (o :: p) row2) r (o :: p) = some row2 ∧ ∀ row3, row3.length = row.length → setRowE (setRowE e r (o :: p) row2) r (o :: p) row3 = setRowE e r (o :: p) row3 := by
  obtain ⟨v, h1, h2⟩ := rowE_of h
  obtain ⟨a1, a2, a3⟩ := rowAt_set (o :: p) (cellsOf v) row row2 h2 hl
  obtain ⟨b1, b2, b3, b4⟩ := cells_with h2 hl
  have hlt := (List.getElem?_eq_some_iff.1 h1).1
  have e1 : setRowE e r (o :: p) row2 = e.set r (withCells v (setRow (cellsOf v) (o :: p) row2)) := by simp only [setRowE, h1]
  have g1 : (e.set r (withCells v (setRow (cellsOf v) (o :: p) row2)))[r]? = some (withCells v (setRow (cellsOf v) (o :: p) row2)) := by rw [List.getElem?_set_self hlt]
  rw [e1]
  generalize withCells v (setRow (cellsOf v) (o :: p) row2) = x at *
  refine ⟨?_, fun row3 h5 => ?_⟩
  · unfold rowE
    rw [g1]
    split
    · rename_i hx; cases hx; exact absurd rfl b2
    · rename_i hx; cases hx; exact absurd rfl b3
    · rename_i u _ _ hx; cases hx; rw [b1, a2]
    · rename_i hx; cases hx
  · simp only [setRowE, g1, h1, List.set_set, b1, b4, a3 row3 h5]
theorem setRowE_self {e : Env} {r : Nat} {p : List Nat} {row : List AV} (h : rowE e r p = some row) : setRowE e r p row = e := by
  obtain ⟨v, h1, h2⟩ := rowE_of h
  have hw : withCells v (cellsOf v) = v := by cases v <;> rfl
  simp only [setRowE, h1, setRow_self _ _ _ h2, hw]
  obtain ⟨hlt, rfl⟩ := List.getElem?_eq_some_iff.1 h1
  exact List.set_getElem_self hlt
def tk : AV → Bool
  | .int _ _ => true
  | .bool _ => true
  | .str _ => true
  | .nilf => true
  | .nsl _ => true
  | .rsl _ _ => true
  | .rp _ => true
  | .osl _ _ _ _ => true
  | _ => false
def gnA : AV → AV
  | .osl _ _ _ _ => .gone
  | c => c
theorem takeCs_win {r o : Nat} {p : List Nat} : ∀ {cs pre post : List AV} {e : Env}, cs.all tk = true → rowE e r (o :: p) = some (pre ++ (cs ++ post)) →
    takeCs e (lzc r (o :: p) pre.length cs) = some (cs, setRowE e r (o :: p) (pre ++ (cs.map gnA ++ post)))
  | [], pre, post, e, _, h => by
    simp only [List.nil_append] at h
    simp only [lzc, takeCs, List.map_nil, List.nil_append, setRowE_self h]
  | c :: cs, pre, post, e, ha, h => by
    simp only [List.all_cons, Bool.and_eq_true] at ha
    have plain : lz1 r (o :: p) pre.length c = c → takeC e c = some (c, e) → gnA c = c → takeCs e (lzc r (o :: p) pre.length (c :: cs)) = some (c :: cs, setRowE e r (o :: p) (pre ++ ((c :: cs).map gnA ++ post))) := by
      intro h1 h2 h3
      have ih := takeCs_win (cs := cs) (pre := pre ++ [c]) (post := post) (e := e) ha.2 (by rw [h]; simp)
      simp only [List.length_append, List.length_singleton] at ih
      simp only [lzc, h1, takeCs, h2, ih, List.map_cons, h3]
      simp
    cases c with
    | osl s t n xs =>
      have hget : (pre ++ (AV.osl s t n xs :: cs ++ post))[pre.length]? = some (.osl s t n xs) := by simp
      have hset : (pre ++ (AV.osl s t n xs :: cs ++ post)).set pre.length .gone = pre ++ (.gone :: cs ++ post) := by simp
      have h1 : takeC e (.ps r (o :: p) pre.length) = some (.osl s t n xs, setRowE e r (o :: p) (pre ++ (.gone :: cs ++ post))) := by
        simp only [takeC, h, hget, hset]
      obtain ⟨k1, k2⟩ := rowE_set (row2 := pre ++ (.gone :: cs ++ post)) h (by simp)
      have ih := takeCs_win (cs := cs) (pre := pre ++ [.gone]) (post := post) (e := setRowE e r (o :: p) (pre ++ (.gone :: cs ++ post))) ha.2 (by rw [k1]; simp)
      simp only [List.length_append, List.length_singleton] at ih
      rw [k2 _ (by simp)] at ih
      simp only [lzc, lz1, takeCs, h1, ih, List.map_cons, gnA]
      simp
    | int k n => exact plain rfl (by simp [takeC]) rfl
    | bool b => exact plain rfl (by simp [takeC]) rfl
    | str s => exact plain rfl (by simp [takeC]) rfl
    | nilf => exact plain rfl (by simp [takeC]) rfl
    | nsl t => exact plain rfl (by simp [takeC]) rfl
    | rsl n xs => exact plain rfl (by simp [takeC]) rfl
    | rp xs => exact plain rfl (by simp [takeC]) rfl
    | _ => simp [tk] at ha
theorem frzs_len : ∀ {cs ds : List AV}, frzs cs = some ds → cs.length = ds.length
  | [], ds, h => by simp [frzs] at h; subst h; rfl
  | c :: cs, ds, h => by
    simp only [frzs] at h
    split at h
    · split at h
      · rename_i h2
        simp only [Option.some.injEq] at h
        subst h
        simp [frzs_len h2]
      · cases h
    · cases h
theorem tk_Ows (ds : List D) : (Ows ds).all tk = true := by
  induction ds with
  | nil => simp
  | cons d ds ih => cases d <;> simp [tk, ih]
end Go.AM

