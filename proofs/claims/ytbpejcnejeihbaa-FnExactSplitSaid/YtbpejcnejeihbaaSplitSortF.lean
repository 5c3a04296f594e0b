/- Part of a proof: see the last text of this folder. -/
import Derived.Test.YtbpejcnejeihbaaSplitNm
import Derived.Test.YtbpejcnejeihbaaAmSort
import Derived.Test.YtbpejcnejeihbaaSplitLay
import Derived.Shelf.SlSortCmp.WholeK
import Derived.Shelf.SlSortCmp.NoneTotal
import Derived.Sort.Walk0
import Derived.Laws.Cover1
set_option linter.unusedSimpArgs false
set_option linter.unusedVariables false
set_option maxRecDepth 20000
set_option maxHeartbeats 4000000
namespace Go.AmC
open Go Go.AM Go.Sort Go.Proofs Go.Shelf Go.RowKit Go.Lib
open Go.Proofs.Try (prog)

def cmpS (x y : List UInt8) : Int := if x < y then -1 else if y < x then 1 else 0
def tV (t : Term) : List Value := [.string ⟨t.Name.toArray⟩, .int .i64 t.N]
instance : Inhabited Term := ⟨⟨[], 0⟩⟩

theorem isNaN_calls (x : ByteArray) (w : World) : Calls prog 123 #[.string x] w fun e w' => e = .returned (.bool false) ∧ w' = w := by
  go_enter Go.Proofs.Try.func123, Go.Proofs.Try.ntmps123
  go_wp2
  go_ret
  exact ⟨by simp, rfl⟩
set_option maxHeartbeats 1000000 in
theorem compare_calls (x y : ByteArray) (w : World) : Calls prog 118 #[.string x, .string y] w fun e w' => e = .returned (.int .i64 (cmpS x.toList y.toList)) ∧ w' = w := by
  go_enter Go.Proofs.Try.func118, Go.Proofs.Try.ntmps118
  go_wp2_with (go_at_call 123; refine (isNaN_calls _ _).mono ?_; rintro e w' ⟨rfl, rfl⟩)
  all_goals (go_ret; refine ⟨?_, rfl⟩; unfold cmpS)
  all_goals simp only [bytesLess_eq, decide_eq_true_eq, decide_eq_false_iff_not, Bool.not_eq_true', Bool.or_eq_true, Bool.or_eq_false_iff, Bool.not_eq_false', beq_iff_eq] at *
  · rw [if_pos (by assumption)]; rfl
  · rename_i h1 h2
    rw [beq_eq_false_iff_ne] at h2
    rw [if_neg h1, if_pos (by rcases List.le_total x.toList y.toList with h | h
                              · exact absurd (List.le_antisymm h (List.not_lt.1 h1)) h2
                              · exact List.not_le.1 fun h' => h2 (List.le_antisymm h' h))]; rfl
  · rename_i h1 h2
    rw [if_neg h1, if_neg (by rw [h2]; exact List.lt_irrefl _)]; rfl

/-- The comparison of two terms. -/
theorem closure_calls (x y : Term) (W : World) : Calls prog 117 #[.agg (tV x).toArray, .agg (tV y).toArray] W fun e w' => e = .returned (.int .i64 (cmpS x.Name y.Name)) ∧ ∃ q os', w' = grow (W.drewN q) os' := by
  have hcon := fun W' => compare_calls ⟨x.Name.toArray⟩ ⟨y.Name.toArray⟩ W'
  simp only [Lib.toList_data] at hcon
  generalize cmpS x.Name y.Name = r at hcon ⊢
  unfold tV
  go_enter Go.Proofs.Try.func117, Go.Proofs.Try.ntmps117
  go_wp2_with (go_at_call 118; refine (hcon _).mono ?_; rintro e w' ⟨rfl, rfl⟩)
  go_ret
  exact ⟨rfl, 0, _, by rw [alloc_eq_grow, alloc_eq_grow, grow_grow]; rfl⟩

def cf (x y : Term) : Int := cmpS x.Name y.Name
theorem ltOf_cf (x y : Term) : ltOf cf x y = decide (x.Name < y.Name) := by
  unfold ltOf cf cmpS
  by_cases h1 : x.Name < y.Name
  · simp [h1]
  · by_cases h2 : y.Name < x.Name <;> simp [h1, h2]
theorem swo_cf : SWO (ltOf cf) where
  irrefl x := by rw [ltOf_cf]; simp [List.lt_irrefl]
  trans x y z h1 h2 := by rw [ltOf_cf] at *; simp only [decide_eq_true_eq] at *; exact List.lt_trans h1 h2
  ntrans x y z h1 h2 := by rw [ltOf_cf] at *; simp only [decide_eq_false_iff_not, List.not_lt] at *; exact List.le_trans h2 h1
/-- What slices.SortFunc makes of terms. -/
def sortT (ts : List Term) : List Term := (pdq (ltOf cf) ts.toArray 0 ts.toArray.size (Lib.bitLen ts.toArray.size) true true).toList
theorem sortT_facts (ts : List Term) : (sortT ts).Perm ts ∧ (sortT ts).Pairwise fun x y => ¬ y.Name < x.Name := by
  have h := pdq_sorts (ltOf cf) swo_cf ts.toArray 0 ts.toArray.size (Lib.bitLen ts.toArray.size) true true (Nat.zero_le _) (Nat.le_refl _) (Or.inl rfl)
  unfold sortT
  generalize pdq (ltOf cf) ts.toArray 0 ts.toArray.size (Lib.bitLen ts.toArray.size) true true = R at h ⊢
  obtain ⟨⟨hs, _, hp⟩, hso⟩ := h
  have e1 : R.extract 0 ts.toArray.size = R := by rw [← hs]; simp
  rw [e1] at hp
  refine ⟨by simpa using hp, ?_⟩
  rw [List.pairwise_iff_getElem]
  intro i j hi hj hij
  have hi' : i < R.size := by simpa using hi
  have hj' : j < R.size := by simpa using hj
  have := hso i j (Nat.zero_le _) hij (by omega)
  rw [ltOf_cf, decide_eq_false_iff_not, getElem!_pos R i hi', getElem!_pos R j hj'] at this
  simpa using this
theorem sortT_len (ts : List Term) : (sortT ts).length = ts.length := (sortT_facts ts).1.length_eq

theorem sortF_says (ts : List Term) (hl : ts.length ≤ 4294967296) : Says prog 116 [.osl 1 111 ts.length (Ows (ts.flatMap Term.d)), .fn 117 []] (.tup [] []) [(1, .osl 1 111 (sortT ts).length (Ows ((sortT ts).flatMap Term.d)))] := by
  rw [sortT_len ts]
  have hT : (fun t : Term => (Term.d t).map dv) = tV := by funext t; simp [tV, dv]
  have eg : ∀ args w, (callFunc 117 args).run prog w = .ok (.enter 117 args) w := enters_of Go.Proofs.Try.func117 (by kernel_rfl) rfl
  refine says_sort Term.d 2 111 116 Term.d_len (fun x d hd => by simp at hd; rcases hd with rfl | rfl <;> rfl) (by kernel_rfl) ts (sortT ts) (sortT_len ts) [.fn 117 []] [.func (.func 117) #[] #[]] (hex_fn _) ?_ ?_
  · intro w blk cap hH hb hm
    have hsz : ts.toArray.size < 4611686018427387904 := by
      simp only [List.size_toArray]; omega
    rw [hT] at hH ⊢
    exact AnyQ.slices_SortFunc_eq Go.Proofs.Try.sortT 2 Go.Proofs.Try.isAgg111 Go.Proofs.Try.sizeOf111 tV (fun _ => rfl) (fun x v hv => by simp [tV] at hv; rcases hv with rfl | rfl <;> rfl) cf swo_cf 117 #[] blk 0 cap ts.toArray w eg (fun m os dk _ x y => closure_calls x y _) hH hb hsz
  · intro w _
    exact AnyF.slices_SortFunc_none Go.Proofs.Try.sortT none 0 _ w
end Go.AmC
