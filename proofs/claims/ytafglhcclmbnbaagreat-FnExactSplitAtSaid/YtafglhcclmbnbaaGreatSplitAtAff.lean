/- Part of a proof: see the last text of this folder. -/
import Derived.Test.YtafglhcclmbnbaaGreatSplitAtRep
import Derived.Test.YtafglhcclmbnbaaGreatAmLib
import Derived.Test.YtafglhcclmbnbaaGreatSplitAtCnt
import Derived.Test.YtafglhcclmbnbaaGreatAmWin
import Derived.Shelf.SlSortCmp.WholeK
import Derived.Shelf.SlSortCmp.NoneTotal
import Derived.Sort.Walk0
import Derived.Laws.Cover1
import Derived.Test.YtafglhcclmbnbaaGreatSplitAtOrd
/- Part of a proof: see the last text of this folder. -/
set_option linter.unusedSimpArgs false
set_option linter.unusedVariables false
set_option maxRecDepth 100000
set_option maxHeartbeats 4000000
namespace Go.AmC
open Go Go.AM Go.Proofs
open Go.Proofs.Tryz (prog)
theorem agg_rel {w : World} {Φ : Nat → Prop} {σ : Nat → Value} {cs : List AV} {vs : List Value} {f : Cnt} : VR prog w Φ σ [] (.agg cs) (.agg vs.toArray) f ↔ CR prog w Φ σ [] cs vs f := by
  simp only [VR]
  constructor
  · rintro ⟨arr, e, h⟩
    cases e
    simpa using h
  · intro h
    exact ⟨vs.toArray, rfl, by simpa using h⟩
theorem Ow_one {w : World} {Φ : Nat → Prop} {σ : Nat → Value} {d : D} {u : Value} {f : Cnt} (h : VR prog w Φ σ [] (Ow d) u f) : u.oneCell' = true := by
  cases d with
  | I k n => simp only [Ow, VR] at h; rw [h.1]; rfl
  | B b => simp only [Ow, VR] at h; rw [h.1]; rfl
  | S s => simp only [Ow, VR] at h; rw [h.1]; rfl
  | L e n cs =>
    simp only [Ow, VR] at h
    obtain ⟨_, _, xs, f1, ho, _⟩ := h
    obtain ⟨a, c, rfl, _⟩ := ownsRow_slice ho
    rfl
theorem Ows_one {w : World} {Φ : Nat → Prop} {σ : Nat → Value} : ∀ {ds : List D} {us : List Value} {f : Cnt}, CR prog w Φ σ [] (Ows ds) us f → ∀ u ∈ us, u.oneCell' = true
  | [], us, f, h, u, hu => by
    simp only [Ows, CR] at h
    rw [h.1] at hu; cases hu
  | d :: ds, us, f, h, u, hu => by
    simp only [Ows, CR] at h
    obtain ⟨v, vs', f1, f2, rfl, h1, h2, _⟩ := h
    rcases List.mem_cons.1 hu with rfl | hu
    · exact Ow_one h1
    · exact Ows_one h2 u hu
theorem rep_calls (w : World) (g cap n m T i vb vc : Nat) (cur curv : Array Value) (v : List Value) (hi : i < n) (hn : n ≤ cap) (hm : cap ≤ maxLen) (hm2 : 1 ≤ m) (hT : T + 1 = n + m) (hTb : n + m ≤ 4294967296) (hg : w.heap[g]? = some (.cells cur 74 (0, 0))) (hs : cur.size = cap * 19)
    (hgv : w.heap[vb]? = some (.cells curv 74 (0, 0))) (hvs : curv.size ≠ 0)
    (hv : v.length = m * 19) (hvc : ∀ j x, v[j]? = some x → w.cell? ⟨vb, j, none⟩ = some x) (hv1 : ∀ x ∈ v, x.oneCell' = true) (hc1 : ∀ x ∈ cur.toList.take (n * 19), x.oneCell' = true) (hne : vb ≠ g) :
    Calls prog 57 #[.slice (some ⟨g, 0, none⟩) n cap, .int .i64 i, .int .i64 (i + 1 : Nat), .slice (some ⟨vb, 0, none⟩) m vc] w
      (RepPost w g T (cur.toList.take (i * 19) ++ (v ++ (cur.toList.take (n * 19)).drop ((i + 1) * 19)))) := by
  by_cases he : i + 1 < n
  · by_cases hm1 : m = 1
    · subst hm1
      obtain rfl : T = n := by omega
      exact replace_one w g cap T i vb vc cur v he hn hm hg hs (by omega) hvc hv1 hc1 hne
    · by_cases hTc : T ≤ cap
      · exact replace_more w g cap n m T i vb vc cur curv v he hn hm (by omega) hT hTc hg hs hgv hvs hv hvc hv1 hc1 hne
      · exact replace_grow w g cap n m T i vb vc cur v he hn hm hm2 hT (by omega) (by omega) hg hs hv (Array.getElem?_eq_some_iff.1 hgv).1 hvc hv1 hc1
  · obtain rfl : n = i + 1 := by omega
    obtain rfl : T = i + m := by omega
    have := replace_end w g cap m i vb vc cur v hn hm hm2 (by omega) hg hs hv hvc hv1
    rw [List.drop_eq_nil_of_le (by rw [List.length_take]; exact Nat.min_le_left _ _), List.append_nil]
    exact this
theorem replace_says (A X B V : List D) (i n m T : Nat) (hA : A.length = i * 19) (hX : X.length = 19) (hi : i < n) (hm : 1 ≤ m) (hT : T + 1 = n + m) (hTb : n + m ≤ 4294967296) :
    Says prog 57 [.osl 1 74 n (Ows (A ++ (X ++ B))), .int .i64 i, .int .i64 (i + 1 : Nat), .osl 2 74 m (Ows V)] (.osl 0 74 T (Ows (A ++ (V ++ B)))) (num 1 [.gone, .gone]) := by
  intro w Φ σ cargs fa hcr hh hinv
  have hcell : prog.cellsOf 74 = 19 := by kernel_rfl
  simp only [CR] at hcr
  obtain ⟨v, _, f1, _, hca, hv, ⟨v2, _, f2, _, rfl, hv2, ⟨v3, _, f3, _, rfl, hv3, ⟨v4, _, f4, _, rfl, hv4, ⟨rfl, hz5⟩, hs4⟩, hs3⟩, hs2⟩, hs1⟩ := hcr
  simp only [VR] at hv hv2 hv3 hv4
  obtain ⟨rfl, hz2⟩ := hv2
  obtain ⟨rfl, hz3⟩ := hv3
  obtain ⟨_, hr1, xs, fx, ho, hx, hfx⟩ := hv
  obtain ⟨_, hr4, ys, fy, ho4, hy, hfy⟩ := hv4
  rw [hcell] at ho ho4
  have hcargs : cargs = #[v, .int .i64 i, .int .i64 (i + 1 : Nat), v4] := by
    apply Array.toList_inj.1; rw [hca]
  rw [hcargs]
  rcases ho.2 with ⟨rfl, h0⟩ | ⟨g, cap, cur, rfl, _, hg, hn, hcm, hs, ht⟩
  · omega
  rcases ho4.2 with ⟨rfl, h0⟩ | ⟨vb, vc, curv, rfl, _, hgv, hnv, hcmv, hsv, htv⟩
  · omega
  have hown : ∀ (g n c b : Nat), own1 (.slice (some ⟨g, 0, none⟩) n c) b = if b = g then 1 else 0 := fun g n c b => by
    simp [own1, Value.ownBlock, eq_comm]
  have hfa : ∀ b, fa b = (if b = g then 1 else 0) + fx b + ((if b = vb then 1 else 0) + fy b) := fun b => by
    rw [← hown g n cap b, ← hown vb m vc b, hs1 b, hs2 b, hs3 b, hs4 b, hz2 b, hz3 b, hz5 b, hfx b, hfy b]; omega
  have hsep := hinv.sep
  have hne : vb ≠ g := fun e => by
    have h1 := hsep g; have h2 := hfa g
    rw [if_pos rfl, if_pos e.symm] at h2; omega
  have hgl : g < w.heap.size := (Array.getElem?_eq_some_iff.1 hg).1
  have hvl : vb < w.heap.size := (Array.getElem?_eq_some_iff.1 hgv).1
  have hxl : xs.length = n * 19 := ho.1
  have hyl : ys.length = m * 19 := ho4.1
  have hx1 := Ows_one hx
  have hy1 := Ows_one hy
  rw [← ht] at hx1
  refine (rep_calls w g cap n m T i vb vc cur curv ys hi hn hcm hm hT hTb hg hs hgv (by omega) hyl (fun j x hj => by
    rw [← htv, List.getElem?_take] at hj
    split at hj
    · simp only [World.cell?, hgv]
      simpa using hj
    · cases hj) hy1 hx1 hne).mono ?_
  rintro en w' ⟨g', cap', cur', rfl, hg', hs', hcm', hl', ht', hgg, hos, htape, hout, hsize, hblk⟩
  have hAx : cur.toList.take (i * 19) = xs.take (i * 19) := by
    rw [← ht, List.take_take]; congr 1; omega
  rw [ht, hAx] at ht'
  -- what lies there
  obtain ⟨ga, gr, ka, kr, hga⟩ := CR_take_drop (i * 19) hx
  rw [show (Ows (A ++ (X ++ B))).take (i * 19) = Ows A by rw [Ows_append]; exact List.take_left' (by simpa using hA), show (Ows (A ++ (X ++ B))).drop (i * 19) = Ows (X ++ B) by rw [Ows_append]; exact List.drop_left' (by simpa using hA)] at *
  obtain ⟨gx, gb, _, kb, hgb⟩ := CR_take_drop 19 kr
  rw [show (Ows (X ++ B)).drop 19 = Ows B by rw [Ows_append]; exact List.drop_left' (by simpa using hX), List.drop_drop, show i * 19 + 19 = (i + 1) * 19 by omega] at kb
  have hall : CR prog w Φ σ [] (Ows (A ++ (V ++ B))) (xs.take (i * 19) ++ (ys ++ xs.drop ((i + 1) * 19))) (fun b => ga b + (fy b + gb b)) := by
    rw [Ows_append, Ows_append]
    exact CR_append ka (CR_append hy kb)
  have hnog : ∀ b, 1 ≤ ga b + (fy b + gb b) → b ≠ g := fun b hb e => by
    have h1 := hsep b; have h2 := hfa b; have h3 := hga b; have h4 := hgb b
    rw [if_pos e] at h2; omega
  have hlt : ∀ b, 1 ≤ ga b + (fy b + gb b) → b < w.heap.size := fun b hb => hinv.lt b (by
    have h2 := hfa b; have h3 := hga b; have h4 := hgb b
    omega)
  have hΦg : ∀ b, Φ b → b ≠ g := fun b hb e => by
    have h1 := hinv.apart b hb; have h2 := hfa b
    rw [if_pos e] at h2; omega
  have hΦ : ∀ b, Φ b → w'.heap[b]? = w.heap[b]? := fun b hb => hblk b (hinv.fz b hb) (hΦg b hb)
  have hall' : CR prog w' Φ σ [] (Ows (A ++ (V ++ B))) (xs.take (i * 19) ++ (ys ++ xs.drop ((i + 1) * 19))) (fun b => ga b + (fy b + gb b)) :=
    agg_rel.1 (stab w' Φ [] hΦ (fun _ h => h) _ _ _ (by simp only [hr]; exact hrs_Ows _) (fun b hb => hblk b (hlt b hb) (hnog b hb)) (agg_rel.2 hall))
  have hgl' : g' < w'.heap.size := (Array.getElem?_eq_some_iff.1 hg').1
  refine ⟨_, Φ, fun b => own1 (.slice (some ⟨g', 0, none⟩) T cap') b + (ga b + (fy b + gb b)), fun _ => 0, rfl, ⟨hos, htape, hout, hsize, fun b hb1 hb2 => hblk b hb1 fun e => ?_⟩, fun _ h => h, fun _ h => .inl h, ?_, by simp only [hr]; exact hrs_Ows _, ?_, rfl, ?_, fun b hb => ?_⟩
  · have h2 := hfa b; rw [if_pos e] at h2; omega
  · simp only [VR]
    refine ⟨fun h => absurd rfl h, hrs_Ows _, _, _, ⟨?_, .inr ⟨g', cap', cur', rfl, Nat.zero_le _, hg', hl', hcm', by rw [hcell]; exact hs', ?_⟩⟩, hall', fun b => rfl⟩
    · rw [hcell, ← ht', List.length_take, Array.length_toList, hs']
      exact Nat.min_eq_left (Nat.mul_le_mul_right _ hl')
    · rw [hcell]; exact ht'
  · have := CR_cons (P := prog) (w := w') (Φ := Φ) (σ := σ) (ρ := []) (c := .gone) (v := σ 1) (f1 := fun _ => 0) (by simp only [VR]; intro b; trivial) (CR_one (v := .gone) (cv := σ 2) (f := fun _ => 0) (by simp only [VR]; intro b; trivial))
    simpa using this
  · simp only [hown]
    refine ⟨fun b => ?_, fun b hb => ?_, fun b hb => Nat.lt_of_lt_of_le (hinv.fz b hb) hsize, fun b hb => ?_, tabs_keep hinv.tab hΦ (fun _ h => h)⟩
    · have h1 := hsep b; have h2 := hfa b; have h3 := hga b; have h4 := hgb b
      by_cases e : b = g'
      · rw [if_pos e]
        rcases hgg with hgg | hgg
        · rw [if_pos (by omega)] at h2; omega
        · have : ¬ 1 ≤ ga b + (fy b + gb b) := fun h => by have := hlt b h; omega
          omega
      · rw [if_neg e]; omega
    · by_cases e : b = g'
      · rw [e]; exact hgl'
      · rw [if_neg e] at hb
        exact Nat.lt_of_lt_of_le (hlt b (by omega)) hsize
    · have h1 := hinv.apart b hb; have h2 := hfa b; have h3 := hga b; have h4 := hgb b
      have h5 := hΦg b hb
      have h6 := hinv.fz b hb
      rw [if_neg (by omega)]
      omega
  · simp only [hown] at hb
    have h2 := hfa b; have h3 := hga b; have h4 := hgb b
    by_cases e : b = g'
    · rcases hgg with hgg | hgg
      · left; rw [if_pos (by omega)] at h2; omega
      · right; omega
    · rw [if_neg e] at hb
      left; omega
theorem plRep : plainFn prog 57 = true := by kernel_rfl
end Go.AmC

/- Part of a proof: see the last text of this folder. -/
set_option linter.unusedSimpArgs false
set_option linter.unusedVariables false
set_option maxRecDepth 20000
set_option maxHeartbeats 4000000
namespace Go.AmC
open Go Go.AM Go.Sort Go.Proofs Go.Shelf Go.RowKit Go.Lib
open Go.Proofs.Tryz (prog)
def cmpS (x y : List UInt8) : Int := if x < y then -1 else if y < x then 1 else 0
def tV (t : Term) : List Value := [.string ⟨t.Name.toArray⟩, .int .i64 t.N]
instance : Inhabited Term := ⟨⟨[], 0⟩⟩
theorem isNaN_calls (x : ByteArray) (w : World) : Calls prog 391 #[.string x] w fun e w' => e = .returned (.bool false) ∧ w' = w := by
  go_enter Go.Proofs.Tryz.func391, Go.Proofs.Tryz.ntmps391
  go_wp2
  go_ret
  exact ⟨by simp, rfl⟩
set_option maxHeartbeats 1000000 in
theorem compare_calls (x y : ByteArray) (w : World) : Calls prog 416 #[.string x, .string y] w fun e w' => e = .returned (.int .i64 (cmpS x.toList y.toList)) ∧ w' = w := by
  go_enter Go.Proofs.Tryz.func416, Go.Proofs.Tryz.ntmps416
  go_wp2_with (go_at_call 391; refine (isNaN_calls _ _).mono ?_; rintro e w' ⟨rfl, rfl⟩)
  all_goals (go_ret; refine ⟨?_, rfl⟩; unfold cmpS)
  all_goals simp only [bytesLess_eq, decide_eq_true_eq, decide_eq_false_iff_not, Bool.not_eq_true', Bool.or_eq_true, Bool.or_eq_false_iff, Bool.not_eq_false', beq_iff_eq] at *
  · rw [if_pos (by assumption)]; rfl
  · rename_i h1 h2
    rw [beq_eq_false_iff_ne] at h2
    rw [if_neg h1, if_pos (by rcases List.le_total x.toList y.toList with h | h
                              · exact absurd (List.le_antisymm h (List.not_lt.1 h1)) h2
                              · exact List.not_le.1 fun h' => h2 (List.le_antisymm h' h))]; rfl
  · rename_i h1 h2
    rw [if_neg h1, if_neg (by rw [h2]; exact List.lt_irrefl _)]; rfl
theorem closure_calls (x y : Term) (W : World) : Calls prog 415 #[.agg (tV x).toArray, .agg (tV y).toArray] W fun e w' => e = .returned (.int .i64 (cmpS x.Name y.Name)) ∧ ∃ q os', w' = grow (W.drewN q) os' := by
  have hcon := fun W' => compare_calls ⟨x.Name.toArray⟩ ⟨y.Name.toArray⟩ W'
  simp only [Lib.toList_data] at hcon
  generalize cmpS x.Name y.Name = r at hcon ⊢
  unfold tV
  go_enter Go.Proofs.Tryz.func415, Go.Proofs.Tryz.ntmps415
  go_wp2_with (go_at_call 416; refine (hcon _).mono ?_; rintro e w' ⟨rfl, rfl⟩)
  go_ret
  exact ⟨rfl, 0, _, by rw [alloc_eq_grow, alloc_eq_grow, grow_grow]; rfl⟩
def cf (x y : Term) : Int := cmpS x.Name y.Name
theorem ltOf_cf (x y : Term) : ltOf cf x y = decide (x.Name < y.Name) := by
  unfold ltOf cf cmpS
  by_cases h1 : x.Name < y.Name
  · simp [h1]
  · by_cases h2 : y.Name < x.Name <;> simp [h1, h2]
theorem swo_cf : SWO (ltOf cf) where
  irrefl x := by rw [ltOf_cf]; simp [List.lt_irrefl]
  trans x y z h1 h2 := by rw [ltOf_cf] at *; simp only [decide_eq_true_eq] at *; exact List.lt_trans h1 h2
  ntrans x y z h1 h2 := by rw [ltOf_cf] at *; simp only [decide_eq_false_iff_not, List.not_lt] at *; exact List.le_trans h2 h1
def sortT (ts : List Term) : List Term := (pdq (ltOf cf) ts.toArray 0 ts.toArray.size (Lib.bitLen ts.toArray.size) true true).toList
theorem sortT_facts (ts : List Term) : (sortT ts).Perm ts ∧ (sortT ts).Pairwise fun x y => ¬ y.Name < x.Name := by
  have h := pdq_sorts (ltOf cf) swo_cf ts.toArray 0 ts.toArray.size (Lib.bitLen ts.toArray.size) true true (Nat.zero_le _) (Nat.le_refl _) (Or.inl rfl)
  unfold sortT
  generalize pdq (ltOf cf) ts.toArray 0 ts.toArray.size (Lib.bitLen ts.toArray.size) true true = R at h ⊢
  obtain ⟨⟨hs, _, hp⟩, hso⟩ := h
  have e1 : R.extract 0 ts.toArray.size = R := by rw [← hs]; simp
  rw [e1] at hp
  refine ⟨by simpa using hp, ?_⟩
  rw [List.pairwise_iff_getElem]
  intro i j hi hj hij
  have hi' : i < R.size := by simpa using hi
  have hj' : j < R.size := by simpa using hj
  have := hso i j (Nat.zero_le _) hij (by omega)
  rw [ltOf_cf, decide_eq_false_iff_not, getElem!_pos R i hi', getElem!_pos R j hj'] at this
  simpa using this
theorem sortT_len (ts : List Term) : (sortT ts).length = ts.length := (sortT_facts ts).1.length_eq
theorem sortF_says (ts : List Term) (hl : ts.length ≤ 4294967296) : Says prog 414 [.osl 1 320 ts.length (Ows (ts.flatMap Term.d)), .fn 415 []] (.tup [] []) [(1, .osl 1 320 (sortT ts).length (Ows ((sortT ts).flatMap Term.d)))] := by
  rw [sortT_len ts]
  have hT : (fun t : Term => (Term.d t).map dv) = tV := by funext t; simp [tV, dv]
  have eg : ∀ args w, (callFunc 415 args).run prog w = .ok (.enter 415 args) w := enters_of Go.Proofs.Tryz.func415 (by kernel_rfl) rfl
  refine says_sort Term.d 2 320 414 Term.d_len (fun x d hd => by simp at hd; rcases hd with rfl | rfl <;> rfl) (by kernel_rfl) ts (sortT ts) (sortT_len ts) [.fn 415 []] [.func (.func 415) #[] #[]] (hex_fn _) ?_ ?_
  · intro w blk cap hH hb hm
    have hsz : ts.toArray.size < 4611686018427387904 := by
      simp only [List.size_toArray]; omega
    rw [hT] at hH ⊢
    exact AnyQ.slices_SortFunc_eq Go.Proofs.Tryz.sortT 2 Go.Proofs.Tryz.isAgg320 Go.Proofs.Tryz.sizeOf320 tV (fun _ => rfl) (fun x v hv => by simp [tV] at hv; rcases hv with rfl | rfl <;> rfl) cf swo_cf 415 #[] blk 0 cap ts.toArray w eg (fun m os dk _ x y => closure_calls x y _) hH hb hsz
  · intro w _
    exact AnyF.slices_SortFunc_none Go.Proofs.Tryz.sortT none 0 _ w
end Go.AmC

/- Part of a proof: see the last text of this folder. -/
set_option linter.unusedSimpArgs false
set_option linter.unusedVariables false
set_option maxRecDepth 20000
set_option maxHeartbeats 4000000
namespace Go.AmC
open Go Go.AM
open Go.Proofs (bytesLess_eq)
open Go.Proofs.Tryz (prog)
def coefOk (n : Int) : Bool := decide (-100000 ≤ n) && decide (n ≤ 100000)
def coef : List Term → List UInt8 → Int
  | [], _ => 0
  | t :: ts, n => if t.Name = n then t.N else coef ts n
def okT (p : Option (List UInt8)) : List Term → Bool
  | [] => true
  | t :: ts => nameOk t.Name && !decide (t.N = 0) && coefOk t.N && ltO p t.Name && okT (some t.Name) ts
theorem okT_cons {p : Option (List UInt8)} {t : Term} {ts : List Term} : okT p (t :: ts) = (nameOk t.Name && !decide (t.N = 0) && coefOk t.N && ltO p t.Name && okT (some t.Name) ts) := by rw [okT]
def affOk (a : Aff) : Bool := okT none a.T && coefOk a.C
theorem coef_ok_spec (n : Int) : Says prog 331 [.int .i64 n] (.bool (coefOk n)) [] := by
  have f := in_spec n (-100000) 100000
  refine Fn_G Go.Proofs.Tryz.func331 ok331 ?_
  simp [v331, r331]
  refine callG f ?_
  simp [coefOk]
theorem coef_ok_impl (n : Int) : Says prog 337 [.int .i64 n] (.bool (coefOk n)) [] := by
  have f := in_impl n (-100000) 100000
  refine Fn_G Go.Proofs.Tryz.func337 ok337 ?_
  simp [v337, r337]
  refine callG f ?_
  simp [coefOk]
theorem coef_spec (a : Aff) (n : List UInt8) (hl : a.T.length ≤ 4294967296) : Says prog 396 [.agg (Cs a.d), .str n] (.int .i64 (coef a.T n)) [] := by
  refine Fn_G Go.Proofs.Tryz.func396 ok396 ?_
  generalize hR : coef a.T n = R0
  simp [v396, r396]
  refine G_for (l := l396_0) (b := b396_0) rfl [] (fun i => [(4, .int .i64 i)]) (fun i => coef (a.T.drop i) n = R0) a.T.length (by simpa using hR) (by simp) ?_ ?_
  · intro i hi hI q hn hx hr
    obtain ⟨x, hx0⟩ := get_some hi
    have hrow := row_drop Term.d 2 Term.d_len hx0
    have hw := wrap_succ (i := i) (by omega)
    rw [drop_cons hx0, coef] at hI
    by_cases c : x.Name = n
    · simp [hi, Cs_drop, hrow, c]
      refine hr _ ?_
      rw [if_pos c] at hI
      simp [hI]
    · simp [hi, Cs_drop, hrow, c, hw]
      rw [if_neg c] at hI
      exact hn _ (by simp) hI
  · intro hI q hx hr
    simp [coef] at hI
    simp
    refine hx _ _ ?_
    simp [hI]
theorem coef_impl (a : Aff) (n : List UInt8) (hl : a.T.length ≤ 4294967296) : Says prog 339 [.agg (Cs a.d), .str n] (.int .i64 (coef a.T n)) [] := by
  refine Fn_G Go.Proofs.Tryz.func339 ok339 ?_
  generalize hR : coef a.T n = R0
  simp [v339, r339]
  refine G_for (l := l339_0) (b := b339_0) rfl [8] (fun i => [(6, .int .i64 i)]) (fun i => coef (a.T.drop i) n = R0) a.T.length (by simpa using hR) (by simp) ?_ ?_
  · intro i hi hI q hn hx hr
    obtain ⟨x, hx0⟩ := get_some hi
    have hrow := row_drop Term.d 2 Term.d_len hx0
    have hw := wrap_succ (i := i) (by omega)
    rw [drop_cons hx0, coef] at hI
    by_cases c : x.Name = n
    · simp [hi, Cs_drop, hrow, c, splice]
      refine hr _ ?_
      rw [if_pos c] at hI
      simp [hI]
    · simp [hi, Cs_drop, hrow, c, hw, splice]
      rw [if_neg c] at hI
      exact hn _ (by simp) hI
  · intro hI q hx hr
    simp [coef] at hI
    simp
    refine hx _ _ ?_
    simp [hI]
def prevT (ts : List Term) (i : Nat) : Option (List UInt8) := if i = 0 then none else (ts[i - 1]?).map (·.Name)
theorem prevT_succ {ts : List Term} {i : Nat} {t : Term} (h : ts[i]? = some t) : prevT ts (i + 1) = some t.Name := by simp [prevT, h]
theorem okT_step {ts : List Term} {i : Nat} {t : Term} (h : ts[i]? = some t) {b : Bool} (hI : okT (prevT ts i) (ts.drop i) = b) :
    (nameOk t.Name && !decide (t.N = 0) && coefOk t.N && ltO (prevT ts i) t.Name && okT (prevT ts (i + 1)) (ts.drop (i + 1))) = b := by
  rw [drop_cons h, okT_cons] at hI
  rw [prevT_succ h]; exact hI
theorem affOk_spec (a : Aff) (hl : a.tot ≤ 4294967296) : Says prog 293 [.agg (Cs a.d)] (.bool (affOk a)) [] := by
  have ht := a.tot_eq
  have fC := coef_ok_spec a.C
  refine Fn_G Go.Proofs.Tryz.func293 ok293 ?_
  generalize hR : affOk a = R0
  unfold affOk at hR
  generalize hR2 : okT none a.T = R2 at hR
  simp [v293, r293]
  refine G_for (l := l293_0) (b := b293_0) rfl [] (fun i => [(3, .int .i64 i)]) (fun i => okT (prevT a.T i) (a.T.drop i) = R2) a.T.length (by simpa [prevT] using hR2) (by simp) ?_ ?_
  · intro i hi hI q hn hx hr
    obtain ⟨x, hx0⟩ := get_some hi
    have hrow := row_drop Term.d 2 Term.d_len hx0
    have hw := wrap_succ (i := i) (by omega)
    have hI2 := okT_step hx0 hI
    have fN := nm_spec x.Name (by have := mem_sum Term.tot (List.mem_of_getElem? hx0); rw [Term.tot_eq] at this; omega)
    have fK := coef_ok_spec x.N
    have bad : R2 = false → R0 = false := fun h => by rw [← hR, h]; rfl
    cases c1 : nameOk x.Name
    · rw [c1] at fN hI2
      simp [hi, Cs_drop, hrow, splice]
      refine callD fN ?_
      simp
      refine hr _ ?_
      simp at hI2
      simp [bad hI2]
    by_cases c2 : x.N = 0
    · rw [c1] at fN hI2
      simp [c2] at hI2
      simp [hi, Cs_drop, hrow, splice]
      refine callD fN ?_
      simp [hi, Cs_drop, hrow, c2]
      refine hr _ ?_
      simp [bad hI2]
    cases c3 : coefOk x.N
    · rw [c1] at fN hI2
      rw [c3] at fK hI2
      simp [c2] at hI2
      simp [hi, Cs_drop, hrow, splice]
      refine callD fN ?_
      simp [hi, Cs_drop, hrow, c2]
      refine callD fK ?_
      simp [c2]
      refine hr _ ?_
      simp [bad hI2]
    rw [c1] at fN hI2
    rw [c3] at fK hI2
    simp [hi, Cs_drop, hrow, splice]
    refine callD fN ?_
    simp [hi, Cs_drop, hrow, c2]
    refine callD fK ?_
    cases i with
    | zero =>
      have hw1 : IntKind.i64.wrap 1 = 1 := by decide
      simp [hw1, c2]
      exact hn _ (by simp) (by simpa [c2, prevT, ltO] using hI2)
    | succ j =>
      obtain ⟨y, hy0⟩ := get_some (xs := a.T) (i := j) (by omega)
      have hrow2 := row_drop Term.d 2 Term.d_len hy0
      have hwj : IntKind.i64.wrap ((j : Int) + 1 - 1) = (j : Int) := by rw [wrap_small] <;> omega
      have hwj2 : IntKind.i64.wrap (j : Int) = (j : Int) := by rw [wrap_small] <;> omega
      have hj : (0 : Int) < (j : Int) + 1 := by omega
      have hj2 : j < a.T.length := by omega
      have hj3 : (0 : Int) ≤ (j : Int) + 1 := by omega
      have hj4 : (j : Int) + 1 < (a.T.length : Int) := by omega
      have hw3 : IntKind.i64.wrap ((j : Int) + 1 + 1) = (j : Int) + 1 + 1 := by rw [wrap_small] <;> omega
      rw [prevT_succ hy0] at hI2
      by_cases c4 : y.Name < x.Name
      · simp [c2, hi, hj, hj2, hj3, hj4, hwj, hwj2, Cs_drop, hrow, hrow2, bl_geq, bl_leq, c4, hw3]
        exact hn _ (by simp) (by simpa [c2, c4, ltO] using hI2)
      · simp [c2, hi, hj, hj2, hj3, hj4, hwj, hwj2, Cs_drop, hrow, hrow2, bl_geq, bl_leq, c4, hw3]
        refine hr _ ?_
        simp [c2, c4, ltO] at hI2
        simp [bad hI2]
  · intro hI q hx hr
    simp [okT] at hI
    simp
    refine hx _ _ ?_
    simp
    refine callG fC ?_
    simp [← hR, ← hI]
theorem affOk_impl (a : Aff) (hl : a.tot ≤ 4294967296) : Says prog 306 [.agg (Cs a.d)] (.bool (affOk a)) [] := by
  have ht := a.tot_eq
  have fC := coef_ok_impl a.C
  refine Fn_G Go.Proofs.Tryz.func306 ok306 ?_
  generalize hR : affOk a = R0
  unfold affOk at hR
  generalize hR2 : okT none a.T = R2 at hR
  simp [v306, r306]
  refine G_for (l := l306_0) (b := b306_0) rfl [7, 8] (fun i => [(5, .int .i64 i)]) (fun i => okT (prevT a.T i) (a.T.drop i) = R2) a.T.length (by simpa [prevT] using hR2) (by simp) ?_ ?_
  · intro i hi hI q hn hx hr
    obtain ⟨x, hx0⟩ := get_some hi
    have hrow := row_drop Term.d 2 Term.d_len hx0
    have hw := wrap_succ (i := i) (by omega)
    have hI2 := okT_step hx0 hI
    have fN := nm_impl x.Name (by have := mem_sum Term.tot (List.mem_of_getElem? hx0); rw [Term.tot_eq] at this; omega)
    have fK := coef_ok_impl x.N
    have bad : R2 = false → R0 = false := fun h => by rw [← hR, h]; rfl
    cases c1 : nameOk x.Name
    · rw [c1] at fN hI2
      simp [hi, Cs_drop, hrow, splice]
      refine callD fN ?_
      simp
      refine hr _ ?_
      simp at hI2
      simp [bad hI2]
    by_cases c2 : x.N = 0
    · rw [c1] at fN hI2
      simp [c2] at hI2
      simp [hi, Cs_drop, hrow, splice]
      refine callD fN ?_
      simp [hi, Cs_drop, hrow, c2]
      refine hr _ ?_
      simp [bad hI2]
    cases c3 : coefOk x.N
    · rw [c1] at fN hI2
      rw [c3] at fK hI2
      simp [c2] at hI2
      simp [hi, Cs_drop, hrow, splice]
      refine callD fN ?_
      simp [hi, Cs_drop, hrow, c2]
      refine callD fK ?_
      simp [c2]
      refine hr _ ?_
      simp [bad hI2]
    rw [c1] at fN hI2
    rw [c3] at fK hI2
    simp [hi, Cs_drop, hrow, splice]
    refine callD fN ?_
    simp [hi, Cs_drop, hrow, c2]
    refine callD fK ?_
    cases i with
    | zero =>
      have hw1 : IntKind.i64.wrap 1 = 1 := by decide
      simp [hw1, c2]
      exact hn _ (by simp) (by simpa [c2, prevT, ltO] using hI2)
    | succ j =>
      obtain ⟨y, hy0⟩ := get_some (xs := a.T) (i := j) (by omega)
      have hrow2 := row_drop Term.d 2 Term.d_len hy0
      have hwj : IntKind.i64.wrap ((j : Int) + 1 - 1) = (j : Int) := by rw [wrap_small] <;> omega
      have hwj2 : IntKind.i64.wrap (j : Int) = (j : Int) := by rw [wrap_small] <;> omega
      have hj : (0 : Int) < (j : Int) + 1 := by omega
      have hj2 : j < a.T.length := by omega
      have hj3 : (0 : Int) ≤ (j : Int) + 1 := by omega
      have hj4 : (j : Int) + 1 < (a.T.length : Int) := by omega
      have hw3 : IntKind.i64.wrap ((j : Int) + 1 + 1) = (j : Int) + 1 + 1 := by rw [wrap_small] <;> omega
      rw [prevT_succ hy0] at hI2
      by_cases c4 : y.Name < x.Name
      · simp [c2, hi, hj, hj2, hj3, hj4, hwj, hwj2, Cs_drop, hrow, hrow2, bl_geq, bl_leq, c4, hw3]
        exact hn _ (by simp) (by simpa [c2, c4, ltO] using hI2)
      · simp [c2, hi, hj, hj2, hj3, hj4, hwj, hwj2, Cs_drop, hrow, hrow2, bl_geq, bl_leq, c4, hw3]
        refine hr _ ?_
        simp [c2, c4, ltO] at hI2
        simp [bad hI2]
  · intro hI q hx hr
    simp [okT] at hI
    simp
    refine hx _ _ ?_
    simp
    refine callG fC ?_
    simp [← hR, ← hI]
end Go.AmC

