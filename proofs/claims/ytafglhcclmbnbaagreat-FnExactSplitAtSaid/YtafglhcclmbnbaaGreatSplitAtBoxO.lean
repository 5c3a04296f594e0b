/- Part of a proof: see the last text of this folder. -/
import Derived.Test.YtafglhcclmbnbaaGreatSplitAtAffH
/- Part of a proof: see the last text of this folder. -/
set_option linter.unusedSimpArgs false
set_option linter.unusedVariables false
set_option maxRecDepth 20000
set_option maxHeartbeats 4000000
namespace Go.AmC
open Go Go.AM
open Go.Proofs.Tryz (prog)
def constE (e : Exp) : Option Int := (affE [] e).map (·.C)
def resC (o : Option Int) : AV := .tup [none, none] [.int .i64 (o.getD 0), .bool o.isSome]
theorem resC_A (o : Option Aff) : resC (o.map (·.C)) = .tup [none, none] [.int .i64 (o.getD ⟨0, []⟩).C, .bool o.isSome] := by
  cases o <;> rfl
theorem const_impl (e : Exp) (h : e.tot ≤ 10000000) : Says prog 318 [.agg (Cs e.d)] (resC (constE e)) [] := by
  have f := aff_impl [] (by simp) e h
  unfold constE
  rw [resC_A]
  refine Fn_G Go.Proofs.Tryz.func318 ok318 ?_
  generalize affE [] e = o at f ⊢
  simp [resA] at f
  simp [v318, r318, splice]
  refine callG f ?_
  simp [splice]
theorem const_spec (e : Exp) (h : e.tot ≤ 10000000) : Says prog 291 [.agg (Cs e.d)] (resC (constE e)) [] := by
  have f := aff_spec [] (by simp) e h
  unfold constE
  rw [resC_A]
  refine Fn_G Go.Proofs.Tryz.func291 ok291 ?_
  generalize affE [] e = o at f ⊢
  simp [resA] at f
  simp [v291, r291, splice]
  refine callG f ?_
  simp [splice]
def inB (n : Int) : Bool := decide (-10000 ≤ n) && decide (n ≤ 10000)
def rngNames (l : List Rng) : List Nm := l.map (·.Name)
def okB (all : List Rng) : Nat → List Rng → Bool
  | _, [] => true
  | i, r :: rs => nameOk r.Name && inB r.Lo && inB r.Hi && decide (idxOf r.Name (rngNames all) 0 = (i : Int)) && okB all (i + 1) rs
def boxOk (l : List Rng) : Bool := okB l 0 l && decide (l.length ≤ 8)
def fullB (l : List Rng) : Bool := l.all (fun r => decide (r.Lo ≤ r.Hi)) && boxOk l
theorem at_spec (l : List Rng) (n : Nm) (hl : l.length ≤ 4000000000) : Says prog 232 [.rsl l.length (Cs (l.flatMap Rng.d)), .str n] (.int .i64 (idxOf n (rngNames l) 0)) [] := by
  refine Fn_G Go.Proofs.Tryz.func232 ok232 ?_
  generalize hR : idxOf n (rngNames l) 0 = R0
  simp [v232, r232]
  refine G_for (l := l232_0) (b := b232_0) rfl [] (fun i => [(3, .int .i64 i)]) (fun i => idxOf n (rngNames (l.drop i)) i = R0) l.length (by simpa using hR) (by simp) ?_ ?_
  · intro i hi hI q hn hx hr
    obtain ⟨x, hx0⟩ := get_some hi
    have hrow := row_drop Rng.d 3 Rng.d_len hx0
    have hw := wrap_succ (i := i) (by omega)
    rw [drop_cons hx0] at hI
    simp only [rngNames, List.map_cons, idxOf] at hI
    by_cases c : x.Name = n
    · simp [hi, Cs_drop, hrow, c]
      refine hr _ ?_
      rw [if_pos c] at hI
      simp [hI]
    · simp [hi, Cs_drop, hrow, c, hw]
      rw [if_neg c] at hI
      exact hn _ (by simp) hI
  · intro hI q hx hr
    simp [rngNames, idxOf] at hI
    simp
    refine hx _ _ ?_
    simp [hI]
theorem eqName_impl (r : Rng) (n : Nm) : Says prog 305 [.agg (Cs r.d), .rp [.str n]] (.bool (r.Name == n)) [] := by
  refine Fn_G Go.Proofs.Tryz.func305 ok305 ?_
  simp [v305, r305]
theorem idxF_impl (l : List Rng) (n : Nm) (hl : l.length ≤ 4000000000) : Says prog 304 [.rsl l.length (Cs (l.flatMap Rng.d)), .fn 305 [.rp [.str n]]] (.int .i64 (idxOf n (rngNames l) 0)) [] := by
  refine Fn_G Go.Proofs.Tryz.func304 ok304 ?_
  have pl : plainFn prog 305 = true := by kernel_rfl
  generalize hR : idxOf n (rngNames l) 0 = R0
  simp [v304, r304]
  refine G_for (l := l304_0) (b := b304_0) rfl [6] (fun i => [(4, .int .i64 i)]) (fun i => idxOf n (rngNames (l.drop i)) i = R0) l.length (by simpa using hR) (by simp) ?_ ?_
  · intro i hi hI q hn hx hr
    obtain ⟨x, hx0⟩ := get_some hi
    have hrow := row_drop Rng.d 3 Rng.d_len hx0
    have hw := wrap_succ (i := i) (by omega)
    rw [drop_cons hx0] at hI
    simp only [rngNames, List.map_cons, idxOf] at hI
    have f := eqName_impl x n
    simp at f
    simp [hi, Cs_drop, hrow]
    refine callV pl f ?_
    by_cases c : x.Name = n
    · simp [c]
      refine hr _ ?_
      rw [if_pos c] at hI
      simp [hI]
    · simp [c, hw]
      rw [if_neg c] at hI
      exact hn _ (by simp) hI
  · intro hI q hx hr
    simp [rngNames, idxOf] at hI
    simp
    refine hx _ _ ?_
    simp [hI]
theorem at_impl (l : List Rng) (n : Nm) (hl : l.length ≤ 4000000000) : Says prog 243 [.rsl l.length (Cs (l.flatMap Rng.d)), .str n] (.int .i64 (idxOf n (rngNames l) 0)) [] := by
  have f := idxF_impl l n hl
  refine Fn_G Go.Proofs.Tryz.func243 ok243 ?_
  simp [v243, r243]
  refine callG f ?_
  simp
theorem okB_step {all l : List Rng} {i : Nat} {r : Rng} (h : l[i]? = some r) {b : Bool} (hI : okB all i (l.drop i) = b) :
    (nameOk r.Name && inB r.Lo && inB r.Hi && decide (idxOf r.Name (rngNames all) 0 = (i : Int)) && okB all (i + 1) (l.drop (i + 1))) = b := by
  rw [drop_cons h, okB] at hI; exact hI
theorem boxOk_spec (l : List Rng) (hl : l.length ≤ 4000000000) (hs : ∀ r ∈ l, r.Name.length ≤ 4294967296) : Says prog 292 [.rsl l.length (Cs (l.flatMap Rng.d))] (.bool (boxOk l)) [] := by
  refine Fn_G Go.Proofs.Tryz.func292 ok292 ?_
  generalize hR : boxOk l = R0
  unfold boxOk at hR
  generalize hR2 : okB l 0 l = R2 at hR
  simp [v292, r292]
  refine G_for (l := l292_0) (b := b292_0) rfl [] (fun i => [(2, .int .i64 i)]) (fun i => okB l i (l.drop i) = R2) l.length (by simpa using hR2) (by simp) ?_ ?_
  · intro i hi hI q hn hx hr
    obtain ⟨x, hx0⟩ := get_some hi
    have hrow := row_drop Rng.d 3 Rng.d_len hx0
    have hw := wrap_succ (i := i) (by omega)
    have hI2 := okB_step hx0 hI
    have fN := nm_spec x.Name (hs x (List.mem_of_getElem? hx0))
    have fL := in_spec x.Lo (-10000) 10000
    have fH := in_spec x.Hi (-10000) 10000
    have fA := at_spec l x.Name hl
    have bad : R2 = false → R0 = false := fun h => by rw [← hR, h]; rfl
    change Says prog _ _ (.bool (inB x.Lo)) _ at fL
    change Says prog _ _ (.bool (inB x.Hi)) _ at fH
    cases c1 : nameOk x.Name
    · rw [c1] at fN hI2
      simp [hi, Cs_drop, hrow, splice]
      refine callG fN ?_
      simp
      refine hr _ ?_
      simp at hI2
      simp [bad hI2]
    cases c2 : inB x.Lo
    · rw [c1] at fN hI2
      rw [c2] at fL hI2
      simp [hi, Cs_drop, hrow, splice]
      refine callG fN ?_
      simp [hi, Cs_drop, hrow]
      refine callG fL ?_
      simp
      refine hr _ ?_
      simp at hI2
      simp [bad hI2]
    cases c3 : inB x.Hi
    · rw [c1] at fN hI2
      rw [c2] at fL hI2
      rw [c3] at fH hI2
      simp [hi, Cs_drop, hrow, splice]
      refine callG fN ?_
      simp [hi, Cs_drop, hrow]
      refine callG fL ?_
      simp [hi, Cs_drop, hrow]
      refine callG fH ?_
      simp
      refine hr _ ?_
      simp at hI2
      simp [bad hI2]
    rw [c1] at fN hI2
    rw [c2] at fL hI2
    rw [c3] at fH hI2
    simp [hi, Cs_drop, hrow, splice]
    refine callG fN ?_
    simp [hi, Cs_drop, hrow]
    refine callG fL ?_
    simp [hi, Cs_drop, hrow]
    refine callG fH ?_
    simp [hi, Cs_drop, hrow]
    refine callG fA ?_
    by_cases c4 : idxOf x.Name (rngNames l) 0 = (i : Int)
    · simp [c4, hw]
      exact hn _ (by simp) (by simpa [c4] using hI2)
    · simp [c4, hw]
      refine hr _ ?_
      simp [c4] at hI2
      simp [bad hI2]
  · intro hI q hx hr
    simp [okB] at hI
    simp
    refine hx _ _ ?_
    have e : ((l.length : Int) ≤ 8) ↔ l.length ≤ 8 := by omega
    simp [← hR, ← hI, e]
theorem boxOk_impl (l : List Rng) (hl : l.length ≤ 4000000000) (hs : ∀ r ∈ l, r.Name.length ≤ 4294967296) : Says prog 319 [.rsl l.length (Cs (l.flatMap Rng.d))] (.bool (boxOk l)) [] := by
  refine Fn_G Go.Proofs.Tryz.func319 ok319 ?_
  generalize hR : boxOk l = R0
  unfold boxOk at hR
  generalize hR2 : okB l 0 l = R2 at hR
  simp [v319, r319]
  refine G_for (l := l319_0) (b := b319_0) rfl [6, 7] (fun i => [(4, .int .i64 i)]) (fun i => okB l i (l.drop i) = R2) l.length (by simpa using hR2) (by simp) ?_ ?_
  · intro i hi hI q hn hx hr
    obtain ⟨x, hx0⟩ := get_some hi
    have hrow := row_drop Rng.d 3 Rng.d_len hx0
    have hw := wrap_succ (i := i) (by omega)
    have hI2 := okB_step hx0 hI
    have fN := nm_impl x.Name (hs x (List.mem_of_getElem? hx0))
    have fL := in_impl x.Lo (-10000) 10000
    have fH := in_impl x.Hi (-10000) 10000
    have fA := at_impl l x.Name hl
    have bad : R2 = false → R0 = false := fun h => by rw [← hR, h]; rfl
    change Says prog _ _ (.bool (inB x.Lo)) _ at fL
    change Says prog _ _ (.bool (inB x.Hi)) _ at fH
    cases c1 : nameOk x.Name
    · rw [c1] at fN hI2
      simp [hi, Cs_drop, hrow, splice]
      refine callG fN ?_
      simp
      refine hr _ ?_
      simp at hI2
      simp [bad hI2]
    cases c2 : inB x.Lo
    · rw [c1] at fN hI2
      rw [c2] at fL hI2
      simp [hi, Cs_drop, hrow, splice]
      refine callG fN ?_
      simp [hi, Cs_drop, hrow]
      refine callG fL ?_
      simp
      refine hr _ ?_
      simp at hI2
      simp [bad hI2]
    cases c3 : inB x.Hi
    · rw [c1] at fN hI2
      rw [c2] at fL hI2
      rw [c3] at fH hI2
      simp [hi, Cs_drop, hrow, splice]
      refine callG fN ?_
      simp [hi, Cs_drop, hrow]
      refine callG fL ?_
      simp [hi, Cs_drop, hrow]
      refine callG fH ?_
      simp
      refine hr _ ?_
      simp at hI2
      simp [bad hI2]
    rw [c1] at fN hI2
    rw [c2] at fL hI2
    rw [c3] at fH hI2
    simp [hi, Cs_drop, hrow, splice]
    refine callG fN ?_
    simp [hi, Cs_drop, hrow]
    refine callG fL ?_
    simp [hi, Cs_drop, hrow]
    refine callG fH ?_
    simp [hi, Cs_drop, hrow]
    refine callG fA ?_
    by_cases c4 : idxOf x.Name (rngNames l) 0 = (i : Int)
    · simp [c4, hw]
      exact hn _ (by simp) (by simpa [c4] using hI2)
    · simp [c4, hw]
      refine hr _ ?_
      simp [c4] at hI2
      simp [bad hI2]
  · intro hI q hx hr
    simp [okB] at hI
    simp
    refine hx _ _ ?_
    have e : ((l.length : Int) ≤ 8) ↔ l.length ≤ 8 := by omega
    simp [← hR, ← hI, e]
theorem all_step {l : List Rng} {i : Nat} {r : Rng} (h : l[i]? = some r) {b : Bool} (hI : (l.drop i).all (fun r => decide (r.Lo ≤ r.Hi)) = b) :
    (decide (r.Lo ≤ r.Hi) && (l.drop (i + 1)).all (fun r => decide (r.Lo ≤ r.Hi))) = b := by
  rw [drop_cons h, List.all_cons] at hI; exact hI
theorem full_spec (l : List Rng) (hl : l.length ≤ 4000000000) (hs : ∀ r ∈ l, r.Name.length ≤ 4294967296) : Says prog 231 [.rsl l.length (Cs (l.flatMap Rng.d))] (.bool (fullB l)) [] := by
  have fB := boxOk_spec l hl hs
  refine Fn_G Go.Proofs.Tryz.func231 ok231 ?_
  generalize hR : fullB l = R0
  unfold fullB at hR
  generalize hR2 : l.all (fun r => decide (r.Lo ≤ r.Hi)) = R2 at hR
  simp [v231, r231]
  refine G_for (l := l231_0) (b := b231_0) rfl [] (fun i => [(2, .int .i64 i)]) (fun i => (l.drop i).all (fun r => decide (r.Lo ≤ r.Hi)) = R2) l.length (by simpa using hR2) (by simp) ?_ ?_
  · intro i hi hI q hn hx hr
    obtain ⟨x, hx0⟩ := get_some hi
    have hrow := row_drop Rng.d 3 Rng.d_len hx0
    have hw := wrap_succ (i := i) (by omega)
    have hI2 := all_step hx0 hI
    by_cases c : x.Lo ≤ x.Hi
    · have c' : ¬ x.Hi < x.Lo := by omega
      simp [hi, Cs_drop, hrow, splice, c, c', hw]
      exact hn _ (by simp) (by simpa [c] using hI2)
    · have c' : x.Hi < x.Lo := by omega
      simp [hi, Cs_drop, hrow, splice, c, c', hw]
      refine hr _ ?_
      simp [c] at hI2
      simp [← hR, hI2]
  · intro hI q hx hr
    simp at hI
    simp
    refine hx _ _ ?_
    simp
    refine callG fB ?_
    simp [← hR, ← hI]
theorem full_impl (l : List Rng) (hl : l.length ≤ 4000000000) (hs : ∀ r ∈ l, r.Name.length ≤ 4294967296) : Says prog 255 [.rsl l.length (Cs (l.flatMap Rng.d))] (.bool (fullB l)) [] := by
  have fB := boxOk_impl l hl hs
  refine Fn_G Go.Proofs.Tryz.func255 ok255 ?_
  generalize hR : fullB l = R0
  unfold fullB at hR
  generalize hR2 : l.all (fun r => decide (r.Lo ≤ r.Hi)) = R2 at hR
  simp [v255, r255]
  refine G_for (l := l255_0) (b := b255_0) rfl [6] (fun i => [(4, .int .i64 i)]) (fun i => (l.drop i).all (fun r => decide (r.Lo ≤ r.Hi)) = R2) l.length (by simpa using hR2) (by simp) ?_ ?_
  · intro i hi hI q hn hx hr
    obtain ⟨x, hx0⟩ := get_some hi
    have hrow := row_drop Rng.d 3 Rng.d_len hx0
    have hw := wrap_succ (i := i) (by omega)
    have hI2 := all_step hx0 hI
    by_cases c : x.Lo ≤ x.Hi
    · have c' : ¬ x.Hi < x.Lo := by omega
      simp [hi, Cs_drop, hrow, splice, c, c', hw]
      exact hn _ (by simp) (by simpa [c] using hI2)
    · have c' : x.Hi < x.Lo := by omega
      simp [hi, Cs_drop, hrow, splice, c, c', hw]
      refine hr _ ?_
      simp [c] at hI2
      simp [← hR, hI2]
  · intro hI q hx hr
    simp at hI
    simp
    refine hx _ _ ?_
    simp
    refine callG fB ?_
    simp [← hR, ← hI]
end Go.AmC

/- Part of a proof: see the last text of this folder. -/
set_option linter.unusedSimpArgs false
set_option linter.unusedVariables false
set_option maxRecDepth 20000
set_option maxHeartbeats 4000000
namespace Go.AmC
open Go Go.AM
open Go.Proofs.Tryz (prog)
def rawS : Stmt → List Rng × Bool
  | ⟨K, S, _, _, Lo, Hi, B⟩ => if K = 3 then (⟨S, (constE Lo).getD 0, (constE Hi).getD 0⟩ :: (B.map rawS).flatMap (·.1), (constE Lo).isSome && (constE Hi).isSome && (B.map rawS).all (·.2)) else ([], true)
def rawL (l : List Stmt) : List Rng × Bool := ((l.map rawS).flatMap (·.1), (l.map rawS).all (·.2))
theorem rawS_eq (x : Stmt) : rawS x = if x.K = 3 then (⟨x.S, (constE x.Lo).getD 0, (constE x.Hi).getD 0⟩ :: (rawL x.Body).1, (constE x.Lo).isSome && (constE x.Hi).isSome && (rawL x.Body).2) else ([], true) := by
  cases x; rw [rawS]; rfl
theorem rawL_succ {l : List Stmt} {i : Nat} {x : Stmt} (h : l[i]? = some x) : rawL (l.take (i + 1)) = ((rawL (l.take i)).1 ++ (rawS x).1, (rawL (l.take i)).2 && (rawS x).2) := by
  rw [List.take_add_one, h]; simp [rawL, List.flatMap_append, List.all_append]
theorem rawS_len : ∀ x : Stmt, (rawS x).1.length ≤ 1 + x.tot := Stmt.ind fun x ih => by
  rw [rawS_eq, x.tot_eq]
  split
  · have h : (rawL x.Body).1.length ≤ x.Body.length + (x.Body.map Stmt.tot).sum := by
      have key : ∀ l : List Stmt, (∀ y ∈ l, (rawS y).1.length ≤ 1 + y.tot) → (rawL l).1.length ≤ l.length + (l.map Stmt.tot).sum := by
        intro l
        induction l with
        | nil => intro _; simp [rawL]
        | cons y l ihl =>
          intro hy
          have h1 := hy y (by simp)
          have h2 := ihl fun z hz => hy z (by simp [hz])
          simp only [rawL, List.map_cons, List.flatMap_cons, List.length_append, List.length_cons, List.sum_cons] at h2 ⊢
          omega
      exact key _ ih
    simp only [List.length_cons]; omega
  · simp
theorem rawL_len (l : List Stmt) : (rawL l).1.length ≤ l.length + (l.map Stmt.tot).sum := by
  induction l with
  | nil => simp [rawL]
  | cons y l ih =>
    have h1 := rawS_len y
    simp only [rawL, List.map_cons, List.flatMap_cons, List.length_append, List.length_cons, List.sum_cons] at ih ⊢
    omega
theorem rawL_take_len (l : List Stmt) (i : Nat) : (rawL (l.take i)).1.length ≤ (rawL l).1.length := by
  have : rawL l = ((rawL (l.take i)).1 ++ (rawL (l.drop i)).1, (rawL l).2) := by
    have h : l = l.take i ++ l.drop i := (List.take_append_drop i l).symm
    conv => lhs; rw [h]
    simp only [rawL, List.map_append, List.flatMap_append]
    rw [Prod.mk.injEq]
    exact ⟨rfl, by conv => rhs; rw [h, List.map_append]⟩
  rw [this]; simp
theorem Ows_sc : ∀ {ds : List D}, (∀ d ∈ ds, isL d = false) → Ows ds = Cs ds
  | [], _ => rfl
  | d :: ds, h => by
    have h1 := h d (by simp)
    have h2 := Ows_sc (ds := ds) fun x hx => h x (by simp [hx])
    rw [Ows_cons, Cs_cons, h2]
    cases d <;> first | rfl | simp [isL] at h1
theorem rng_sc (l : List Rng) : Ows (l.flatMap Rng.d) = Cs (l.flatMap Rng.d) := Ows_sc fun d hd => by
  obtain ⟨x, _, hx⟩ := List.mem_flatMap.1 hd
  simp at hx
  rcases hx with rfl | rfl | rfl <;> rfl
def resL (r : List Rng × Bool) : AV := .tup [none, none] [.osl 0 190 r.1.length (Ows (r.1.flatMap Rng.d)), .bool r.2]
theorem rngs_impl (l : List Stmt) (hl : l.length ≤ 10000000) (ht : (l.map Stmt.tot).sum ≤ 10000000) (h : ∀ y ∈ l, Says prog 254 [.rsl y.Body.length (Cs (y.Body.flatMap Stmt.d))] (resL (rawL y.Body)) []) :
    Says prog 254 [.rsl l.length (Cs (l.flatMap Stmt.d))] (resL (rawL l)) [] := by
  refine Fn_G Go.Proofs.Tryz.func254 ok254 ?_
  have hfl := rawL_len l
  have htl := rawL_take_len l
  generalize hR : resL (rawL l) = R0
  simp [v254, r254]
  refine G_for (l := l254_0) (b := b254_0) rfl [9, 11, 12, 13, 14, 15, 16] (fun i => [(3, .osl 0 190 (rawL (l.take i)).1.length (Ows ((rawL (l.take i)).1.flatMap Rng.d))), (4, .bool (rawL (l.take i)).2), (7, .int .i64 i)]) (fun _ => True) l.length trivial (by simp [rawL]) ?_ ?_
  · intro i hi _ q hn hx hr
    obtain ⟨x, hx0⟩ := get_some hi
    have hrow := row_drop Stmt.d 19 Stmt.d_len hx0
    have hw := wrap_succ (i := i) (by omega)
    have hm := List.mem_of_getElem? hx0
    have hxt := mem_sum Stmt.tot hm
    have hxe := x.tot_eq
    have fL := const_impl x.Lo (by omega)
    have fH := const_impl x.Hi (by omega)
    have fB := h x hm
    have hlen1 := htl (i + 1)
    rw [rawL_succ hx0] at hn hlen1
    have hlen := htl i
    rw [rawS_eq] at hn hlen1
    generalize (rawL (l.take i)).1 = A at hn hlen hlen1 ⊢
    generalize (rawL (l.take i)).2 = bb at hn ⊢
    by_cases c : x.K = 3
    · rw [if_pos c] at hn hlen1
      generalize hlo : constE x.Lo = lo at fL hn hlen1
      generalize hhi : constE x.Hi = hi' at fH hn hlen1
      simp only [resL] at fB
      generalize (rawL x.Body).1 = B at fB hn hlen1
      generalize (rawL x.Body).2 = b2 at fB hn
      simp only [List.length_append, List.length_cons] at hlen1
      have hb1 : A.length + 1 ≤ bnd := by unfold bnd; omega
      have hb2 : A.length + 1 + B.length ≤ bnd := by unfold bnd; omega
      simp [resC] at fL fH
      try simp at fB
      simp [hi, Cs_drop, hrow, splice, c]
      refine callG fL ?_
      simp
      refine callG fH ?_
      simp
      refine callG fB ?_
      have hsc := rng_sc B
      cases bb <;> cases hl1 : lo.isSome <;> cases hl2 : hi'.isSome <;> simp [hw, hb1, hb2, splice, hsc] <;> refine hn _ ?_ trivial <;> simp [hl1, hl2, hsc] <;> omega
    · rw [if_neg c] at hn
      simp [hi, Cs_drop, hrow, splice, c, hw]
      refine hn _ ?_ trivial
      simp
  intro _ q hx hr
  rw [List.take_length]
  simp
  refine hx _ _ ?_
  simp [← hR, resL]
theorem rngs_body : ∀ x : Stmt, x.tot ≤ 10000000 → Says prog 254 [.rsl x.Body.length (Cs (x.Body.flatMap Stmt.d))] (resL (rawL x.Body)) [] := Stmt.ind fun x ih hx => by
  have := x.tot_eq
  exact rngs_impl x.Body (by omega) (by omega) fun y hy => ih y hy (by have := mem_sum Stmt.tot hy; omega)
end Go.AmC

/- Part of a proof: see the last text of this folder. -/
set_option linter.unusedSimpArgs false
set_option linter.unusedVariables false
set_option maxRecDepth 20000
set_option maxHeartbeats 4000000
namespace Go.AmC
open Go Go.AM
open Go.Proofs.Tryz (prog)
mutual
def boxS (out : List Rng) : Stmt → List Rng × Bool
  | ⟨K, S, _, _, Lo, Hi, B⟩ => if K = 3 ∧ (constE Lo).isSome = true ∧ (constE Hi).isSome = true then boxL (out ++ [⟨S, (constE Lo).getD 0, (constE Hi).getD 0⟩]) B else (out, false)
def boxL (out : List Rng) : List Stmt → List Rng × Bool
  | [] => (out, true)
  | s :: l => if s.K = 3 then (if (boxS out s).2 = true then boxL (boxS out s).1 l else (out, false)) else boxL out l
end
theorem boxS_eq (out : List Rng) (x : Stmt) : boxS out x = if x.K = 3 ∧ (constE x.Lo).isSome = true ∧ (constE x.Hi).isSome = true then boxL (out ++ [⟨x.S, (constE x.Lo).getD 0, (constE x.Hi).getD 0⟩]) x.Body else (out, false) := by
  cases x; rw [boxS]
def BoxRel (out : List Rng) (r p : List Rng × Bool) : Prop := r.2 = p.2 ∧ (p.2 = true → r.1 = out ++ p.1)
theorem boxL_raw {l : List Stmt} (h : ∀ x ∈ l, ∀ out, BoxRel out (boxS out x) ((rawS x).1, decide (x.K = 3) && (rawS x).2)) : ∀ out, BoxRel out (boxL out l) (rawL l) := by
  induction l with
  | nil => intro out; simp [BoxRel, boxL, rawL]
  | cons s l ih =>
    intro out
    have hs := h s (by simp) out
    have ih := ih fun x hx => h x (by simp [hx])
    have e : rawL (s :: l) = ((rawS s).1 ++ (rawL l).1, (rawS s).2 && (rawL l).2) := by simp [rawL]
    rw [e]
    by_cases c : s.K = 3
    · rw [boxL, if_pos c]
      simp only [BoxRel, c, decide_true, Bool.true_and] at hs ⊢
      cases hb : (rawS s).2
      · rw [hs.1, hb]; simp
      · rw [hs.1, hb, if_pos rfl]
        have := ih (boxS out s).1
        rw [hs.2 hb] at this ⊢
        simp only [BoxRel] at this
        simpa using this
    · rw [boxL, if_neg c]
      have e2 : rawS s = ([], true) := by rw [rawS_eq, if_neg c]
      rw [e2]; simpa using ih out
theorem boxS_raw : ∀ x : Stmt, ∀ out, BoxRel out (boxS out x) ((rawS x).1, decide (x.K = 3) && (rawS x).2) := Stmt.ind fun x ih out => by
  rw [boxS_eq, rawS_eq]
  by_cases c : x.K = 3
  · simp only [c, true_and, if_true, decide_true, Bool.true_and]
    cases h1 : (constE x.Lo).isSome
    · simp [BoxRel]
    cases h2 : (constE x.Hi).isSome
    · simp [BoxRel]
    have := boxL_raw ih (out ++ [⟨x.S, (constE x.Lo).getD 0, (constE x.Hi).getD 0⟩])
    simpa [BoxRel] using this
  · simp [c, BoxRel]
theorem boxS_len : ∀ x : Stmt, ∀ out, (boxS out x).1.length ≤ out.length + 1 + x.tot := Stmt.ind fun x ih out => by
  rw [boxS_eq, x.tot_eq]
  have key : ∀ l : List Stmt, (∀ y ∈ l, ∀ out, (boxS out y).1.length ≤ out.length + 1 + y.tot) → ∀ out, (boxL out l).1.length ≤ out.length + l.length + (l.map Stmt.tot).sum := by
    intro l
    induction l with
    | nil => intro _ out; simp [boxL]
    | cons y l ihl =>
      intro hy out
      have h1 := hy y (by simp) out
      have h2 := ihl (fun z hz => hy z (by simp [hz]))
      rw [boxL]
      simp only [List.length_cons, List.map_cons, List.sum_cons]
      split
      · split
        · have := h2 (boxS out y).1; omega
        · simp only; omega
      · have := h2 out; omega
  split
  · have := key _ ih (out ++ [⟨x.S, (constE x.Lo).getD 0, (constE x.Hi).getD 0⟩])
    simp only [List.length_append, List.length_cons, List.length_nil] at this
    omega
  · simp only; omega
theorem boxL_len (l : List Stmt) (out : List Rng) : (boxL out l).1.length ≤ out.length + l.length + (l.map Stmt.tot).sum := by
  induction l generalizing out with
  | nil => simp [boxL]
  | cons y l ihl =>
    have h1 := boxS_len y out
    rw [boxL]
    simp only [List.length_cons, List.map_cons, List.sum_cons]
    split
    · split
      · have := ihl (boxS out y).1; omega
      · simp only; omega
    · have := ihl out; omega
def resB (r : List Rng × Bool) : AV := .tup [none, none] [if r.2 = true then .osl 0 190 r.1.length (Ows (r.1.flatMap Rng.d)) else .rsl r.1.length [], .bool r.2]
theorem resB_t {l : List Rng} : resB (l, true) = .tup [none, none] [.osl 0 190 l.length (Ows (l.flatMap Rng.d)), .bool true] := rfl
theorem resB_f {l : List Rng} : resB (l, false) = .tup [none, none] [.rsl l.length [], .bool false] := rfl
theorem box_f1 {g : Nat} {args : List AV} {l : List Rng} (h : Says prog g args (.tup [none, none] [.osl 0 190 l.length (Ows (l.flatMap Rng.d)), .bool false]) []) : Says prog g args (resB (l, false)) [] :=
  weak_tup (fun w Φ σ cv f hv => ⟨_, weak_osl hv, fun b => Nat.zero_le _⟩) rfl rfl h
theorem box_f2 {g : Nat} {args : List AV} {l : List Rng} (h : Says prog g args (.tup [none, none] [.rsl l.length (Cs (l.flatMap Rng.d)), .bool false]) []) : Says prog g args (resB (l, false)) [] :=
  weak_tup (fun w Φ σ cv f hv => ⟨f, weak_rsl hv, fun b => Nat.le_refl _⟩) rfl rfl h
theorem box_spec : ∀ (x : Stmt), x.tot ≤ 10000000 → ∀ out : List Rng, out.length + 1 + x.tot ≤ 100000000 → Says prog 230 [.rsl out.length (Cs (out.flatMap Rng.d)), .agg (Cs x.d)] (resB (boxS out x)) [] := Stmt.ind fun x ih hx out ho => by
  have hxe := x.tot_eq
  have fL := const_spec x.Lo (by omega)
  have fH := const_spec x.Hi (by omega)
  rw [boxS_eq]
  generalize hlo : constE x.Lo = lo at fL ⊢
  generalize hhi : constE x.Hi = hi at fH ⊢
  simp [resC] at fL fH
  by_cases c : x.K = 3 ∧ lo.isSome = true ∧ hi.isSome = true
  · obtain ⟨c1, c2, c3⟩ := c
    rw [if_pos ⟨c1, c2, c3⟩]
    rw [c2] at fL
    rw [c3] at fH
    have hbl := boxL_len x.Body (out ++ [⟨x.S, lo.getD 0, hi.getD 0⟩])
    have hcl : (List.flatMap Rng.d out).length = out.length * 3 := len_flat Rng.d 3 Rng.d_len out
    have hb0 : out.length ≤ bnd := by unfold bnd; omega
    have hb1 : out.length + 1 ≤ bnd := by unfold bnd; omega
    have main : ∀ R0, (∀ r, boxL (out ++ [⟨x.S, lo.getD 0, hi.getD 0⟩]) x.Body = r → R0 = .tup [none, none] [.osl 0 190 r.1.length (Ows (r.1.flatMap Rng.d)), .bool r.2]) → Says prog 230 [.rsl out.length (Cs (out.flatMap Rng.d)), .agg (Cs x.d)] R0 [] := by
      intro R0 hR
      refine Fn_G Go.Proofs.Tryz.func230 ok230 ?_
      simp [v230, r230, splice]
      refine callG fL ?_
      simp
      refine callG fH ?_
      simp [c1, hb0, hb1, splice, hcl, -List.length_flatMap]
      refine G_whl (α := Nat × List Rng) (l := l230_0) (b := b230_0) rfl [13, 14] (fun a => [(0, .osl 0 190 a.2.length (Ows (a.2.flatMap Rng.d))), (10, .int .i64 a.1)]) (fun a => x.Body.length - a.1)
        (fun a => a.1 ≤ x.Body.length ∧ boxL a.2 (x.Body.drop a.1) = boxL (out ++ [⟨x.S, lo.getD 0, hi.getD 0⟩]) x.Body ∧ a.2.length + (x.Body.drop a.1).length + ((x.Body.drop a.1).map Stmt.tot).sum ≤ out.length + 1 + x.tot) (0, out ++ [⟨x.S, lo.getD 0, hi.getD 0⟩]) ⟨by simp, by simp, by simp; omega⟩ (by simp [rng_sc]) ?_
      rintro ⟨i, o⟩ ⟨hi, hI, hJ⟩ q hn hx hr
      simp only at hi hI hJ
      have hR := hR _ hI.symm
      by_cases hil : i < x.Body.length
      · obtain ⟨y, hy0⟩ := get_some hil
        have hrow := row_drop Stmt.d 19 Stmt.d_len hy0
        have hw := wrap_succ (i := i) (by omega)
        have hm := List.mem_of_getElem? hy0
        have hyt := mem_sum Stmt.tot hm
        rw [drop_cons hy0, boxL] at hI hR
        rw [drop_cons hy0] at hJ
        simp only [List.length_cons, List.map_cons, List.sum_cons] at hJ
        by_cases d1 : y.K = 3
        · rw [if_pos d1] at hI hR
          have f := ih y hm (by omega) o (by omega)
          have hbl := boxS_len y o
          generalize boxS o y = r at f hI hR hbl
          obtain ⟨r1, r2⟩ := r
          simp [d1] at f
          cases r2
          · simp at hR
            simp [resB] at f
            simp [hil, Cs_drop, hrow, d1]
            refine callG f ?_
            simp
            refine hr _ ?_
            simp [hR]
          · simp only [if_true] at hI hR
            simp [resB] at f
            simp [hil, Cs_drop, hrow, d1]
            refine callG f ?_
            simp [hw]
            simp only at hbl
            exact hn _ (i + 1, r1) (by simp) ⟨by omega, hI, by simp only; omega⟩ (by simp only; omega)
        · rw [if_neg d1] at hI hR
          simp [hil, Cs_drop, hrow, d1, hw]
          exact hn _ (i + 1, o) (by simp) ⟨by omega, hI, by simp only; omega⟩ (by simp only; omega)
      · have hie : i = x.Body.length := by omega
        subst hie
        simp [boxL] at hR
        simp
        refine hx _ _ ?_
        simp [hR]
    generalize hr : boxL (out ++ [⟨x.S, lo.getD 0, hi.getD 0⟩]) x.Body = r at main
    obtain ⟨r1, r2⟩ := r
    have := main _ (fun r' h => by rw [← h])
    cases r2
    · exact box_f1 this
    · exact this
  · rw [if_neg c]
    refine box_f2 ?_
    refine Fn_G Go.Proofs.Tryz.func230 ok230 ?_
    by_cases c1 : x.K = 3
    · cases c2 : lo.isSome
      · rw [c2] at fL
        simp [v230, r230, splice]
        refine callG fL ?_
        simp
        refine callG fH ?_
        simp [c1]
      · cases c3 : hi.isSome
        · rw [c2] at fL
          rw [c3] at fH
          simp [v230, r230, splice]
          refine callG fL ?_
          simp
          refine callG fH ?_
          simp [c1]
        · exact absurd ⟨c1, c2, c3⟩ c
    · simp [v230, r230, splice]
      refine callG fL ?_
      simp
      refine callG fH ?_
      simp [c1]
end Go.AmC

/- Part of a proof: see the last text of this folder. -/
set_option linter.unusedSimpArgs false
set_option linter.unusedVariables false
set_option maxRecDepth 20000
set_option maxHeartbeats 4000000
namespace Go.AmC
open Go Go.AM
open Go.Proofs.Tryz (prog)
def boxOf (x : Stmt) : Option (List Rng) := if x.K = 3 ∧ (rawS x).2 = true ∧ fullB (rawS x).1 = true then some (rawS x).1 else none
theorem raw_name : ∀ x : Stmt, ∀ r ∈ (rawS x).1, r.Name.length ≤ x.tot := Stmt.ind fun x ih r hr => by
  rw [rawS_eq] at hr
  rw [x.tot_eq]
  split at hr
  · rcases List.mem_cons.1 hr with rfl | hr
    · simp only; omega
    · simp only [rawL, List.mem_flatMap, List.mem_map] at hr
      obtain ⟨_, ⟨y, hy, rfl⟩, hr⟩ := hr
      have h1 := ih y hy r hr
      have h2 := mem_sum Stmt.tot hy
      omega
  · simp at hr
theorem boxOf_len {x : Stmt} {l : List Rng} (h : boxOf x = some l) : 1 ≤ l.length ∧ l.length ≤ 8 ∧ fullB l = true := by
  unfold boxOf at h
  split at h
  · rename_i hc; obtain ⟨h1, h2, h3⟩ := hc
    cases h
    refine ⟨?_, ?_, h3⟩
    · rw [rawS_eq, if_pos h1]; simp
    · unfold fullB boxOk at h3
      simp only [Bool.and_eq_true, decide_eq_true_eq] at h3
      exact h3.2.2
  · cases h
def resO (o : Option (List Rng)) : AV := resL (o.getD [], o.isSome)
theorem boxOf_impl (x : Stmt) (hx : x.tot ≤ 5000000) : Says prog 188 [.agg (Cs x.d)] (resO (boxOf x)) [] := by
  have h1 : (rawL [x]) = rawS x := by simp [rawL]
  have f := rngs_impl [x] (by simp) (by simp; omega) (fun y hy => by simp at hy; subst hy; exact rngs_body y (by omega))
  rw [h1] at f
  have hll := rawS_len x
  have fF := full_impl (rawS x).1 (by omega) (fun r hr => by have := raw_name x r hr; omega)
  refine Fn_G Go.Proofs.Tryz.func188 ok188 ?_
  by_cases c : x.K = 3
  · have e : boxOf x = if (rawS x).2 = true ∧ fullB (rawS x).1 = true then some (rawS x).1 else none := by unfold boxOf; simp [c]
    rw [e]
    generalize rawS x = r at f fF ⊢
    obtain ⟨r1, r2⟩ := r
    simp [resL, c] at f
    simp at fF
    simp only
    have hsc := rng_sc r1
    cases r2
    · simp [v188, r188, c, splice]
      refine callG f ?_
      simp [resO, resL]
    · simp [v188, r188, c, splice]
      refine callG f ?_
      simp
      refine callG fF ?_
      cases hz : fullB r1
      · simp [resO, resL]
      · simp [resO, resL]
  · have e : boxOf x = none := by unfold boxOf; simp [c]
    rw [e]
    simp [v188, r188, c, resO, resL]
theorem boxOf_spec (x : Stmt) (hx : x.tot ≤ 5000000) : Says prog 160 [.agg (Cs x.d)] (resO (boxOf x)) [] := by
  have f := box_spec x (by omega) [] (by simp; omega)
  obtain ⟨k1, k2⟩ := boxS_raw x []
  have hll := rawS_len x
  have fF := full_spec (rawS x).1 (by omega) (fun r hr => by have := raw_name x r hr; omega)
  have e : boxOf x = if (decide (x.K = 3) && (rawS x).2) = true ∧ fullB (rawS x).1 = true then some (rawS x).1 else none := by unfold boxOf; simp [and_assoc]
  rw [e]
  simp only at k1 k2
  refine Fn_G Go.Proofs.Tryz.func160 ok160 ?_
  generalize (decide (x.K = 3) && (rawS x).2) = b at k1 k2 ⊢
  generalize boxS [] x = r at f k1 k2
  obtain ⟨r1, r2⟩ := r
  simp only at k1 k2
  subst k1
  cases r2
  · simp [resB] at f
    simp [v160, r160, splice]
    refine callG f ?_
    simp [resO, resL]
  · obtain rfl := k2 rfl
    simp only [List.nil_append] at f
    generalize (rawS x).1 = r1 at f fF ⊢
    simp [resB] at f
    try simp at fF
    simp [v160, r160, splice]
    refine callG f ?_
    simp
    refine callG fF ?_
    cases hz : fullB r1
    · simp [resO, resL]
    · simp [resO, resL]
end Go.AmC

