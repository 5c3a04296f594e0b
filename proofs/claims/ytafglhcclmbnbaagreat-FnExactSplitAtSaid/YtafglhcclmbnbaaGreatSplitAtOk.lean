/- Part of a proof: see the last text of this folder. -/
import Derived.Test.YtafglhcclmbnbaaGreatSplitAtNest
import Derived.Test.YtafglhcclmbnbaaGreatAmWin
import Derived.Test.YtafglhcclmbnbaaGreatSplitAtCnt
import Derived.Test.YtafglhcclmbnbaaGreatSplitAtOrd
/- Part of a proof: see the last text of this folder. -/
set_option linter.unusedSimpArgs false
set_option linter.unusedVariables false
set_option maxRecDepth 20000
set_option maxHeartbeats 4000000
namespace Go.AmC
open Go Go.AM
open Go.Proofs.Tryz (prog)
theorem varsOf_spec (l : List Stmt) (hl : l.length + (l.map Stmt.tot).sum ≤ 5000000) : Says prog 109 [.rsl l.length (Cs (l.flatMap Stmt.d))] (.osl 0 9 (varsOf l).length (Ows ((varsOf l).flatMap dStr))) [] := by
  have f := Says_took (l4names_spec 1 l hl)
  refine Fn_G Go.Proofs.Tryz.func109 ok109 ?_
  unfold varsOf
  generalize nrm (colS (ofK 1) l) = R at f ⊢
  simp at f
  simp [v109, r109]
  refine callM [.gone] plNm f ?_
  simp
theorem loopVars_spec (l : List Stmt) (hl : l.length + (l.map Stmt.tot).sum ≤ 5000000) : Says prog 110 [.rsl l.length (Cs (l.flatMap Stmt.d))] (.osl 0 9 (loopVars l).length (Ows ((loopVars l).flatMap dStr))) [] := by
  have f := Says_took (l4names_spec 3 l hl)
  refine Fn_G Go.Proofs.Tryz.func110 ok110 ?_
  unfold loopVars
  generalize nrm (colS (ofK 3) l) = R at f ⊢
  simp at f
  simp [v110, r110]
  refine callM [.gone] plNm f ?_
  simp
theorem putAsk (l : List Stmt) : nrm (colS (preP 2) l) = askedL l := nrm_ext (colS_mem (mem_preP 2) l)
def putsL (l : List Stmt) : List Nm := nrm (colS (ofK 2) l)
def getsL (l : List Stmt) : List Nm := nrm (colS (askK 3) l)
theorem asked_spec (l : List Stmt) (hl : l.length + (l.map Stmt.tot).sum ≤ 5000000) : Says prog 115 [.rsl l.length (Cs (l.flatMap Stmt.d))] (.osl 0 9 (askedL l).length (Ows ((askedL l).flatMap dStr))) [] := by
  have f := Says_took (exps_spec 2 l hl)
  refine Fn_G Go.Proofs.Tryz.func115 ok115 ?_
  rw [putAsk] at f
  generalize askedL l = R at f ⊢
  simp at f
  simp [v115, r115]
  refine callM [.gone] plExps f ?_
  simp
end Go.AmC

/- Part of a proof: see the last text of this folder. -/
set_option linter.unusedSimpArgs false
set_option linter.unusedVariables false
set_option maxRecDepth 20000
set_option maxHeartbeats 4000000
namespace Go.AmC
open Go Go.AM
open Go.Proofs.Tryz (prog)
theorem grow_names (n : Nat) (hn : n ≤ 1000000000) : Says prog 265 [.nsl true, .int .i64 n] (.osl 0 9 0 []) [] :=
  grow_says Go.Proofs.Tryz.growN (z := .string ⟨#[]⟩) (size := 1) (bytes := 16) (by kernel_rfl) (by decide) (by decide) (by kernel_rfl) n (by omega) (by omega)
theorem concat3 (a b c : List Nm) (h : a.length + (b.length + c.length) ≤ 900000000) :
    Says prog 197 [.rsl 3 [.rsl a.length (Cs (a.flatMap dStr)), .rsl b.length (Cs (b.flatMap dStr)), .rsl c.length (Cs (c.flatMap dStr))]]
      (.osl 0 9 (a.length + (b.length + c.length)) (Ows ((a ++ (b ++ c)).flatMap dStr))) [] := by
  have f := grow_names (a.length + (b.length + c.length)) (by omega)
  have w1 : IntKind.i64.wrap ((a.length : Int)) = (a.length : Int) := by rw [wrap_small] <;> omega
  have w2 : IntKind.i64.wrap ((a.length : Int) + b.length) = ((a.length + b.length : Nat) : Int) := by rw [wrap_small] <;> omega
  have w3 : IntKind.i64.wrap ((a.length : Int) + b.length + c.length) = ((a.length + (b.length + c.length) : Nat) : Int) := by rw [wrap_small] <;> omega
  have la := names_len a
  have lb := names_len b
  have lc := names_len c
  have sa := names_same a
  have sb := names_same b
  have sc := names_same c
  have hb1 : a.length ≤ bnd := by unfold bnd; omega
  have hb2 : a.length + b.length ≤ bnd := by unfold bnd; omega
  have hb3 : a.length + b.length + c.length ≤ bnd := by unfold bnd; omega
  rw [List.flatMap_append, List.flatMap_append]
  generalize List.flatMap dStr a = A at la sa ⊢
  generalize List.flatMap dStr b = B at lb sb ⊢
  generalize List.flatMap dStr c = C at lc sc ⊢
  generalize a.length = x at *
  generalize b.length = y at *
  generalize c.length = z at *
  simp at f
  have p0 : 0 ≤ (x : Int) + y := by omega
  have p1 : 0 ≤ (x : Int) + (y + z) := by omega
  refine Fn_G Go.Proofs.Tryz.func197 ok197 ?_
  simp [v197, r197]
  refine G_for (l := l197_1) (b := b197_1) rfl [6, 7, 8] (fun i => [(2, .int .i64 (if i = 0 then 0 else if i = 1 then (x : Int) else if i = 2 then ((x + y : Nat) : Int) else ((x + (y + z) : Nat) : Int))), (5, .int .i64 i)]) (fun i => True) 3 trivial (by simp) ?_ ?_
  · intro i hi hI q hn hx hr
    have hw := wrap_succ (i := i) (by omega)
    have hq : i = 0 ∨ i = 1 ∨ i = 2 := by omega
    rcases hq with rfl | rfl | rfl
    all_goals
      simp at hw
      simp [w1, w2, w3, hw, p0, p1]
      refine hn _ ?_ trivial
      simp
  · intro hI q hx hr
    simp
    refine hx _ _ ?_
    simp
    refine callG f ?_
    simp
    refine G_for (l := l197_0) (b := b197_0) rfl [13, 14] (fun i => [(9, if i = 0 then .osl 0 9 0 [] else if i = 1 then .osl 0 9 x (Ows A) else if i = 2 then .osl 0 9 (x + y) (Ows (A ++ B)) else .osl 0 9 (x + (y + z)) (Ows (A ++ (B ++ C)))), (12, .int .i64 i)]) (fun i => True) 3 trivial (by simp) ?_ ?_
    · intro i hi hI q hn hx hr
      have hw := wrap_succ (i := i) (by omega)
      have hq : i = 0 ∨ i = 1 ∨ i = 2 := by omega
      rcases hq with rfl | rfl | rfl
      all_goals
        simp at hw
        simp [hw, lenX, la, lb, lc, hb1, hb2, hb3]
        refine hn _ ?_ trivial
        simp [sa, sb, sc, Nat.add_assoc]
    · intro hI q hx hr
      simp
      refine hx _ _ ?_
      simp
end Go.AmC

/- Part of a proof: see the last text of this folder. -/
set_option linter.unusedSimpArgs false
set_option linter.unusedVariables false
set_option maxRecDepth 20000
set_option maxHeartbeats 8000000
namespace Go.AmC
open Go Go.AM
open Go.Proofs.Tryz (prog)
def headB (p : Prog) : Bool := okArr none p.Arrs && (p.Body.all stOk && (decide (p.Arrs.length ≤ 4) && (decide (p.Body.length ≤ 12) && decide ((p.Body.map szS).sum ≤ 40))))
theorem head_spec (p : Prog) (hp : p.tot ≤ 5000000) : Says prog 108 [.agg (Cs p.d)] (.bool (headB p)) [] := by
  have ht := p.tot_eq
  have fS := size_spec p.Body (by omega)
  refine Fn_G Go.Proofs.Tryz.func108 ok108 ?_
  generalize hR : headB p = R0
  unfold headB at hR
  generalize hR2 : okArr none p.Arrs = R2 at hR
  simp [v108, r108]
  refine G_for (l := l108_1) (b := b108_1) rfl [4, 5] (fun i => [(3, .int .i64 i)]) (fun i => okArr (prevA p.Arrs i) (p.Arrs.drop i) = R2) p.Arrs.length (by simpa [prevA] using hR2) (by simp) ?_ ?_
  · intro i hi hI q hn hx hr
    obtain ⟨y, hy0⟩ := get_some hi
    have hrow := row_drop Arr.d 2 Arr.d_len hy0
    have hw := wrap_succ (i := i) (by omega)
    have hI2 := okA_step hy0 hI
    have fN := nm_spec y.Name (by have := mem_sum Arr.tot (List.mem_of_getElem? hy0); rw [Arr.tot_eq] at this; omega)
    have fK := in_spec y.Size 1 16
    have bad : R2 = false → R0 = false := fun h => by rw [← hR, h]; rfl
    cases c1 : nameOk y.Name
    · rw [c1] at fN hI2
      simp [hi, Cs_drop, hrow, splice]
      refine callD fN ?_
      simp
      refine hr _ ?_
      simp at hI2
      simp [bad hI2]
    rw [c1] at fN hI2
    cases c3 : (decide (1 ≤ y.Size) && decide (y.Size ≤ 16))
    · rw [c3] at fK hI2
      simp at hI2
      simp [hi, Cs_drop, hrow, splice]
      refine callD fN ?_
      simp [hi, Cs_drop, hrow]
      refine callD fK ?_
      simp
      refine hr _ ?_
      simp [bad hI2]
    rw [c3] at fK hI2
    simp only [Bool.true_and] at hI2
    simp [hi, Cs_drop, hrow, splice]
    refine callD fN ?_
    simp [hi, Cs_drop, hrow]
    refine callD fK ?_
    cases i with
    | zero =>
      have hw1 : IntKind.i64.wrap 1 = 1 := by decide
      simp [hw1]
      exact hn _ (by simp) (by simpa [prevA, ltO] using hI2)
    | succ j =>
      obtain ⟨z, hz0⟩ := get_some (xs := p.Arrs) (i := j) (by omega)
      have hrow2 := row_drop Arr.d 2 Arr.d_len hz0
      have hwj : IntKind.i64.wrap ((j : Int) + 1 - 1) = (j : Int) := by rw [wrap_small] <;> omega
      have hwj2 : IntKind.i64.wrap (j : Int) = (j : Int) := by rw [wrap_small] <;> omega
      have hj : (0 : Int) < (j : Int) + 1 := by omega
      have hj2 : j < p.Arrs.length := by omega
      have hj3 : (0 : Int) ≤ (j : Int) + 1 := by omega
      have hj4 : (j : Int) + 1 < (p.Arrs.length : Int) := by omega
      have hw3 : IntKind.i64.wrap ((j : Int) + 1 + 1) = (j : Int) + 1 + 1 := by rw [wrap_small] <;> omega
      rw [prevA_succ hz0] at hI2
      by_cases c4 : z.Name < y.Name
      · simp [hi, hj, hj2, hj3, hj4, hwj, hwj2, Cs_drop, hrow, hrow2, bl_geq, bl_leq, c4, hw3]
        exact hn _ (by simp) (by simpa [c4, ltO] using hI2)
      · simp [hi, hj, hj2, hj3, hj4, hwj, hwj2, Cs_drop, hrow, hrow2, bl_geq, bl_leq, c4, hw3]
        refine hr _ ?_
        simp [c4, ltO] at hI2
        simp [bad hI2]
  · intro hI q hx hr
    simp [okArr] at hI
    subst hI
    simp
    refine hx _ _ ?_
    simp
    refine G_for (l := l108_0) (b := b108_0) rfl [7, 8] (fun i => [(6, .int .i64 i)]) (fun i => (p.Body.take i).all stOk = true) p.Body.length (by simp) (by simp) ?_ ?_
    · intro i hi hI q hn hx hr
      obtain ⟨y, hy0⟩ := get_some hi
      have hrow := row_drop Stmt.d 19 Stmt.d_len hy0
      have hw := wrap_succ (i := i) (by omega)
      have hym := List.mem_of_getElem? hy0
      have fy := stOk_spec y (by have := mem_sum Stmt.tot hym; omega)
      simp at fy
      cases hb : stOk y
      · rw [hb] at fy
        simp [hi, Cs_drop, hrow]
        refine callG fy ?_
        simp
        refine hr _ ?_
        simp [← hR, all_not hy0 hb]
      · rw [hb] at fy
        simp [hi, Cs_drop, hrow]
        refine callG fy ?_
        simp [hw]
        exact hn _ (by simp) (all_take hI hy0 hb)
    · intro hI q hx hr
      rw [List.take_length] at hI
      simp
      refine hx _ _ ?_
      simp only [hI, Bool.true_and] at hR
      generalize (p.Body.map szS).sum = z at fS hR
      have e : decide ((z : Int) ≤ 40) = decide (z ≤ 40) := decide_eq_decide.2 (by omega)
      by_cases c1 : p.Arrs.length ≤ 4
      · have c1' : (p.Arrs.length : Int) ≤ 4 := by omega
        by_cases c2 : p.Body.length ≤ 12
        · have c2' : (p.Body.length : Int) ≤ 12 := by omega
          simp [c1, c2] at hR
          simp [c1, c2, c1', c2']
          refine callG fS ?_
          simp [e, ← hR]
        · have c2' : ¬ (p.Body.length : Int) ≤ 12 := by omega
          simp [c1, c2] at hR
          subst hR
          simp [c1, c2, c1', c2']
      · have c1' : ¬ (p.Arrs.length : Int) ≤ 4 := by omega
        simp [c1] at hR
        subst hR
        simp [c1, c1']
end Go.AmC

/- Part of a proof: see the last text of this folder. -/
set_option linter.unusedSimpArgs false
set_option linter.unusedVariables false
set_option maxRecDepth 20000
set_option maxHeartbeats 8000000
namespace Go.AmC
open Go Go.AM
open Go.Proofs.Tryz (prog)
def inArrs (p : Prog) (l : List Nm) : Bool := l.all fun n => decide (n ∈ arrNames p.Arrs)
def apartB (a b : List Nm) : Bool := a.all fun n => !decide (n ∈ b)
def okP (p : Prog) : Bool := headB p && (inArrs p (putsL p.Body) && (inArrs p (getsL p.Body) && (apartB (arrNames p.Arrs) (varsOf p.Body) && (apartB (arrNames p.Arrs) (loopVars p.Body) && (apartB (arrNames p.Arrs) (askedL p.Body) && (apartB (varsOf p.Body) (loopVars p.Body) && (nestL [] p.Body && decide ((varsOf p.Body).length ≤ 6))))))))
theorem ofK_lenL (k : Int) (l : List Stmt) : (nrm (colS (ofK k) l)).length ≤ l.length + (l.map Stmt.tot).sum := by
  have h1 := nrm_len (colS (ofK k) l)
  have h2 := colS_len (f := ofK k) (w := fun _ => 1) (fun x => by unfold ofK; split <;> simp) (wt := fun x => 1 + x.tot) wt1 l
  rw [wt1_sum] at h2
  omega
theorem askK_lenL (k : Int) (l : List Stmt) : (nrm (colS (askK k) l)).length ≤ 4 * l.length + 5 * (l.map Stmt.tot).sum := by
  have h1 := nrm_len (colS (askK k) l)
  have h2 := colS_len (f := askK k) (w := askW) (fun x => by simpa [stepC] using askK_le k [] x) (wt := fun x => 4 + 5 * x.tot) askW_sum l
  rw [ask_sum] at h2
  omega
theorem arrs_row (l : List Arr) (i : Nat) (y : Arr) (h : l[i]? = some y) : arrNames (l.take (i + 1)) = arrNames (l.take i) ++ [y.Name] := by
  rw [List.take_add_one, h]; simp [arrNames]
theorem ok_spec (p : Prog) (hp : p.tot ≤ 5000000) : Says prog 51 [.agg (Cs p.d)] (.bool (okP p)) [] := by
  have ht := p.tot_eq
  have hB : p.Body.length + (p.Body.map Stmt.tot).sum ≤ 5000000 := by omega
  have fH := head_spec p hp
  have fV := varsOf_spec p.Body hB
  have fL := loopVars_spec p.Body hB
  have fP := Says_took (l4names_spec 2 p.Body hB)
  have fG := exps0_spec 3 p.Body hB
  rw [show nrm (colS (preP 3) p.Body) = getsL p.Body from nrm_ext (colS_mem (mem_preP 3) p.Body)] at fG
  change Says prog _ _ (.osl 0 _ (putsL p.Body).length (Ows ((putsL p.Body).flatMap dStr))) _ at fP
  have fA := asked_spec p.Body hB
  have fN := nest_spec p.Body hB
  have lV := ofK_lenL 1 p.Body
  have lL := ofK_lenL 3 p.Body
  have lP := ofK_lenL 2 p.Body
  have lG := askK_lenL 3 p.Body
  have lA := askK_lenL 2 p.Body
  change (varsOf p.Body).length ≤ _ at lV
  change (loopVars p.Body).length ≤ _ at lL
  change (putsL p.Body).length ≤ _ at lP
  change (getsL p.Body).length ≤ _ at lG
  change (askedL p.Body).length ≤ _ at lA
  have gP := arrs_spec p (putsL p.Body) (by omega) (by omega)
  have gG := arrs_spec p (getsL p.Body) (by omega) (by omega)
  have lN : (arrNames p.Arrs).length = p.Arrs.length := by simp [arrNames]
  have g1 := apart_spec (arrNames p.Arrs) (varsOf p.Body) (by omega) (by omega)
  have g2 := apart_spec (arrNames p.Arrs) (loopVars p.Body) (by omega) (by omega)
  have g3 := apart_spec (arrNames p.Arrs) (askedL p.Body) (by omega) (by omega)
  have g4 := apart_spec (varsOf p.Body) (loopVars p.Body) (by omega) (by omega)
  refine Fn_G Go.Proofs.Tryz.func51 ok51 ?_
  generalize hR : okP p = R0
  unfold okP at hR
  change Says prog _ _ (.bool (inArrs p (putsL p.Body))) _ at gP
  change Says prog _ _ (.bool (inArrs p (getsL p.Body))) _ at gG
  change Says prog _ _ (.bool (apartB _ _)) _ at g1 g2 g3 g4
  generalize headB p = bH at hR fH
  generalize inArrs p (putsL p.Body) = b1 at hR gP
  generalize inArrs p (getsL p.Body) = b2 at hR gG
  generalize apartB (arrNames p.Arrs) (varsOf p.Body) = b3 at hR g1
  generalize apartB (arrNames p.Arrs) (loopVars p.Body) = b4 at hR g2
  generalize apartB (arrNames p.Arrs) (askedL p.Body) = b5 at hR g3
  generalize apartB (varsOf p.Body) (loopVars p.Body) = b6 at hR g4
  generalize nestL [] p.Body = b7 at hR fN
  generalize putsL p.Body = xP at *
  generalize getsL p.Body = xG at *
  generalize askedL p.Body = xA at *
  generalize loopVars p.Body = xL at *
  generalize varsOf p.Body = xV at *
  have hb : p.Arrs.length + 1 ≤ bnd := by unfold bnd; omega
  rw [lN] at g1 g2 g3
  simp at fH fV fL fP fG fA fN gP gG g1 g2 g3 g4
  simp [v51, r51, splice]
  refine callG fH ?_
  cases bH
  · simp at hR
    subst hR
    simp
  simp
  refine G_for (l := l51_0) (b := b51_0) rfl [6] (fun i => [(4, .osl 0 9 i (Ows ((arrNames (p.Arrs.take i)).flatMap dStr))), (5, .int .i64 i)]) (fun i => True) p.Arrs.length trivial (by simp [arrNames]) ?_ ?_
  · intro i hi hI q hn hx hr
    obtain ⟨y, hy0⟩ := get_some hi
    have hrow := row_drop Arr.d 2 Arr.d_len hy0
    have hw := wrap_succ (i := i) (by omega)
    have e1 := arrs_row p.Arrs i y hy0
    have hb2 : i + 1 ≤ bnd := by omega
    simp [hi, Cs_drop, hrow, splice, hb2, hw]
    refine hn _ ?_ trivial
    simp [e1, List.flatMap_append]
  · intro hI q hx hr
    rw [List.take_length]
    simp
    refine hx _ _ ?_
    simp
    refine callG fV ?_
    simp
    refine callG fL ?_
    simp
    refine callM [.gone] plNm fP ?_
    simp [splice]
    generalize List.flatMap dStr (arrNames p.Arrs) = AN at *
    refine callD gP ?_
    cases b1
    · simp at hR
      subst hR
      simp
    simp [splice]
    by_cases hx0 : xG = []
    · subst hx0
      rw [sN_nil] at fG
      simp at gG
      refine callD fG ?_
      simp [splice]
      refine callD gG ?_
      cases b2
      · simp at hR
        subst hR
        simp
      simp [splice]
      refine callD g1 ?_
      cases b3
      · simp at hR
        subst hR
        simp
      simp [splice]
      refine callD g2 ?_
      cases b4
      · simp at hR
        subst hR
        simp
      simp [splice]
      refine callD fA ?_
      simp [splice]
      refine callD g3 ?_
      cases b5
      · simp at hR
        subst hR
        simp
      simp [splice]
      refine callD g4 ?_
      cases b6
      · simp at hR
        subst hR
        simp
      simp [splice]
      refine callD fN ?_
      cases b7
      · simp at hR
        subst hR
        simp
      simp at hR
      by_cases c6 : xV.length ≤ 6
      · simp [c6] at hR
        subst hR
        simp [c6]
        omega
      · simp [c6] at hR
        subst hR
        simp [c6]
        omega
    · rw [sN_ne hx0] at fG
      refine callD fG ?_
      simp [splice]
      refine callD gG ?_
      cases b2
      · simp at hR
        subst hR
        simp
      simp [splice]
      refine callD g1 ?_
      cases b3
      · simp at hR
        subst hR
        simp
      simp [splice]
      refine callD g2 ?_
      cases b4
      · simp at hR
        subst hR
        simp
      simp [splice]
      refine callD fA ?_
      simp [splice]
      refine callD g3 ?_
      cases b5
      · simp at hR
        subst hR
        simp
      simp [splice]
      refine callD g4 ?_
      cases b6
      · simp at hR
        subst hR
        simp
      simp [splice]
      refine callD fN ?_
      cases b7
      · simp at hR
        subst hR
        simp
      simp at hR
      by_cases c6 : xV.length ≤ 6
      · simp [c6] at hR
        subst hR
        simp [c6]
        omega
      · simp [c6] at hR
        subst hR
        simp [c6]
        omega
end Go.AmC

/- Part of a proof: see the last text of this folder. -/
set_option linter.unusedSimpArgs false
set_option linter.unusedVariables false
set_option maxRecDepth 20000
set_option maxHeartbeats 8000000
namespace Go.AmC
open Go Go.AM
open Go.Proofs.Tryz (prog)
def anyArrs (p : Prog) (l : List Nm) : Bool := l.any fun n => decide (n ∈ arrNames p.Arrs)
def namesB (p : Prog) : Bool := apartB (loopVars p.Body) (varsOf p.Body) && (inArrs p (getsL p.Body) && (inArrs p (putsL p.Body) && (!anyArrs p (varsOf p.Body ++ (loopVars p.Body ++ askedL p.Body)) && (decide ((varsOf p.Body).length ≤ 6) && nestL [] p.Body))))
theorem all_takeN {f : Nm → Bool} {l : List Nm} {i : Nat} {y : Nm} (hI : (l.take i).all f = true) (hy : l[i]? = some y) (hf : f y = true) : (l.take (i + 1)).all f = true := by
  rw [List.take_add_one, hy]; simp [hf]; simpa using hI
theorem all_notN {f : Nm → Bool} {l : List Nm} {i : Nat} {y : Nm} (hy : l[i]? = some y) (hf : f y = false) : l.all f = false := by
  rw [List.all_eq_false]; exact ⟨y, List.mem_of_getElem? hy, by simp [hf]⟩
theorem namesOk_impl (p : Prog) (hp : p.tot ≤ 5000000) : Says prog 126 [.agg (Cs p.d)] (.bool (namesB p)) [] := by
  have ht := p.tot_eq
  have hB : p.Body.length + (p.Body.map Stmt.tot).sum ≤ 5000000 := by omega
  have fV := varsOf_impl p.Body hB
  have fL := loopVars_impl p.Body hB
  have fG := namesAsked_impl p.Body hB 3
  have fP := namesOf_impl p.Body hB 2
  change Says prog _ _ (.rsl (getsL p.Body).length (Cs ((getsL p.Body).flatMap dStr))) _ at fG
  change Says prog _ _ (.rsl (putsL p.Body).length (Cs ((putsL p.Body).flatMap dStr))) _ at fP
  have fA := asked_impl p.Body hB
  have fN := nest_impl p.Body hB
  have lV := ofK_lenL 1 p.Body
  have lL := ofK_lenL 3 p.Body
  have lP := ofK_lenL 2 p.Body
  have lG := askK_lenL 3 p.Body
  have lA := askK_lenL 2 p.Body
  change (varsOf p.Body).length ≤ _ at lV
  change (loopVars p.Body).length ≤ _ at lL
  change (putsL p.Body).length ≤ _ at lP
  change (getsL p.Body).length ≤ _ at lG
  change (askedL p.Body).length ≤ _ at lA
  have gP := areArrs_impl p (putsL p.Body) (by omega) (by omega)
  have gG := areArrs_impl p (getsL p.Body) (by omega) (by omega)
  have gO := areArrs_impl p (varsOf p.Body ++ (loopVars p.Body ++ askedL p.Body)) (by omega) (by simp only [List.length_append]; omega)
  have fC := concat3 (varsOf p.Body) (loopVars p.Body) (askedL p.Body) (by omega)
  refine Fn_G Go.Proofs.Tryz.func126 ok126 ?_
  generalize hR : namesB p = R0
  unfold namesB at hR
  change Says prog _ _ (.tup _ [.bool (inArrs p (putsL p.Body)), .bool (anyArrs p (putsL p.Body))]) _ at gP
  change Says prog _ _ (.tup _ [.bool (inArrs p (getsL p.Body)), .bool (anyArrs p (getsL p.Body))]) _ at gG
  change Says prog _ _ (.tup _ [.bool (inArrs p _), .bool (anyArrs p (varsOf p.Body ++ (loopVars p.Body ++ askedL p.Body)))]) _ at gO
  generalize inArrs p (putsL p.Body) = b1 at hR gP
  generalize inArrs p (getsL p.Body) = b2 at hR gG
  generalize anyArrs p (putsL p.Body) = c1 at hR gP
  generalize anyArrs p (getsL p.Body) = c2 at hR gG
  generalize inArrs p (varsOf p.Body ++ (loopVars p.Body ++ askedL p.Body)) = c3 at hR gO
  generalize anyArrs p (varsOf p.Body ++ (loopVars p.Body ++ askedL p.Body)) = b3 at hR gO
  generalize hb6 : apartB (loopVars p.Body) (varsOf p.Body) = b6 at hR
  generalize nestL [] p.Body = b7 at hR fN
  rw [List.length_append, List.length_append, List.flatMap_append, List.flatMap_append] at gO
  rw [List.flatMap_append, List.flatMap_append] at fC
  generalize putsL p.Body = xP at *
  generalize getsL p.Body = xG at *
  generalize askedL p.Body = xA at *
  generalize loopVars p.Body = xL at *
  generalize varsOf p.Body = xV at *
  simp at fV fL fP fG fA fN gP gG gO fC
  simp [v126, r126, splice]
  refine callD fV ?_
  simp [splice]
  refine callD fL ?_
  simp
  refine G_for (l := l126_0) (b := b126_0) rfl [8, 9, 10] (fun i => [(7, .int .i64 i)]) (fun i => (xL.take i).all (fun n => !decide (n ∈ xV)) = true) xL.length (by simp) (by simp) ?_ ?_
  · intro i hi hI q hn hx hr
    obtain ⟨y, hy0⟩ := get_some hi
    have hrow := row_drop dStr 1 (fun _ => by simp) hy0
    rw [Nat.mul_one] at hrow
    have hw := wrap_succ (i := i) (by omega)
    have f := has_impl xV y (by omega)
    cases c : decide (y ∈ xV)
    · rw [c] at f
      simp [hi, Cs_drop, hrow]
      refine callG f ?_
      simp [hw]
      exact hn _ (by simp) (all_takeN hI hy0 (by rw [c]; rfl))
    · rw [c] at f
      have h2 : b6 = false := by rw [← hb6]; exact all_notN hy0 (by rw [c]; rfl)
      rw [h2] at hR
      simp at hR
      subst hR
      simp [hi, Cs_drop, hrow]
      refine callG f ?_
      simp
      refine hr _ ?_
      simp
  · intro hI q hx hr
    rw [List.take_length] at hI
    have h2 : b6 = true := by rw [← hb6]; exact hI
    subst h2
    simp
    refine hx _ _ ?_
    simp [splice]
    refine callD fG ?_
    simp [splice]
    refine callD gG ?_
    simp [splice]
    refine callD fP ?_
    simp [splice]
    refine callD gP ?_
    simp [splice]
    refine callD fA ?_
    simp [splice]
    refine callD fC ?_
    simp [splice]
    refine callD gO ?_
    cases b2
    · simp at hR
      subst hR
      simp
    cases b1
    · simp at hR
      subst hR
      simp
    cases b3
    · by_cases c6 : xV.length ≤ 6
      · have c6' : (xV.length : Int) ≤ 6 := by omega
        simp [c6] at hR
        subst hR
        simp [c6', splice]
        refine callG fN ?_
        simp
      · have c6' : ¬ (xV.length : Int) ≤ 6 := by omega
        simp [c6] at hR
        subst hR
        simp [c6']
    · simp at hR
      subst hR
      simp
def okI (p : Prog) : Bool := arrsB p.Arrs && (decide (p.Body.length ≤ 12) && (decide ((p.Body.map szS).sum ≤ 40) && (p.Body.all stOk && namesB p)))
theorem ok_impl (p : Prog) (hp : p.tot ≤ 5000000) : Says prog 58 [.agg (Cs p.d)] (.bool (okI p)) [] := by
  have ht := p.tot_eq
  have fA := arrs_impl p.Arrs (by omega)
  have fS := size_impl p.Body (by omega)
  have fN := namesOk_impl p hp
  refine Fn_G Go.Proofs.Tryz.func58 ok58 ?_
  generalize hR : okI p = R0
  unfold okI at hR
  generalize arrsB p.Arrs = b1 at hR fA
  generalize hz : (p.Body.map szS).sum = z at hR fS
  generalize hb4 : p.Body.all stOk = b4 at hR
  generalize namesB p = b5 at hR fN
  simp at fA fS fN
  simp [v58, r58, splice]
  refine callG fA ?_
  cases b1
  · simp at hR
    subst hR
    simp
  by_cases c1 : p.Body.length ≤ 12
  · have c1' : ¬ 12 < (p.Body.length : Int) := by omega
    have c1b : (p.Body.length : Int) ≤ 12 := by omega
    simp [c1'] at hR ⊢
    refine callG fS ?_
    by_cases c2 : z ≤ 40
    · have c2' : ¬ 40 < (z : Int) := by omega
      simp [c1, c2] at hR
      simp [c2', splice]
      refine G_for (l := l58_0) (b := b58_0) rfl [7, 8, 9] (fun i => [(6, .int .i64 i)]) (fun i => (p.Body.take i).all stOk = true) p.Body.length (by simp) (by simp) ?_ ?_
      · intro i hi hI q hn hx hr
        obtain ⟨y, hy0⟩ := get_some hi
        have hrow := row_drop Stmt.d 19 Stmt.d_len hy0
        have hw := wrap_succ (i := i) (by omega)
        have f := stOk_impl y (by have := mem_sum Stmt.tot (List.mem_of_getElem? hy0); omega)
        simp at f
        cases c : stOk y
        · rw [c] at f
          have h2 : b4 = false := by rw [← hb4]; exact all_not hy0 c
          rw [h2] at hR
          simp at hR
          subst hR
          simp [hi, Cs_drop, hrow, splice]
          refine callG f ?_
          simp
          refine hr _ ?_
          simp
        · rw [c] at f
          simp [hi, Cs_drop, hrow, splice]
          refine callG f ?_
          simp [hw]
          exact hn _ (by simp) (all_take hI hy0 c)
      · intro hI q hx hr
        rw [List.take_length] at hI
        have h2 : b4 = true := by rw [← hb4]; exact hI
        rw [h2] at hR
        simp at hR
        subst hR
        simp
        refine hx _ _ ?_
        simp [splice]
        refine callG fN ?_
        simp
    · have c2' : 40 < (z : Int) := by omega
      simp [c2] at hR
      subst hR
      simp [c2']
  · have c1' : 12 < (p.Body.length : Int) := by omega
    simp [c1] at hR
    subst hR
    simp [c1']
end Go.AmC

/- Part of a proof: see the last text of this folder. -/
set_option linter.unusedSimpArgs false
set_option linter.unusedVariables false
set_option maxRecDepth 20000
set_option maxHeartbeats 4000000
namespace Go.AmC
open Go Go.AM
open Go.Proofs.Tryz (prog)
theorem apart_comm (a b : List Nm) : apartB a b = apartB b a := by
  rw [Bool.eq_iff_iff]
  simp only [apartB, List.all_eq_true, Bool.not_eq_true', decide_eq_false_iff_not]
  exact ⟨fun h n h1 h2 => h n h2 h1, fun h n h1 h2 => h n h2 h1⟩
theorem apart_app (a b c : List Nm) : apartB a (b ++ c) = (apartB a b && apartB a c) := by
  rw [Bool.eq_iff_iff]
  simp only [apartB, List.all_eq_true, Bool.not_eq_true', decide_eq_false_iff_not, Bool.and_eq_true, List.mem_append, not_or]
  exact ⟨fun h => ⟨fun n h1 => (h n h1).1, fun n h1 => (h n h1).2⟩, fun h n h1 => ⟨h.1 n h1, h.2 n h1⟩⟩
theorem any_apart (p : Prog) (l : List Nm) : (!anyArrs p l) = apartB (arrNames p.Arrs) l := by
  rw [apart_comm, Bool.eq_iff_iff]
  simp only [anyArrs, apartB, Bool.not_eq_true', List.any_eq_false, List.all_eq_true, decide_eq_true_eq, decide_eq_false_iff_not]
theorem ok_eq (p : Prog) : okI p = okP p := by
  unfold okI okP namesB headB arrsB
  rw [any_apart, apart_app, apart_app, apart_comm (loopVars p.Body)]
  generalize okArr none p.Arrs = a1
  generalize decide (p.Arrs.length ≤ 4) = a2
  generalize decide (p.Body.length ≤ 12) = a3
  generalize decide ((p.Body.map szS).sum ≤ 40) = a4
  generalize p.Body.all stOk = a5
  generalize inArrs p _ = a6
  generalize inArrs p _ = a7
  generalize apartB _ _ = a8
  generalize apartB _ _ = a9
  generalize apartB _ _ = a10
  generalize apartB _ _ = a11
  generalize nestL _ _ = a12
  generalize decide ((varsOf p.Body).length ≤ 6) = a13
  ac_rfl
theorem ok_implP (p : Prog) (hp : p.tot ≤ 5000000) : Says prog 58 [.agg (Cs p.d)] (.bool (okP p)) [] := by
  rw [← ok_eq]; exact ok_impl p hp
end Go.AmC

