/- Part of a proof: see the last text of this folder. -/
import Derived.Test.YtafglhcclmbnbaaGreatSplitAtExpsS
import Derived.Test.YtafglhcclmbnbaaGreatSplitAtOrd
import Derived.Test.YtafglhcclmbnbaaGreatSplitAtNames
import Derived.Test.YtafglhcclmbnbaaGreatAmLib
/- Part of a proof: see the last text of this folder. -/
set_option linter.unusedSimpArgs false
set_option linter.unusedVariables false
set_option maxRecDepth 20000
set_option maxHeartbeats 8000000
namespace Go.AmC
open Go Go.AM
open Go.Proofs.Tryz (prog)
def sN (A : List Nm) : AV := if A = [] then .rsl 0 [] else .osl 0 9 A.length (Ows (A.flatMap dStr))
theorem sN_nil : sN [] = .rsl 0 [] := rfl
theorem sN_ne {A : List Nm} (h : A ≠ []) : sN A = .osl 0 9 A.length (Ows (A.flatMap dStr)) := if_neg h
theorem put_ne (l : List Nm) (s : Nm) : put l s ≠ [] := by
  unfold put
  cases l with
  | nil => simp [putGo]
  | cons x xs =>
    by_cases h1 : x < s
    · have h2 : ¬ x = s := fun e => List.lt_irrefl _ (e ▸ h1)
      simp [putGo, h1, h2]
    · simp [putGo, h1]
theorem putAll_ne : ∀ (r : List Nm) {A : List Nm}, A ≠ [] → putAll A r ≠ []
  | [], A, h => by simpa [putAll] using h
  | s :: r, A, _ => by
    show putAll (put A s) r ≠ []
    exact putAll_ne r (put_ne A s)
theorem exp0 (k : Int) : ∀ e : Exp, e.tot ≤ 5000000 → Says prog 186 [.rsl 0 [], .agg (Cs e.d), .int .i64 k] (sN (putAll [] (preE k e))) [] := Exp.ind fun e ih he => by
  have ht := e.tot_eq
  have fP := put_spec [] e.S (by simp)
  refine Fn_G Go.Proofs.Tryz.func186 ok186 ?_
  rw [preE_eq, putAll_append]
  simp at fP
  by_cases c : e.K = k
  · rw [putAll_eK, if_pos c]
    simp [v186, r186, c]
    refine callG fP ?_
    simp
    have hne := put_ne [] e.S
    have hl0 := put_len [] e.S
    generalize put [] e.S = A0 at hl0 hne ⊢
    simp at hl0
    refine G_for (l := l186_0) (b := b186_0) rfl [7] (fun i => [(0, sN (putAll A0 (preL k (e.L.take i)))), (6, .int .i64 i)]) (fun i => (putAll A0 (preL k (e.L.take i))).length ≤ A0.length + (i + ((e.L.take i).map Exp.tot).sum)) e.L.length (by simp [preL, putAll]) (by simp [preL, putAll, sN_ne hne]) ?_ ?_
    · intro i hi hI q hn hx hr
      obtain ⟨y, hy0⟩ := get_some hi
      have hrow := row_drop Exp.d 4 Exp.d_len hy0
      have hwi := wrap_succ (i := i) (by omega)
      have hym := List.mem_of_getElem? hy0
      have hs := sum_take Exp.tot hy0
      have hle := AM.sum_take_le Exp.tot e.L (i + 1)
      have ht1 := take_pre k hy0
      have hpl := preE_len k y
      have hA := putAll_len (preE k y) (putAll A0 (preL k (e.L.take i)))
      rw [ht1, putAll_append] at hn
      rw [hs] at hn hle
      generalize putAll A0 (preL k (e.L.take i)) = A at hn hI hA ⊢
      by_cases c : A = []
      · subst c
        have fz := ih y hym (by omega)
        have h3 : (putAll [] (preE k y)).length ≤ 0 + (1 + y.tot) := by have := preE_len k y; simp at hA; omega
        generalize putAll [] (preE k y) = A3 at hn fz hA h3
        simp at fz
        rw [sN_nil]
        simp [hi, Cs_drop, hrow]
        refine callM [] plExp fz ?_
        by_cases c3 : A3 = []
        · subst c3
          simp [sN_nil, hwi]
          exact hn _ (by simp [sN_nil]) (by simp)
        · simp [sN_ne c3, hwi]
          exact hn _ (by simp [sN_ne c3]) (by simp at hI hA; omega)
      · have fy := Says_took (exp_spec k y (by omega) A (by omega))
        have hne := putAll_ne (preE k y) c
        generalize putAll A (preE k y) = A3 at hn fy hA hne
        simp at fy
        rw [sN_ne c]
        simp [hi, Cs_drop, hrow]
        refine callM [.gone] plExp fy ?_
        simp [hwi]
        exact hn _ (by simp [sN_ne hne]) (by omega)
    · intro hI q hx hr
      rw [List.take_length]
      generalize putAll A0 (preL k e.L) = A at hx hr ⊢
      by_cases c : A = []
      · subst c
        simp [sN_nil]
        refine hx _ _ ?_
        simp [sN_nil]
      · simp [sN_ne c]
        refine hx _ _ ?_
        simp [sN_ne c]
  · rw [putAll_eK, if_neg c]
    simp [v186, r186, c]
    have hA0 : ∃ A0 : List Nm, A0 = [] := ⟨_, rfl⟩
    obtain ⟨A0, hA0⟩ := hA0
    have hl0 : A0.length ≤ 1 := by simp [hA0]
    rw [← hA0]
    refine G_for (l := l186_0) (b := b186_0) rfl [7] (fun i => [(0, sN (putAll A0 (preL k (e.L.take i)))), (6, .int .i64 i)]) (fun i => (putAll A0 (preL k (e.L.take i))).length ≤ A0.length + (i + ((e.L.take i).map Exp.tot).sum)) e.L.length (by simp [preL, putAll]) (by simp [preL, putAll, hA0, sN_nil]) ?_ ?_
    · intro i hi hI q hn hx hr
      obtain ⟨y, hy0⟩ := get_some hi
      have hrow := row_drop Exp.d 4 Exp.d_len hy0
      have hwi := wrap_succ (i := i) (by omega)
      have hym := List.mem_of_getElem? hy0
      have hs := sum_take Exp.tot hy0
      have hle := AM.sum_take_le Exp.tot e.L (i + 1)
      have ht1 := take_pre k hy0
      have hpl := preE_len k y
      have hA := putAll_len (preE k y) (putAll A0 (preL k (e.L.take i)))
      rw [ht1, putAll_append] at hn
      rw [hs] at hn hle
      generalize putAll A0 (preL k (e.L.take i)) = A at hn hI hA ⊢
      by_cases c : A = []
      · subst c
        have fz := ih y hym (by omega)
        have h3 : (putAll [] (preE k y)).length ≤ 0 + (1 + y.tot) := by have := preE_len k y; simp at hA; omega
        generalize putAll [] (preE k y) = A3 at hn fz hA h3
        simp at fz
        rw [sN_nil]
        simp [hi, Cs_drop, hrow]
        refine callM [] plExp fz ?_
        by_cases c3 : A3 = []
        · subst c3
          simp [sN_nil, hwi]
          exact hn _ (by simp [sN_nil]) (by simp)
        · simp [sN_ne c3, hwi]
          exact hn _ (by simp [sN_ne c3]) (by simp at hI hA; omega)
      · have fy := Says_took (exp_spec k y (by omega) A (by omega))
        have hne := putAll_ne (preE k y) c
        generalize putAll A (preE k y) = A3 at hn fy hA hne
        simp at fy
        rw [sN_ne c]
        simp [hi, Cs_drop, hrow]
        refine callM [.gone] plExp fy ?_
        simp [hwi]
        exact hn _ (by simp [sN_ne hne]) (by omega)
    · intro hI q hx hr
      rw [List.take_length]
      generalize putAll A0 (preL k e.L) = A at hx hr ⊢
      by_cases c : A = []
      · subst c
        simp [sN_nil]
        refine hx _ _ ?_
        simp [sN_nil]
      · simp [sN_ne c]
        refine hx _ _ ?_
        simp [sN_ne c]
theorem exps01 (k : Int) (l : List Stmt) (hl : l.length + (l.map Stmt.tot).sum ≤ 5000000) (hrec : ∀ x ∈ l, Says prog 113 [.rsl 0 [], .rsl x.Body.length (Cs (x.Body.flatMap Stmt.d)), .int .i64 k] (sN (putAll [] (colS (preP k) x.Body))) []) :
    Says prog 113 [.rsl 0 [], .rsl l.length (Cs (l.flatMap Stmt.d)), .int .i64 k] (sN (putAll [] (colS (preP k) l))) [] := by
  refine Fn_G Go.Proofs.Tryz.func113 ok113 ?_
  simp [v113, r113]
  refine G_for (l := l113_0) (b := b113_0) rfl [5] (fun i => [(0, sN (putAll [] (colS (preP k) (l.take i)))), (4, .int .i64 i)]) (fun i => (putAll [] (colS (preP k) (l.take i))).length ≤ ((l.take i).map fun x => 4 + 5 * x.tot).sum) l.length (by simp [colS, putAll]) (by simp [colS, putAll, sN_nil]) ?_ ?_
  · intro i hi hI q hn hx hr
    obtain ⟨y, hy0⟩ := get_some hi
    have hrow := row_drop Stmt.d 19 Stmt.d_len hy0
    have hwi := wrap_succ (i := i) (by omega)
    have hym := List.mem_of_getElem? hy0
    have hs := sum_take (fun x : Stmt => 4 + 5 * x.tot) hy0
    have hle := AM.sum_take_le (fun x : Stmt => 4 + 5 * x.tot) l (i + 1)
    have hmax : ((l.map fun x : Stmt => 4 + 5 * x.tot)).sum ≤ 25000000 := by rw [ask_sum]; omega
    have hw1 := askW_sum y
    obtain ⟨hq, hq2⟩ := sums5 hy0 hl
    have hcl := colS_len (f := preP k) (w := askW) (fun x => preP_len k x) askW_sum y.Body
    rw [step5 hy0] at hn
    rw [hs] at hn hle
    unfold askW at hw1
    generalize putAll [] (colS (preP k) (l.take i)) = A0 at hn hI ⊢
    have l1 := putAll_len (preE k y.At) A0
    have l2 := putAll_len (preE k y.E) (putAll A0 (preE k y.At))
    have l3 := putAll_len (preE k y.Lo) (putAll (putAll A0 (preE k y.At)) (preE k y.E))
    have l4 := putAll_len (preE k y.Hi) (putAll (putAll (putAll A0 (preE k y.At)) (preE k y.E)) (preE k y.Lo))
    have l5 := putAll_len (colS (preP k) y.Body) (putAll (putAll (putAll (putAll A0 (preE k y.At)) (preE k y.E)) (preE k y.Lo)) (preE k y.Hi))
    have p1 := preE_len k y.At
    have p2 := preE_len k y.E
    have p3 := preE_len k y.Lo
    have p4 := preE_len k y.Hi
    by_cases n0 : A0 = []
    · subst n0
      rw [sN_nil]
      have f1 := exp0 k y.At (by omega)
      generalize putAll [] (preE k y.At) = A1 at *
      try simp at f1
      simp [hi, Cs_drop, hrow]
      refine callM [] plExp f1 ?_
      by_cases n1 : A1 = []
      · subst n1
        rw [sN_nil]
        have f2 := exp0 k y.E (by omega)
        generalize putAll [] (preE k y.E) = A2 at *
        try simp at f2
        simp [hi, Cs_drop, hrow]
        refine callM [] plExp f2 ?_
        by_cases n2 : A2 = []
        · subst n2
          rw [sN_nil]
          have f3 := exp0 k y.Lo (by omega)
          generalize putAll [] (preE k y.Lo) = A3 at *
          try simp at f3
          simp [hi, Cs_drop, hrow]
          refine callM [] plExp f3 ?_
          by_cases n3 : A3 = []
          · subst n3
            rw [sN_nil]
            have f4 := exp0 k y.Hi (by omega)
            generalize putAll [] (preE k y.Hi) = A4 at *
            try simp at f4
            simp [hi, Cs_drop, hrow]
            refine callM [] plExp f4 ?_
            by_cases n4 : A4 = []
            · subst n4
              rw [sN_nil]
              have f5 := hrec y hym
              generalize putAll [] (colS (preP k) y.Body) = A5 at *
              try simp at f5
              simp [hi, Cs_drop, hrow]
              refine callM [] plExps f5 ?_
              by_cases n5 : A5 = []
              · subst n5
                rw [sN_nil]
                simp [sN_nil, hwi]
                exact hn _ (by simp [sN_nil]) (by simp)
              · rw [sN_ne n5]
                simp [hwi]
                exact hn _ (by simp [sN_ne n5]) (by simp at *; omega)
            · rw [sN_ne n4]
              have f5 := Says_took (l4exps k y (by omega) A4 (by simp at *; omega))
              have n5 := putAll_ne (colS (preP k) y.Body) n4
              generalize putAll A4 (colS (preP k) y.Body) = A5 at *
              try simp at f5
              simp [hi, Cs_drop, hrow]
              refine callM [.gone] plExps f5 ?_
              simp [hwi]
              exact hn _ (by simp [sN_ne n5]) (by simp at *; omega)
          · rw [sN_ne n3]
            have f4 := Says_took (exp_spec k y.Hi (by omega) A3 (by omega))
            have n4 := putAll_ne (preE k y.Hi) n3
            generalize putAll A3 (preE k y.Hi) = A4 at *
            try simp at f4
            simp [hi, Cs_drop, hrow]
            refine callM [.gone] plExp f4 ?_
            have f5 := Says_took (l4exps k y (by omega) A4 (by simp at *; omega))
            have n5 := putAll_ne (colS (preP k) y.Body) n4
            generalize putAll A4 (colS (preP k) y.Body) = A5 at *
            try simp at f5
            simp [hi, Cs_drop, hrow]
            refine callM [.gone] plExps f5 ?_
            simp [hwi]
            exact hn _ (by simp [sN_ne n5]) (by simp at *; omega)
        · rw [sN_ne n2]
          have f3 := Says_took (exp_spec k y.Lo (by omega) A2 (by omega))
          have n3 := putAll_ne (preE k y.Lo) n2
          generalize putAll A2 (preE k y.Lo) = A3 at *
          try simp at f3
          simp [hi, Cs_drop, hrow]
          refine callM [.gone] plExp f3 ?_
          have f4 := Says_took (exp_spec k y.Hi (by omega) A3 (by omega))
          have n4 := putAll_ne (preE k y.Hi) n3
          generalize putAll A3 (preE k y.Hi) = A4 at *
          try simp at f4
          simp [hi, Cs_drop, hrow]
          refine callM [.gone] plExp f4 ?_
          have f5 := Says_took (l4exps k y (by omega) A4 (by simp at *; omega))
          have n5 := putAll_ne (colS (preP k) y.Body) n4
          generalize putAll A4 (colS (preP k) y.Body) = A5 at *
          try simp at f5
          simp [hi, Cs_drop, hrow]
          refine callM [.gone] plExps f5 ?_
          simp [hwi]
          exact hn _ (by simp [sN_ne n5]) (by simp at *; omega)
      · rw [sN_ne n1]
        have f2 := Says_took (exp_spec k y.E (by omega) A1 (by omega))
        have n2 := putAll_ne (preE k y.E) n1
        generalize putAll A1 (preE k y.E) = A2 at *
        try simp at f2
        simp [hi, Cs_drop, hrow]
        refine callM [.gone] plExp f2 ?_
        have f3 := Says_took (exp_spec k y.Lo (by omega) A2 (by omega))
        have n3 := putAll_ne (preE k y.Lo) n2
        generalize putAll A2 (preE k y.Lo) = A3 at *
        try simp at f3
        simp [hi, Cs_drop, hrow]
        refine callM [.gone] plExp f3 ?_
        have f4 := Says_took (exp_spec k y.Hi (by omega) A3 (by omega))
        have n4 := putAll_ne (preE k y.Hi) n3
        generalize putAll A3 (preE k y.Hi) = A4 at *
        try simp at f4
        simp [hi, Cs_drop, hrow]
        refine callM [.gone] plExp f4 ?_
        have f5 := Says_took (l4exps k y (by omega) A4 (by simp at *; omega))
        have n5 := putAll_ne (colS (preP k) y.Body) n4
        generalize putAll A4 (colS (preP k) y.Body) = A5 at *
        try simp at f5
        simp [hi, Cs_drop, hrow]
        refine callM [.gone] plExps f5 ?_
        simp [hwi]
        exact hn _ (by simp [sN_ne n5]) (by simp at *; omega)
    · rw [sN_ne n0]
      have f1 := Says_took (exp_spec k y.At (by omega) A0 (by omega))
      have n1 := putAll_ne (preE k y.At) n0
      generalize putAll A0 (preE k y.At) = A1 at *
      try simp at f1
      simp [hi, Cs_drop, hrow]
      refine callM [.gone] plExp f1 ?_
      have f2 := Says_took (exp_spec k y.E (by omega) A1 (by omega))
      have n2 := putAll_ne (preE k y.E) n1
      generalize putAll A1 (preE k y.E) = A2 at *
      try simp at f2
      simp [hi, Cs_drop, hrow]
      refine callM [.gone] plExp f2 ?_
      have f3 := Says_took (exp_spec k y.Lo (by omega) A2 (by omega))
      have n3 := putAll_ne (preE k y.Lo) n2
      generalize putAll A2 (preE k y.Lo) = A3 at *
      try simp at f3
      simp [hi, Cs_drop, hrow]
      refine callM [.gone] plExp f3 ?_
      have f4 := Says_took (exp_spec k y.Hi (by omega) A3 (by omega))
      have n4 := putAll_ne (preE k y.Hi) n3
      generalize putAll A3 (preE k y.Hi) = A4 at *
      try simp at f4
      simp [hi, Cs_drop, hrow]
      refine callM [.gone] plExp f4 ?_
      have f5 := Says_took (l4exps k y (by omega) A4 (by simp at *; omega))
      have n5 := putAll_ne (colS (preP k) y.Body) n4
      generalize putAll A4 (colS (preP k) y.Body) = A5 at *
      try simp at f5
      simp [hi, Cs_drop, hrow]
      refine callM [.gone] plExps f5 ?_
      simp [hwi]
      exact hn _ (by simp [sN_ne n5]) (by simp at *; omega)
  · intro hI q hx hr
    rw [List.take_length]
    generalize putAll [] (colS (preP k) l) = A at hx hr ⊢
    by_cases c : A = []
    · subst c
      simp [sN_nil]
      refine hx _ _ ?_
      simp [sN_nil]
    · simp [sN_ne c]
      refine hx _ _ ?_
      simp [sN_ne c]
theorem exps0 (k : Int) : ∀ x : Stmt, x.tot ≤ 5000000 → Says prog 113 [.rsl 0 [], .rsl x.Body.length (Cs (x.Body.flatMap Stmt.d)), .int .i64 k] (sN (putAll [] (colS (preP k) x.Body))) [] := Stmt.ind fun x ih hx => by
  have ht := x.tot_eq
  exact exps01 k x.Body (by omega) (fun y hy => ih y hy (by have := mem_sum Stmt.tot hy; omega))
theorem exps0_spec (k : Int) (l : List Stmt) (hl : l.length + (l.map Stmt.tot).sum ≤ 5000000) : Says prog 113 [.rsl 0 [], .rsl l.length (Cs (l.flatMap Stmt.d)), .int .i64 k] (sN (nrm (colS (preP k) l))) [] :=
  exps01 k l hl fun x hx => exps0 k x (by have := mem_sum Stmt.tot hx; omega)
end Go.AmC

/- Part of a proof: see the last text of this folder. -/
set_option linter.unusedSimpArgs false
set_option linter.unusedVariables false
set_option maxRecDepth 20000
set_option maxHeartbeats 4000000
namespace Go.AmC
open Go Go.AM
open Go.Proofs.Tryz (prog)
def arrNames (l : List Arr) : List Nm := l.map Arr.Name
def arrIx (p : Prog) (n : Nm) : Int := idxOf n (arrNames p.Arrs) 0
theorem idxOf_lt (s : Nm) : ∀ (l : List Nm) (i : Nat), idxOf s l i = -1 ∨ (i : Int) ≤ idxOf s l i ∧ idxOf s l i < (i + l.length : Nat)
  | [], i => by simp [idxOf]
  | x :: xs, i => by
    by_cases c : x = s
    · right; simp [idxOf, c]; omega
    · have := idxOf_lt s xs (i + 1)
      simp only [idxOf, if_neg c, List.length_cons]
      omega
theorem arrIx_nonneg (p : Prog) (n : Nm) : (0 ≤ arrIx p n) ↔ n ∈ arrNames p.Arrs := idxOf_nonneg n (arrNames p.Arrs) 0
theorem arrAt_spec (p : Prog) (n : Nm) (hp : p.Arrs.length ≤ 4000000000) : Says prog 185 [.agg (Cs p.d), .str n] (.int .i64 (arrIx p n)) [] := by
  refine Fn_G Go.Proofs.Tryz.func185 ok185 ?_
  generalize hR : arrIx p n = R0
  unfold arrIx at hR
  simp [v185, r185]
  refine G_for (l := l185_0) (b := b185_0) rfl [5, 6] (fun i => [(4, .int .i64 i)]) (fun i => idxOf n (arrNames (p.Arrs.drop i)) i = R0) p.Arrs.length (by simpa using hR) (by simp) ?_ ?_
  · intro i hi hI q hn hx hr
    obtain ⟨x, hx0⟩ := get_some hi
    have hrow := row_drop Arr.d 2 Arr.d_len hx0
    have hw := wrap_succ (i := i) (by omega)
    rw [drop_cons hx0] at hI
    simp only [arrNames, List.map_cons, idxOf] at hI
    by_cases c : x.Name = n
    · simp [hi, Cs_drop, hrow, c]
      refine hr _ ?_
      rw [if_pos c] at hI
      simp [hI]
    · simp [hi, Cs_drop, hrow, c, hw]
      rw [if_neg c] at hI
      exact hn _ (by simp) hI
  · intro hI q hx hr
    simp [arrNames, idxOf] at hI
    simp
    refine hx _ _ ?_
    simp [hI]
theorem eqArr_impl (r : Arr) (n : Nm) : Says prog 297 [.agg (Cs r.d), .rp [.str n]] (.bool (r.Name == n)) [] := by
  refine Fn_G Go.Proofs.Tryz.func297 ok297 ?_
  simp [v297, r297]
theorem idxA_impl (l : List Arr) (n : Nm) (hl : l.length ≤ 4000000000) : Says prog 296 [.rsl l.length (Cs (l.flatMap Arr.d)), .fn 297 [.rp [.str n]]] (.int .i64 (idxOf n (arrNames l) 0)) [] := by
  refine Fn_G Go.Proofs.Tryz.func296 ok296 ?_
  have pl : plainFn prog 297 = true := by kernel_rfl
  generalize hR : idxOf n (arrNames l) 0 = R0
  simp [v296, r296]
  refine G_for (l := l296_0) (b := b296_0) rfl [6] (fun i => [(4, .int .i64 i)]) (fun i => idxOf n (arrNames (l.drop i)) i = R0) l.length (by simpa using hR) (by simp) ?_ ?_
  · intro i hi hI q hn hx hr
    obtain ⟨x, hx0⟩ := get_some hi
    have hrow := row_drop Arr.d 2 Arr.d_len hx0
    have hw := wrap_succ (i := i) (by omega)
    rw [drop_cons hx0] at hI
    simp only [arrNames, List.map_cons, idxOf] at hI
    have f := eqArr_impl x n
    simp at f
    simp [hi, Cs_drop, hrow]
    refine callV pl f ?_
    by_cases c : x.Name = n
    · simp [c]
      refine hr _ ?_
      rw [if_pos c] at hI
      simp [hI]
    · simp [c, hw]
      rw [if_neg c] at hI
      exact hn _ (by simp) hI
  · intro hI q hx hr
    simp [arrNames, idxOf] at hI
    simp
    refine hx _ _ ?_
    simp [hI]
theorem arrAt_impl (p : Prog) (n : Nm) (hp : p.Arrs.length ≤ 4000000000) : Says prog 236 [.agg (Cs p.d), .str n] (.int .i64 (arrIx p n)) [] := by
  have f := idxA_impl p.Arrs n hp
  refine Fn_G Go.Proofs.Tryz.func236 ok236 ?_
  change Says _ _ _ (.int .i64 (arrIx p n)) _ at f
  generalize arrIx p n = R at f ⊢
  try simp at f
  simp [v236, r236]
  refine callG f ?_
  simp
theorem areArrs_impl (p : Prog) (ns : List Nm) (hp : p.Arrs.length ≤ 4000000000) (hn : ns.length ≤ 4000000000) : Says prog 194 [.agg (Cs p.d), .rsl ns.length (Cs (ns.flatMap dStr))] (.tup [none, none] [.bool (ns.all fun n => decide (n ∈ arrNames p.Arrs)), .bool (ns.any fun n => decide (n ∈ arrNames p.Arrs))]) [] := by
  refine Fn_G Go.Proofs.Tryz.func194 ok194 ?_
  simp only [v194, r194]
  simp
  refine G_for (l := l194_0) (b := b194_0) rfl [11, 12] (fun i => [(5, .bool ((ns.take i).all fun n => decide (n ∈ arrNames p.Arrs))), (6, .bool ((ns.take i).any fun n => decide (n ∈ arrNames p.Arrs))), (9, .int .i64 i)]) (fun i => True) ns.length trivial (by simp) ?_ ?_
  · intro i hi hI q hn hx hr
    obtain ⟨x, hx0⟩ := get_some hi
    have hrow := row_drop dStr 1 (fun _ => by simp) hx0
    rw [Nat.mul_one] at hrow
    have hw := wrap_succ (i := i) (by omega)
    have f := arrAt_impl p x hp
    have hd := arrIx_nonneg p x
    have e1 : (ns.take (i + 1)).all (fun n => decide (n ∈ arrNames p.Arrs)) = ((ns.take i).all (fun n => decide (n ∈ arrNames p.Arrs)) && decide (x ∈ arrNames p.Arrs)) := by rw [List.take_add_one, hx0]; simp
    have e2 : (ns.take (i + 1)).any (fun n => decide (n ∈ arrNames p.Arrs)) = ((ns.take i).any (fun n => decide (n ∈ arrNames p.Arrs)) || decide (x ∈ arrNames p.Arrs)) := by rw [List.take_add_one, hx0]; simp
    rw [e1, e2] at hn
    generalize (ns.take i).all (fun n => decide (n ∈ arrNames p.Arrs)) = A at hn ⊢
    generalize (ns.take i).any (fun n => decide (n ∈ arrNames p.Arrs)) = B at hn ⊢
    generalize arrIx p x = z at f hd
    simp at f
    by_cases c : x ∈ arrNames p.Arrs
    · have cz : 0 ≤ z := hd.2 c
      have c1 : decide (x ∈ arrNames p.Arrs) = true := decide_eq_true c
      rw [c1] at hn
      cases A <;> cases B <;> simp [hi, Cs_drop, hrow] <;> refine callG f ?_ <;> simp [cz, hw] <;> exact hn _ (by simp) trivial
    · have cz : ¬ 0 ≤ z := fun h => c (hd.1 h)
      have c1 : decide (x ∈ arrNames p.Arrs) = false := decide_eq_false c
      rw [c1] at hn
      cases A <;> cases B <;> simp [hi, Cs_drop, hrow] <;> refine callG f ?_ <;> simp [cz, hw] <;> exact hn _ (by simp) trivial
  · intro hI q hx hr
    rw [List.take_length]
    generalize ns.all (fun n => decide (n ∈ arrNames p.Arrs)) = A at hx hr ⊢
    generalize ns.any (fun n => decide (n ∈ arrNames p.Arrs)) = B at hx hr ⊢
    simp
    refine hx _ _ ?_
    simp
theorem arrs_spec (p : Prog) (ns : List Nm) (hp : p.Arrs.length ≤ 4000000000) (hn : ns.length ≤ 4000000000) : Says prog 112 [.agg (Cs p.d), .rsl ns.length (Cs (ns.flatMap dStr))] (.bool (ns.all fun n => decide (n ∈ arrNames p.Arrs))) [] := by
  refine Fn_G Go.Proofs.Tryz.func112 ok112 ?_
  generalize hR : (ns.all fun n => decide (n ∈ arrNames p.Arrs)) = R0
  simp [v112, r112]
  refine G_for (l := l112_0) (b := b112_0) rfl [5, 6] (fun i => [(4, .int .i64 i)]) (fun i => (ns.take i).all (fun n => decide (n ∈ arrNames p.Arrs)) = true) ns.length (by simp) (by simp) ?_ ?_
  · intro i hi hI q hn hx hr
    obtain ⟨x, hx0⟩ := get_some hi
    have hrow := row_drop dStr 1 (fun _ => by simp) hx0
    rw [Nat.mul_one] at hrow
    have hw := wrap_succ (i := i) (by omega)
    have f := arrAt_spec p x hp
    have hd := arrIx_nonneg p x
    generalize arrIx p x = z at f hd
    simp at f
    by_cases c : x ∈ arrNames p.Arrs
    · have cz : ¬ z < 0 := by have := hd.2 c; omega
      simp [hi, Cs_drop, hrow]
      refine callD f ?_
      simp [cz, hw]
      exact hn _ (by simp) (all_take hI hx0 (decide_eq_true c))
    · have cz : z < 0 := by have : ¬ 0 ≤ z := fun h => c (hd.1 h); omega
      simp [hi, Cs_drop, hrow]
      refine callD f ?_
      simp [cz]
      refine hr _ ?_
      have := all_not (p := fun n => decide (n ∈ arrNames p.Arrs)) hx0 (decide_eq_false c)
      simp [← hR, this]
  · intro hI q hx hr
    rw [List.take_length] at hI
    simp
    refine hx _ _ ?_
    simp [← hR, hI]
theorem apart_spec (a b : List Nm) (ha : a.length ≤ 4000000000) (hb : b.length ≤ 4000000000) : Says prog 114 [.rsl a.length (Cs (a.flatMap dStr)), .rsl b.length (Cs (b.flatMap dStr))] (.bool (a.all fun n => !decide (n ∈ b))) [] := by
  refine Fn_G Go.Proofs.Tryz.func114 ok114 ?_
  generalize hR : (a.all fun n => !decide (n ∈ b)) = R0
  simp [v114, r114]
  refine G_for (l := l114_0) (b := b114_0) rfl [4, 5] (fun i => [(3, .int .i64 i)]) (fun i => (a.take i).all (fun n => !decide (n ∈ b)) = true) a.length (by simp) (by simp) ?_ ?_
  · intro i hi hI q hn hx hr
    obtain ⟨x, hx0⟩ := get_some hi
    have hrow := row_drop dStr 1 (fun _ => by simp) hx0
    rw [Nat.mul_one] at hrow
    have hw := wrap_succ (i := i) (by omega)
    have f := has_spec b x hb
    cases c : decide (x ∈ b)
    · rw [c] at f
      simp [hi, Cs_drop, hrow]
      refine callG f ?_
      simp [hw]
      exact hn _ (by simp) (all_take hI hx0 (by simp [c]))
    · rw [c] at f
      simp [hi, Cs_drop, hrow]
      refine callG f ?_
      simp
      refine hr _ ?_
      have := all_not (p := fun n => !decide (n ∈ b)) hx0 (by simp [c])
      simp [← hR, this]
  · intro hI q hx hr
    rw [List.take_length] at hI
    simp
    refine hx _ _ ?_
    simp [← hR, hI]
end Go.AmC

/- Part of a proof: see the last text of this folder. -/
set_option linter.unusedSimpArgs false
set_option linter.unusedVariables false
set_option maxRecDepth 20000
set_option maxHeartbeats 4000000
namespace Go.AmC
open Go Go.AM
open Go.Proofs.Tryz (prog)
mutual
def nestS (ar : List Nm) : Stmt → Bool
  | ⟨K, S, At, E, Lo, Hi, B⟩ => if K = 3 then !decide (S ∈ ar) && nestL (ar ++ [S]) B else true
def nestL (ar : List Nm) : List Stmt → Bool
  | [] => true
  | x :: l => nestS ar x && nestL ar l
end
theorem nestS_eq (ar : List Nm) (x : Stmt) : nestS ar x = if x.K = 3 then !decide (x.S ∈ ar) && nestL (ar ++ [x.S]) x.Body else true := by cases x; rw [nestS]
theorem nestL_eq (ar : List Nm) : ∀ l : List Stmt, nestL ar l = l.all (nestS ar)
  | [] => by simp [nestL]
  | x :: l => by simp [nestL, nestL_eq ar l]
theorem names_same : ∀ xs : List Nm, Cs (xs.flatMap dStr) = Ows (xs.flatMap dStr)
  | [] => by simp
  | x :: xs => by have := names_same xs; simp only [List.flatMap_cons, Cs_append, Ows_append, this]; simp
theorem names_len (xs : List Nm) : (xs.flatMap dStr).length = xs.length := by simpa using len_flat dStr 1 (fun _ => by simp) xs
theorem clone_names (xs : List Nm) (hl : xs.length ≤ 4000000000) : Says prog 266 [.rsl xs.length (Cs (xs.flatMap dStr))] (.osl 0 9 xs.length (Ows (xs.flatMap dStr))) [] := by
  cases xs with
  | nil =>
    refine Says_nil 0 (by simp) fun t => ?_
    refine Fn_G Go.Proofs.Tryz.func266 ok266 ?_
    cases t <;> simp [v266, r266]
  | cons x xs =>
    refine Fn_G Go.Proofs.Tryz.func266 ok266 ?_
    have h1 := names_len (x :: xs)
    have h2 := names_same (x :: xs)
    have hb : xs.length + 1 ≤ bnd := by unfold bnd; simp at hl; omega
    simp only [List.length_cons] at h1 ⊢
    generalize List.flatMap dStr (x :: xs) = A at h1 h2 ⊢
    simp [v266, r266, lenX, h1, hb, h2]
theorem nest_impl1 (l : List Stmt) (hl : l.length + (l.map Stmt.tot).sum ≤ 5000000) (ar : List Nm) (ha : ar.length + (l.map fun x => 1 + x.tot).sum ≤ 20000000)
    (hrec : ∀ x ∈ l, ∀ ar : List Nm, ar.length + (x.Body.map fun x => 1 + x.tot).sum ≤ 20000000 → Says prog 199 [.rsl x.Body.length (Cs (x.Body.flatMap Stmt.d)), .rsl ar.length (Cs (ar.flatMap dStr))] (.bool (nestL ar x.Body)) []) :
    Says prog 199 [.rsl l.length (Cs (l.flatMap Stmt.d)), .rsl ar.length (Cs (ar.flatMap dStr))] (.bool (nestL ar l)) [] := by
  refine Fn_G Go.Proofs.Tryz.func199 ok199 ?_
  rw [nestL_eq]
  generalize hRR : l.all (nestS ar) = R
  simp [v199, r199]
  refine G_for (l := l199_0) (b := b199_0) rfl [7, 8, 9] (fun i => [(5, .int .i64 i)]) (fun i => (l.take i).all (nestS ar) = true) l.length (by simp) (by simp) ?_ ?_
  · intro i hi hI q hn hx hr
    obtain ⟨y, hy0⟩ := get_some hi
    have hrow := row_drop Stmt.d 19 Stmt.d_len hy0
    have hw := wrap_succ (i := i) (by omega)
    have hym := List.mem_of_getElem? hy0
    have hms := mem_sum (fun x : Stmt => 1 + x.tot) hym
    have hw1 := wt1 y
    by_cases k : y.K = 3
    · have f1 := has_impl ar y.S (by omega)
      have f2 := clone_names ar (by omega)
      have f3 := hrec y hym (ar ++ [y.S]) (by simp only [List.length_append, List.length_cons, List.length_nil]; omega)
      have hb : ar.length + 1 ≤ bnd := by unfold bnd; omega
      simp at f3
      cases c : decide (y.S ∈ ar)
      · rw [c] at f1
        cases c2 : nestL (ar ++ [y.S]) y.Body
        · rw [c2] at f3
          have hb2 : nestS ar y = false := by rw [nestS_eq, if_pos k, c, c2]; rfl
          simp [hi, Cs_drop, hrow, splice, k]
          refine callD f1 ?_
          simp
          refine callD f2 ?_
          simp [hb]
          refine callD f3 ?_
          simp
          refine hr _ ?_
          simp [← hRR, all_not hy0 hb2]
        · rw [c2] at f3
          have hb2 : nestS ar y = true := by rw [nestS_eq, if_pos k, c, c2]; rfl
          simp [hi, Cs_drop, hrow, splice, k]
          refine callD f1 ?_
          simp
          refine callD f2 ?_
          simp [hb]
          refine callD f3 ?_
          simp [hw]
          exact hn _ (by simp) (all_take hI hy0 hb2)
      · rw [c] at f1
        have hb2 : nestS ar y = false := by rw [nestS_eq, if_pos k, c]; rfl
        simp [hi, Cs_drop, hrow, splice, k]
        refine callD f1 ?_
        simp
        refine hr _ ?_
        simp [← hRR, all_not hy0 hb2]
    · have hb2 : nestS ar y = true := by rw [nestS_eq, if_neg k]
      simp [hi, Cs_drop, hrow, splice, k, hw]
      exact hn _ (by simp) (all_take hI hy0 hb2)
  · intro hI q hx hr
    rw [List.take_length] at hI
    simp
    refine hx _ _ ?_
    simp [← hRR, hI]
theorem nest_implB : ∀ x : Stmt, x.tot ≤ 5000000 → ∀ ar : List Nm, ar.length + (x.Body.map fun x => 1 + x.tot).sum ≤ 20000000 → Says prog 199 [.rsl x.Body.length (Cs (x.Body.flatMap Stmt.d)), .rsl ar.length (Cs (ar.flatMap dStr))] (.bool (nestL ar x.Body)) [] := Stmt.ind fun x ih hx ar ha => by
  have ht := x.tot_eq
  exact nest_impl1 x.Body (by omega) ar ha (fun y hy => ih y hy (by have := mem_sum Stmt.tot hy; omega))
theorem nest_impl (l : List Stmt) (hl : l.length + (l.map Stmt.tot).sum ≤ 5000000) : Says prog 199 [.rsl l.length (Cs (l.flatMap Stmt.d)), .rsl 0 []] (.bool (nestL [] l)) [] := by
  simpa using nest_impl1 l hl [] (by rw [wt1_sum]; simp; omega) (fun y hy => nest_implB y (by have := mem_sum Stmt.tot hy; omega))
theorem nest_spec1 (l : List Stmt) (hl : l.length + (l.map Stmt.tot).sum ≤ 5000000) (ar : List Nm) (ha : ar.length + (l.map fun x => 1 + x.tot).sum ≤ 20000000)
    (hrec : ∀ x ∈ l, ∀ ar : List Nm, ar.length + (x.Body.map fun x => 1 + x.tot).sum ≤ 20000000 → Says prog 116 [.rsl x.Body.length (Cs (x.Body.flatMap Stmt.d)), .rsl ar.length (Cs (ar.flatMap dStr))] (.bool (nestL ar x.Body)) []) :
    Says prog 116 [.rsl l.length (Cs (l.flatMap Stmt.d)), .rsl ar.length (Cs (ar.flatMap dStr))] (.bool (nestL ar l)) [] := by
  refine Fn_G Go.Proofs.Tryz.func116 ok116 ?_
  rw [nestL_eq]
  generalize hRR : l.all (nestS ar) = R
  simp [v116, r116]
  refine G_for (l := l116_0) (b := b116_0) rfl [4, 5, 6] (fun i => [(2, .bool false), (3, .int .i64 i)]) (fun i => (l.take i).all (nestS ar) = true) l.length (by simp) (by simp) ?_ ?_
  · intro i hi hI q hn hx hr
    obtain ⟨y, hy0⟩ := get_some hi
    have hrow := row_drop Stmt.d 19 Stmt.d_len hy0
    have hw := wrap_succ (i := i) (by omega)
    have hym := List.mem_of_getElem? hy0
    have hms := mem_sum (fun x : Stmt => 1 + x.tot) hym
    have hw1 := wt1 y
    by_cases k : y.K = 3
    · have f1 := has_spec ar y.S (by omega)
      have f3 := hrec y hym (ar ++ [y.S]) (by simp only [List.length_append, List.length_cons, List.length_nil]; omega)
      have hb : ar.length + 1 ≤ bnd := by unfold bnd; omega
      have hb0 : ar.length ≤ bnd := by omega
      have hl1 := names_len ar
      have hl2 := names_same ar
      simp at f3
      rw [hl2] at f3
      cases c : decide (y.S ∈ ar)
      · rw [c] at f1
        cases c2 : nestL (ar ++ [y.S]) y.Body
        · rw [c2] at f3
          have hb2 : nestS ar y = false := by rw [nestS_eq, if_pos k, c, c2]; rfl
          simp [hi, Cs_drop, hrow, splice, k]
          refine callD f1 ?_
          simp [hi, Cs_drop, hrow, splice, hb, hb0, lenX, hl1, hl2]
          refine callD f3 ?_
          simp
          refine hr _ ?_
          simp [← hRR, all_not hy0 hb2]
        · rw [c2] at f3
          have hb2 : nestS ar y = true := by rw [nestS_eq, if_pos k, c, c2]; rfl
          simp [hi, Cs_drop, hrow, splice, k]
          refine callD f1 ?_
          simp [hi, Cs_drop, hrow, splice, hb, hb0, lenX, hl1, hl2]
          refine callD f3 ?_
          simp [hw]
          rw [← hl2]
          exact hn _ (by simp) (all_take hI hy0 hb2)
      · rw [c] at f1
        have hb2 : nestS ar y = false := by rw [nestS_eq, if_pos k, c]; rfl
        simp [hi, Cs_drop, hrow, splice, k]
        refine callD f1 ?_
        simp
        refine hr _ ?_
        simp [← hRR, all_not hy0 hb2]
    · have hb2 : nestS ar y = true := by rw [nestS_eq, if_neg k]
      simp [hi, Cs_drop, hrow, splice, k, hw]
      exact hn _ (by simp) (all_take hI hy0 hb2)
  · intro hI q hx hr
    rw [List.take_length] at hI
    simp
    refine hx _ _ ?_
    simp [← hRR, hI]
theorem nest_specB : ∀ x : Stmt, x.tot ≤ 5000000 → ∀ ar : List Nm, ar.length + (x.Body.map fun x => 1 + x.tot).sum ≤ 20000000 → Says prog 116 [.rsl x.Body.length (Cs (x.Body.flatMap Stmt.d)), .rsl ar.length (Cs (ar.flatMap dStr))] (.bool (nestL ar x.Body)) [] := Stmt.ind fun x ih hx ar ha => by
  have ht := x.tot_eq
  exact nest_spec1 x.Body (by omega) ar ha (fun y hy => ih y hy (by have := mem_sum Stmt.tot hy; omega))
theorem nest_spec (l : List Stmt) (hl : l.length + (l.map Stmt.tot).sum ≤ 5000000) : Says prog 116 [.rsl l.length (Cs (l.flatMap Stmt.d)), .rsl 0 []] (.bool (nestL [] l)) [] := by
  simpa using nest_spec1 l hl [] (by rw [wt1_sum]; simp; omega) (fun y hy => nest_specB y (by have := mem_sum Stmt.tot hy; omega))
end Go.AmC

