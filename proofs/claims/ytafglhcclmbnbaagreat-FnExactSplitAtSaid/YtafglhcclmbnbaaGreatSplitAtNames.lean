/- Part of a proof: see the last text of this folder. -/
import Derived.Test.YtafglhcclmbnbaaGreatSplitAtOrd
import Derived.Test.YtafglhcclmbnbaaGreatSplitAtCnt
import Derived.Test.YtafglhcclmbnbaaGreatAmLib
/- Part of a proof: see the last text of this folder. -/
set_option linter.unusedSimpArgs false
set_option linter.unusedVariables false
set_option maxRecDepth 100000
set_option maxHeartbeats 4000000
namespace Go.AmC
open Go Go.AM Go.Sort Go.Proofs
open Go.Proofs.Tryz (prog)
theorem clip_calls (a : Option Addr) (n cap : Nat) (w : World) (hn : n ≤ cap) (h0 : a = none → cap = 0) : Calls prog 285 #[.slice a n cap] w fun e w' => e = .returned (.slice a n n) ∧ w' = w := by
  go_enter Go.Proofs.Tryz.func285, Go.Proofs.Tryz.ntmps285
  go_wp2
  go_ret
  exact ⟨rfl, rfl⟩
theorem sort_calls (blk cap : Nat) (zs : List Nm) (w : World) (hH : Holds encStr w blk 0 zs.toArray) (hblk : blk < w.heap.size) (hsz : zs.length < 4611686018427387904) :
    Calls prog 284 #[.slice (some ⟨blk, 0, none⟩) zs.length cap] w fun e w' => e = .returned (.tuple #[]) ∧ ∃ n os, w' = grow (putRow encStr (Sort.ahead w n) blk 0 (zs.mergeSort fun x y => decide (x ≤ y)).toArray) os :=
  Any.slices_Sort_string Go.Proofs.Tryz.sortS blk 0 cap zs w hH hblk hsz
theorem comp_calls (blk cap : Nat) (zs : List Nm) (w : World) (hH : Holds encStr w blk 0 zs.toArray) (hsz : zs.length ≤ 9223372036854775807) (hcap : zs.length ≤ cap) :
    Calls prog 286 #[.slice (some ⟨blk, 0, none⟩) zs.length cap] w fun e w' => e = .returned (.slice (some ⟨blk, 0, none⟩) (Lib.compact zs).length cap) ∧ ∃ q, w' = putRow encStr (Sort.ahead w q) blk 0 (Lib.compact zs ++ List.replicate (zs.length - (Lib.compact zs).length) []).toArray :=
  Any.slices_Compact_string Go.Proofs.Tryz.compS blk 0 cap zs w hH hsz hcap
def tailN (zs : List Nm) : List Nm := nrm zs ++ List.replicate (zs.length - (nrm zs).length) []
theorem tailN_len (zs : List Nm) : (tailN zs).length = zs.length := by
  have := nrm_len zs
  unfold tailN; simp; omega
theorem ordered_some (blk cap : Nat) (zs : List Nm) (w : World) (hH : Holds encStr w blk 0 zs.toArray) (hblk : blk < w.heap.size) (hsz : zs.length < 4611686018427387904) (hcap : zs.length ≤ cap) :
    Calls prog 225 #[.slice (some ⟨blk, 0, none⟩) zs.length cap] w fun e w' => e = .returned (.slice (some ⟨blk, 0, none⟩) (nrm zs).length (nrm zs).length) ∧ ∃ n os, w' = grow (putRow encStr (Sort.ahead w n) blk 0 (tailN zs).toArray) os := by
  have hl : (zs.mergeSort fun x y => decide (x ≤ y)).length = zs.length := List.length_mergeSort zs
  have hcz := compact_nrm zs
  have h1 := fun W hH hb => sort_calls blk cap zs W hH hb hsz
  generalize zs.mergeSort (fun x y => decide (x ≤ y)) = ms at hl hcz h1
  have h2 := fun W hH => comp_calls blk cap ms W hH (by omega) (by omega)
  rw [hcz, hl] at h2
  have hn := nrm_len zs
  have h3 := fun W => clip_calls (some ⟨blk, 0, none⟩) (nrm zs).length cap W (by omega) (fun h => by cases h)
  go_enter Go.Proofs.Tryz.func225, Go.Proofs.Tryz.ntmps225
  go_wp2_with (go_at_call 284; refine (h1 _ hH hblk).mono ?_; rintro e w1 ⟨rfl, n, os, rfl⟩)
  have hs0 : (grow (putRow encStr (Sort.ahead w n) blk 0 ms.toArray) os).heap.size ≥ w.heap.size := by simp [grow, putRow, mapBlock, Sort.ahead]
  have hb2 : blk < (putRow encStr (Sort.ahead w n) blk 0 ms.toArray).heap.size := by simpa [putRow, mapBlock, Sort.ahead] using hblk
  have hH2 : Holds encStr (grow (putRow encStr (Sort.ahead w n) blk 0 ms.toArray) os) blk 0 ms.toArray :=
    holds_grow _ _ _ _ _ _ hb2 (holds_putRow encStr (Sort.ahead w n) blk 0 zs.toArray ms.toArray (holds_ahead _ _ _ _ _ _ hH) (by simpa using hl))
  refine (h2 _ hH2).mono ?_
  rintro e w2 ⟨rfl, q, rfl⟩
  go_wp2_with (go_at_call 285; refine (h3 _).mono ?_; rintro e w3 ⟨rfl, rfl⟩)
  go_ret
  refine ⟨rfl, n + q, os, ?_⟩
  exact grow_step encStr w os n q blk 0 ms.toArray (tailN zs).toArray hblk (by simp [tailN_len, hl])
theorem ordered_none (w : World) : Calls prog 225 #[.slice none 0 0] w fun e w' => e = .returned (.slice none 0 0) ∧ w' = w := by
  have h1 : ∀ W : World, Calls prog 284 #[.slice none 0 0] W fun e w' => e = .returned (.tuple #[]) ∧ w' = W := fun W => Any.slices_Sort_string_none Go.Proofs.Tryz.sortS none 0 W
  have h2 : ∀ W : World, Calls prog 286 #[.slice none 0 0] W fun e w' => e = .returned (.slice none 0 0) ∧ w' = W := fun W => Any.slices_Compact_string_empty Go.Proofs.Tryz.compS none 0 W
  have h3 := fun W => clip_calls none 0 0 W (Nat.le_refl _) (fun _ => rfl)
  go_enter Go.Proofs.Tryz.func225, Go.Proofs.Tryz.ntmps225
  go_wp2_with (go_at_call 284; refine (h1 _).mono ?_; rintro e w1 ⟨rfl, rfl⟩)
  refine (h2 _).mono ?_
  rintro e w2 ⟨rfl, rfl⟩
  go_wp2_with (go_at_call 285; refine (h3 _).mono ?_; rintro e w3 ⟨rfl, rfl⟩)
  go_ret
  exact ⟨rfl, rfl⟩
theorem flatK1 (zs : List Nm) (j : Nat) (x : Nm) (h : zs[j]? = some x) : ((zs.flatMap dStr).map dv)[j]? = some (encStr x) := by
  have := row_drop dStr 1 (fun _ => by simp) h
  rw [Nat.mul_one] at this
  have h2 : (zs.flatMap dStr)[j]? = some (.S x) := by
    have h3 := congrArg (·[0]?) this
    simpa using h3
  rw [List.getElem?_map, h2]; rfl
theorem flat1 : ∀ (zs : List Nm), zs.flatMap dStr = zs.map .S
  | [] => rfl
  | x :: zs => by simp [flat1 zs]
theorem ordered_says (zs : List Nm) (hz : zs.length ≤ 4294967296) : Says prog 225 [.osl 1 9 zs.length (Ows (zs.flatMap dStr))] (.rsl (nrm zs).length (Cs ((nrm zs).flatMap dStr))) (num 1 [.gone]) := by
  intro w Φ σ cargs fa hcr hh hinv
  simp only [CR] at hcr
  obtain ⟨v, vs', f1, f2, hca, hv, ⟨rfl, hz2⟩, hfa⟩ := hcr
  have hsc : ∀ d ∈ zs.flatMap dStr, isL d = false := fun d hd => by
    obtain ⟨x, _, hx⟩ := List.mem_flatMap.1 hd
    simp at hx; subst hx; rfl
  simp only [VR] at hv
  obtain ⟨hst, hx, cs, f5, ho, hc, hb⟩ := hv
  obtain ⟨rfl, hz5⟩ := CR_sc hsc hc
  have hcell : prog.cellsOf 9 = 1 := by kernel_rfl
  have hcargs : cargs = #[v] := by
    apply Array.toList_inj.1; rw [hca]
  have hfv : ∀ b, fa b = own1 v b := fun b => by rw [hfa b, hz2 b, hb b, hz5 b]; omega
  rw [hcargs]
  have hr0 : ∀ {n : Nat} {ds : List D}, hr (.rsl n (Cs ds)) = false := by intros; rfl
  rcases ho.2 with ⟨rfl, h0⟩ | ⟨gb, cap, cur, rfl, _, hg, hn, hm, hs, ht⟩
  · have hxs : zs = [] := List.eq_nil_of_length_eq_zero h0
    subst hxs
    refine (ordered_none w).mono ?_
    rintro en w' ⟨rfl, rfl⟩
    refine ⟨_, Φ, fun _ => 0, fun _ => 0, rfl, Ext.refl _ _, fun _ h => h, fun _ h => .inl h, ?_, rfl, ?_, rfl, ?_, fun b h => by simp at h⟩
    · simp only [VR]
      exact ⟨⟨none, 0, rfl, Nat.le_refl _, fun _ => ⟨rfl, rfl⟩, by simp [nrm, putAll, FC]⟩, fun _ => trivial⟩
    · exact CR_one (v := .gone) (by simp only [VR]; intro b; trivial)
    · exact ⟨fun b => by simp, fun b hb => by simp at hb, hinv.fz, fun b _ => by simp, hinv.tab⟩
  · have hg0 : gb < w.heap.size := (Array.getElem?_eq_some_iff.1 hg).1
    have hH : Holds encStr w gb 0 zs.toArray := by
      intro j hj
      have hj' : j < zs.length := by simpa using hj
      refine ⟨?_, by simp [World.frozen?, hg]⟩
      have := ho.cells (g := gb) rfl j _ (flatK1 zs j zs[j] (List.getElem?_eq_getElem hj'))
      rw [getElem!_pos _ j hj]
      simpa [add_lit] using this
    refine (ordered_some gb cap zs w hH hg0 (by omega) hn).mono ?_
    rintro en w' ⟨rfl, n, os, rfl⟩
    have hheap : (grow (putRow encStr (Sort.ahead w n) gb 0 (tailN zs).toArray) os).heap = w.heap.modify gb (onCells (putCells encStr 0 (tailN zs).toArray)) ++ os := rfl
    have hother : ∀ b, b < w.heap.size → b ≠ gb → (grow (putRow encStr (Sort.ahead w n) gb 0 (tailN zs).toArray) os).heap[b]? = w.heap[b]? := by
      intro b hb1 hb2
      rw [hheap, Array.getElem?_append_left (by simpa using hb1), Array.getElem?_modify, if_neg (Ne.symm hb2)]
    have hsz : w.heap.size ≤ (grow (putRow encStr (Sort.ahead w n) gb 0 (tailN zs).toArray) os).heap.size := by rw [hheap]; simp
    have hown : ∀ b, own1 (.slice (some ⟨gb, 0, none⟩) zs.length cap) b = if b = gb then 1 else 0 := fun b => by
      simp [own1, Value.ownBlock, eq_comm]
    have hne : ∀ b, Φ b → b ≠ gb := fun b hb1 e1 => by
      have h1 := hinv.apart b hb1; have := hfv b; rw [hown b, if_pos e1] at this; omega
    have hcellR : ∀ j x, (nrm zs)[j]? = some x → (grow (putRow encStr (Sort.ahead w n) gb 0 (tailN zs).toArray) os).cell? ⟨gb, j, none⟩ = some (encStr x) := by
      intro j x hj
      have hj1 : j < (nrm zs).length := (List.getElem?_eq_some_iff.1 hj).1
      have hj2 : j < (tailN zs).toArray.size := by
        have := nrm_len zs
        have := tailN_len zs
        simp; omega
      have hb2 : gb < (putRow encStr (Sort.ahead w n) gb 0 (tailN zs).toArray).heap.size := by simpa [putRow, mapBlock, Sort.ahead] using hg0
      rw [cell?_grow _ _ _ hb2]
      have := cell?_putRow encStr (Sort.ahead w n) gb 0 zs.toArray (tailN zs).toArray (holds_ahead _ _ _ _ _ _ hH) (by simp [tailN_len]) j hj2
      rw [Nat.zero_add] at this
      rw [this, getElem!_pos _ j hj2]
      have e : (tailN zs)[j]? = some x := by
        unfold tailN
        rw [List.getElem?_append_left hj1, hj]
      have := (List.getElem?_eq_some_iff.1 e).2
      simp [this]
    refine ⟨_, fun b => Φ b ∨ b = gb, fun _ => 0, fun _ => 0, rfl, ⟨rfl, rfl, rfl, hsz, fun b hb1 hb2 => hother b hb1 fun e1 => ?_⟩, fun _ h => .inl h, fun b h => ?_, ?_, rfl, ?_, rfl, ?_, fun b h => by simp at h⟩
    · have := hfv b; rw [hown b, if_pos e1] at this; omega
    · rcases h with h | h
      · exact .inl h
      · exact .inr (.inl (by rw [hfv b, hown b, if_pos h]; exact Nat.le_refl _))
    · simp only [VR]
      refine ⟨⟨_, _, rfl, Nat.le_refl _, (fun h => nomatch h), FC_of _ _ _ fun i c hi => ?_⟩, fun _ => trivial⟩
      rw [flat1, Cs_map, List.map_map, List.getElem?_map] at hi
      cases hx1 : (nrm zs)[i]? with
      | none => rw [hx1] at hi; cases hi
      | some x =>
        rw [hx1] at hi
        obtain rfl := Option.some.inj hi
        refine ⟨⟨gb, 0, none⟩, encStr x, rfl, .inr rfl, ?_, by simp [isFz], fun f hf => ?_⟩
        · have := hcellR i x hx1
          simpa [add_lit] using this
        · simp only [Function.comp, C_S, VR]
          exact ⟨trivial, hf⟩
    · exact CR_one (v := .gone) (by simp only [VR]; intro b; trivial)
    · refine ⟨fun b => by simp, fun b hb => by simp at hb, fun b hb => ?_, fun b _ => by simp, tabs_keep hinv.tab (fun b hb => hother b (hinv.fz b hb) (hne b hb)) (fun _ h => .inl h)⟩
      rcases hb with hb | rfl
      · exact Nat.lt_of_lt_of_le (hinv.fz b hb) hsz
      · exact Nat.lt_of_lt_of_le hg0 hsz
theorem plOrd : plainFn prog 225 = true := by kernel_rfl
end Go.AmC

/- Part of a proof: see the last text of this folder. -/
set_option linter.unusedSimpArgs false
set_option linter.unusedVariables false
set_option maxRecDepth 20000
set_option maxHeartbeats 4000000
namespace Go.AmC
open Go Go.AM
open Go.Proofs.Tryz (prog)
structure Cap {α : Type} (cp : α → List AV) (ss : List Nat) : Prop where
  st : ∀ a, stampL 1 (cp a) = some (cp a, ss)
  re : ∀ a, reSts ss ((cp a).take ss.length) = cp a
  ln : ∀ a, (cp a).length = ss.length
  fz : ∀ a, (cp a).all isFz = false
  hr : ∀ a, hrs (cp a) = false
  rf : ∀ a, (cp a).any isRef1 = false
  ins : ∀ a, (cp a).all inSt = true
  lz : ∀ a g r p o, lz1 r p o (.fn g (cp a)) = .pf r p o
  dr : ∀ a, (cp a).drop ss.length = []
  ox : ∀ a g x rest, (∀ s, isS s x = false) → (∀ s, takeI s x = none) → outsX (x :: .fn g (cp a) :: rest) ss = some (cp a)
  nz : ∀ s ∈ ss, s ≠ 0
  nm : ∀ a, num 1 (cp a) = ss.zip (cp a)
section
variable {α : Type} {cp : α → List AV} {ss : List Nat} {g : Nat}
def foldE (step : α → Exp → α) : α → Exp → α
  | a, ⟨K, N, S, L⟩ => step (L.foldl (foldE step) a) ⟨K, N, S, L⟩
theorem foldE_eq (step : α → Exp → α) (a : α) (e : Exp) : foldE step a e = step (e.L.foldl (foldE step) a) e := by cases e; rw [foldE]
theorem foldE_m {step : α → Exp → α} {m : α → Nat} (hm : ∀ a e, m (step a e) ≤ m a + 1) : ∀ (e : Exp) (a : α), m (foldE step a e) ≤ m a + (1 + e.tot) := Exp.ind fun e ih a => by
  have key : ∀ (L : List Exp), (∀ y ∈ L, ∀ a, m (foldE step a y) ≤ m a + (1 + y.tot)) → ∀ a, m (L.foldl (foldE step) a) ≤ m a + (L.length + (L.map Exp.tot).sum) := by
    intro L
    induction L with
    | nil => intro _ a; simp
    | cons y L ihL =>
      intro h a
      have h1 := h y (by simp) a
      have h2 := ihL (fun z hz => h z (by simp [hz])) (foldE step a y)
      simp only [List.foldl_cons, List.length_cons, List.map_cons, List.sum_cons]
      omega
  have h1 := key e.L ih a
  have h2 := hm (e.L.foldl (foldE step) a) e
  have h3 := e.tot_eq
  rw [foldE_eq]; omega
theorem each_exp (hc : Cap cp ss) (hp : plainFn prog g = true) (step : α → Exp → α) (m : α → Nat) (B : Nat) (hm : ∀ a e, m (step a e) ≤ m a + 1)
    (hstep : ∀ a e, m a + 1 ≤ B → e.tot ≤ 5000000 → Says prog g (.agg (Cs e.d) :: cp a) (.tup [] []) (num 1 (cp (step a e)))) :
    ∀ e : Exp, e.tot ≤ 5000000 → ∀ a, m a + (1 + e.tot) ≤ B → Says prog 320 [.agg (Cs e.d), .fn g (cp a)] (.tup [] []) (num 1 (cp (foldE step a e))) := Exp.ind fun e ih he a ha => by
  have ht := e.tot_eq
  have pE : plainFn prog 320 = true := by kernel_rfl
  rw [hc.nm]
  refine Fn_GM ss (cp (foldE step a e)) Go.Proofs.Tryz.func320 ok320 hc.nz ?_
  simp [v320, r320, ↓hc.rf]
  refine G_for (l := l320_0) (b := b320_0) rfl [7] (fun i => [(1, .fn g (cp ((e.L.take i).foldl (foldE step) a))), (5, .int .i64 i)]) (fun i => m ((e.L.take i).foldl (foldE step) a) ≤ m a + (i + ((e.L.take i).map Exp.tot).sum)) e.L.length (by simp) (by simp) ?_ ?_
  · intro i hi hI q hn hx hr
    obtain ⟨y, hy0⟩ := get_some hi
    have hrow := row_drop Exp.d 4 Exp.d_len hy0
    have hw := wrap_succ (i := i) (by omega)
    have hym := List.mem_of_getElem? hy0
    have hs := sum_take Exp.tot hy0
    have hle := AM.sum_take_le Exp.tot e.L (i + 1)
    have hyt := mem_sum Exp.tot hym
    have fy := ih y hym (by omega) ((e.L.take i).foldl (foldE step) a) (by omega)
    have ht1 : (e.L.take (i + 1)).foldl (foldE step) a = foldE step ((e.L.take i).foldl (foldE step) a) y := by rw [List.take_add_one, hy0]; simp
    have hm1 := foldE_m hm y ((e.L.take i).foldl (foldE step) a)
    rw [ht1] at hn
    rw [hs] at hn hle
    generalize (e.L.take i).foldl (foldE step) a = a1 at hn hI fy hm1 ⊢
    generalize foldE step a1 y = a2 at hn fy hm1
    simp at fy
    simp [hi, Cs_drop, hrow, splice, ↓hc.lz, ↓hc.rf, ↓hc.st, ↓hc.fz, ↓hc.hr, ↓hc.re, ↓hc.ln, ↓hc.ins, ↓hc.dr]
    refine callM (cp a2) pE fy ?_
    simp [↓hc.lz, ↓hc.rf, ↓hc.st, ↓hc.fz, ↓hc.hr, ↓hc.re, ↓hc.ln, ↓hc.ins, ↓hc.dr, hw]
    refine hn _ ?_ (by omega)
    simp
  · intro hI q hx hr
    rw [List.take_length] at hI ⊢
    have fy := hstep (e.L.foldl (foldE step) a) e (by omega) he
    have he2 := foldE_eq step a e
    rw [← he2] at fy
    clear he2
    generalize e.L.foldl (foldE step) a = a1 at fy ⊢
    generalize foldE step a e = a2 at fy hx hr ⊢
    simp at fy
    simp [↓hc.lz, ↓hc.rf, ↓hc.st, ↓hc.fz, ↓hc.hr, ↓hc.re, ↓hc.ln, ↓hc.ins, ↓hc.dr]
    refine hx _ _ ?_
    simp [splice, ↓hc.lz, ↓hc.rf, ↓hc.st, ↓hc.fz, ↓hc.hr, ↓hc.re, ↓hc.ln, ↓hc.ins, ↓hc.dr]
    refine callM (cp a2) hp fy ?_
    simp [↓hc.lz, ↓hc.rf, ↓hc.st, ↓hc.fz, ↓hc.hr, ↓hc.re, ↓hc.ln, ↓hc.ins, ↓hc.dr]
    rw [hc.ox _ _ _ _ (fun s => by simp) (fun s => by simp)]
def foldS (step : α → Stmt → α) : α → Stmt → α
  | a, ⟨K, S, At, E, Lo, Hi, B⟩ => B.foldl (foldS step) (step a ⟨K, S, At, E, Lo, Hi, B⟩)
theorem foldS_eq (step : α → Stmt → α) (a : α) (x : Stmt) : foldS step a x = x.Body.foldl (foldS step) (step a x) := by cases x; rw [foldS]
theorem foldS_m {step : α → Stmt → α} {m : α → Nat} {w : Stmt → Nat} (hm : ∀ a x, m (step a x) ≤ m a + w x) {wt : Stmt → Nat} (hw : ∀ x, w x + (x.Body.map wt).sum ≤ wt x) : ∀ (x : Stmt) (a : α), m (foldS step a x) ≤ m a + wt x := Stmt.ind fun x ih a => by
  have key : ∀ (L : List Stmt), (∀ y ∈ L, ∀ a, m (foldS step a y) ≤ m a + wt y) → ∀ a, m (L.foldl (foldS step) a) ≤ m a + (L.map wt).sum := by
    intro L
    induction L with
    | nil => intro _ a; simp
    | cons y L ihL =>
      intro h a
      have h1 := h y (by simp) a
      have h2 := ihL (fun z hz => h z (by simp [hz])) (foldS step a y)
      simp only [List.foldl_cons, List.map_cons, List.sum_cons]
      omega
  have h1 := key x.Body ih (step a x)
  have h2 := hm a x
  have h3 := hw x
  rw [foldS_eq]; omega
theorem each_stmt1 (hc : Cap cp ss) (hp : plainFn prog g = true) (step : α → Stmt → α) (m : α → Nat) (B : Nat) (w : Stmt → Nat) (hm : ∀ a x, m (step a x) ≤ m a + w x) (wt : Stmt → Nat) (hw : ∀ x, w x + (x.Body.map wt).sum ≤ wt x)
    (hstep : ∀ a x, m a + w x ≤ B → x.tot ≤ 5000000 → Says prog g (.agg (Cs x.d) :: cp a) (.tup [] []) (num 1 (cp (step a x))))
    (l : List Stmt) (hl : l.length + (l.map Stmt.tot).sum ≤ 5000000) (hrec : ∀ x ∈ l, ∀ a, m a + (x.Body.map wt).sum ≤ B → Says prog 260 [.rsl x.Body.length (Cs (x.Body.flatMap Stmt.d)), .fn g (cp a)] (.tup [] []) (num 1 (cp (x.Body.foldl (foldS step) a))))
    (a : α) (ha : m a + (l.map wt).sum ≤ B) : Says prog 260 [.rsl l.length (Cs (l.flatMap Stmt.d)), .fn g (cp a)] (.tup [] []) (num 1 (cp (l.foldl (foldS step) a))) := by
  have pE : plainFn prog 260 = true := by kernel_rfl
  rw [hc.nm]
  refine Fn_GM ss (cp (l.foldl (foldS step) a)) Go.Proofs.Tryz.func260 ok260 hc.nz ?_
  simp [v260, r260, ↓hc.lz, ↓hc.rf, ↓hc.st, ↓hc.fz, ↓hc.hr, ↓hc.re, ↓hc.ln, ↓hc.ins, ↓hc.dr]
  refine G_for (l := l260_0) (b := b260_0) rfl [6] (fun i => [(1, .fn g (cp ((l.take i).foldl (foldS step) a))), (4, .int .i64 i)]) (fun i => m ((l.take i).foldl (foldS step) a) ≤ m a + ((l.take i).map wt).sum) l.length (by simp) (by simp) ?_ ?_
  · intro i hi hI q hn hx hr
    obtain ⟨y, hy0⟩ := get_some hi
    have hrow := row_drop Stmt.d 19 Stmt.d_len hy0
    have hwi := wrap_succ (i := i) (by omega)
    have hym := List.mem_of_getElem? hy0
    have hs := sum_take wt hy0
    have hle := AM.sum_take_le wt l (i + 1)
    have hyt := mem_sum Stmt.tot hym
    have hwy := hw y
    have fy := hstep ((l.take i).foldl (foldS step) a) y (by omega) (by omega)
    have hm0 := hm ((l.take i).foldl (foldS step) a) y
    have fz := hrec y hym (step ((l.take i).foldl (foldS step) a) y) (by omega)
    have ht1 : (l.take (i + 1)).foldl (foldS step) a = y.Body.foldl (foldS step) (step ((l.take i).foldl (foldS step) a) y) := by rw [List.take_add_one, hy0, ← foldS_eq]; simp
    have hm1 := foldS_m hm hw y ((l.take i).foldl (foldS step) a)
    rw [foldS_eq] at hm1
    rw [ht1] at hn
    rw [hs] at hn hle
    generalize (l.take i).foldl (foldS step) a = a1 at hn hI fy fz hm1 ⊢
    generalize y.Body.foldl (foldS step) (step a1 y) = a3 at hn fz hm1
    generalize step a1 y = a2 at fy fz
    simp at fy fz
    simp [hi, Cs_drop, hrow, splice, ↓hc.lz, ↓hc.rf, ↓hc.st, ↓hc.fz, ↓hc.hr, ↓hc.re, ↓hc.ln, ↓hc.ins, ↓hc.dr]
    refine callM (cp a2) hp fy ?_
    simp [↓hc.lz, ↓hc.rf, ↓hc.st, ↓hc.fz, ↓hc.hr, ↓hc.re, ↓hc.ln, ↓hc.ins, ↓hc.dr]
    refine callM (cp a3) pE fz ?_
    simp [↓hc.lz, ↓hc.rf, ↓hc.st, ↓hc.fz, ↓hc.hr, ↓hc.re, ↓hc.ln, ↓hc.ins, ↓hc.dr, hwi]
    refine hn _ ?_ (by omega)
    simp
  · intro hI q hx hr
    rw [List.take_length] at hI ⊢
    generalize l.foldl (foldS step) a = a1 at hx hr ⊢
    simp [↓hc.lz, ↓hc.rf, ↓hc.st, ↓hc.fz, ↓hc.hr, ↓hc.re, ↓hc.ln, ↓hc.ins, ↓hc.dr]
    refine hx _ _ ?_
    simp [↓hc.lz, ↓hc.rf, ↓hc.st, ↓hc.fz, ↓hc.hr, ↓hc.re, ↓hc.ln, ↓hc.ins, ↓hc.dr]
    rw [hc.ox _ _ _ _ (fun s => by simp) (fun s => by simp)]
theorem each_stmtB (hc : Cap cp ss) (hp : plainFn prog g = true) (step : α → Stmt → α) (m : α → Nat) (B : Nat) (w : Stmt → Nat) (hm : ∀ a x, m (step a x) ≤ m a + w x) (wt : Stmt → Nat) (hw : ∀ x, w x + (x.Body.map wt).sum ≤ wt x)
    (hstep : ∀ a x, m a + w x ≤ B → x.tot ≤ 5000000 → Says prog g (.agg (Cs x.d) :: cp a) (.tup [] []) (num 1 (cp (step a x)))) :
    ∀ x : Stmt, x.tot ≤ 5000000 → ∀ a, m a + (x.Body.map wt).sum ≤ B → Says prog 260 [.rsl x.Body.length (Cs (x.Body.flatMap Stmt.d)), .fn g (cp a)] (.tup [] []) (num 1 (cp (x.Body.foldl (foldS step) a))) := Stmt.ind fun x ih hx a ha => by
  have ht := x.tot_eq
  exact each_stmt1 hc hp step m B w hm wt hw hstep x.Body (by omega) (fun y hy => ih y hy (by have := mem_sum Stmt.tot hy; omega)) a ha
theorem each_stmt (hc : Cap cp ss) (hp : plainFn prog g = true) (step : α → Stmt → α) (m : α → Nat) (B : Nat) (w : Stmt → Nat) (hm : ∀ a x, m (step a x) ≤ m a + w x) (wt : Stmt → Nat) (hw : ∀ x, w x + (x.Body.map wt).sum ≤ wt x)
    (hstep : ∀ a x, m a + w x ≤ B → x.tot ≤ 5000000 → Says prog g (.agg (Cs x.d) :: cp a) (.tup [] []) (num 1 (cp (step a x))))
    (l : List Stmt) (hl : l.length + (l.map Stmt.tot).sum ≤ 5000000) (a : α) (ha : m a + (l.map wt).sum ≤ B) : Says prog 260 [.rsl l.length (Cs (l.flatMap Stmt.d)), .fn g (cp a)] (.tup [] []) (num 1 (cp (l.foldl (foldS step) a))) :=
  each_stmt1 hc hp step m B w hm wt hw hstep l hl (fun x hx => each_stmtB hc hp step m B w hm wt hw hstep x (by have := mem_sum Stmt.tot hx; omega)) a ha
end
end Go.AmC

/- Part of a proof: see the last text of this folder. -/
set_option linter.unusedSimpArgs false
set_option linter.unusedVariables false
set_option maxRecDepth 20000
set_option maxHeartbeats 4000000
namespace Go.AmC
open Go Go.AM
open Go.Proofs.Tryz (prog)
section
variable {α : Type} {cp : α → List AV} {ss : List Nat} {g : Nat}
def partsL (x : Stmt) : List Exp := [x.At, x.E, x.Lo, x.Hi]
def foldP (step : α → Exp → α) (a : α) (x : Stmt) : α := (partsL x).foldl (foldE step) a
theorem foldP_m {step : α → Exp → α} {m : α → Nat} (hm : ∀ a e, m (step a e) ≤ m a + 1) (x : Stmt) (a : α) : m (foldP step a x) ≤ m a + (4 + (x.At.tot + x.E.tot + x.Lo.tot + x.Hi.tot)) := by
  have h1 := foldE_m hm x.At a
  have h2 := foldE_m hm x.E (foldE step a x.At)
  have h3 := foldE_m hm x.Lo (foldE step (foldE step a x.At) x.E)
  have h4 := foldE_m hm x.Hi (foldE step (foldE step (foldE step a x.At) x.E) x.Lo)
  show m (foldE step (foldE step (foldE step (foldE step a x.At) x.E) x.Lo) x.Hi) ≤ _
  omega
theorem each_part (hc : Cap cp ss) (hp : plainFn prog g = true) (step : α → Exp → α) (m : α → Nat) (B : Nat) (hm : ∀ a e, m (step a e) ≤ m a + 1)
    (hstep : ∀ a e, m a + 1 ≤ B → e.tot ≤ 5000000 → Says prog g (.agg (Cs e.d) :: cp a) (.tup [] []) (num 1 (cp (step a e))))
    (x : Stmt) (hx : x.tot ≤ 5000000) (a : α) (ha : m a + (4 + (x.At.tot + x.E.tot + x.Lo.tot + x.Hi.tot)) ≤ B) : Says prog 262 [.agg (Cs x.d), .fn g (cp a)] (.tup [] []) (num 1 (cp (foldP step a x))) := by
  have ht := x.tot_eq
  have pE : plainFn prog 320 = true := by kernel_rfl
  rw [hc.nm]
  refine Fn_GM ss (cp (foldP step a x)) Go.Proofs.Tryz.func262 ok262 hc.nz ?_
  simp [v262, r262, splice, ↓hc.lz, ↓hc.rf, ↓hc.st, ↓hc.fz, ↓hc.hr, ↓hc.re, ↓hc.ln, ↓hc.ins, ↓hc.dr]
  refine G_for (l := l262_0) (b := b262_0) rfl [6] (fun i => [(1, .fn g (cp (((partsL x).take i).foldl (foldE step) a))), (4, .int .i64 i)]) (fun i => m (((partsL x).take i).foldl (foldE step) a) ≤ m a + (i + (((partsL x).take i).map Exp.tot).sum)) 4 (by simp) (by simp) ?_ ?_
  · intro i hi hI q hn hx2 hr
    obtain ⟨y, hy0⟩ := get_some (xs := partsL x) (i := i) hi
    have hw := wrap_succ (i := i) (by omega)
    have hym := List.mem_of_getElem? hy0
    have hs := sum_take Exp.tot hy0
    have hle := AM.sum_take_le Exp.tot (partsL x) (i + 1)
    have hsum : ((partsL x).map Exp.tot).sum = x.At.tot + x.E.tot + x.Lo.tot + x.Hi.tot := by simp [partsL]; omega
    have hyt := mem_sum Exp.tot hym
    have fy := each_exp hc hp step m B hm hstep y (by omega) (((partsL x).take i).foldl (foldE step) a) (by omega)
    have ht1 : ((partsL x).take (i + 1)).foldl (foldE step) a = foldE step (((partsL x).take i).foldl (foldE step) a) y := by rw [List.take_add_one, hy0]; simp
    have hm1 := foldE_m hm y (((partsL x).take i).foldl (foldE step) a)
    rw [ht1] at hn
    rw [hs] at hn hle
    generalize (((partsL x).take i).map Exp.tot).sum = T at hn hI hle
    generalize ((partsL x).take i).foldl (foldE step) a = a1 at hn hI fy hm1 ⊢
    generalize foldE step a1 y = a2 at hn fy hm1
    have hq : i = 0 ∨ i = 1 ∨ i = 2 ∨ i = 3 := by omega
    rcases hq with rfl | rfl | rfl | rfl
    all_goals
      simp [partsL] at hy0
      subst hy0
      simp at fy
      have hw' := hw
      simp at hw'
      simp [splice, ↓hc.lz, ↓hc.rf, ↓hc.st, ↓hc.fz, ↓hc.hr, ↓hc.re, ↓hc.ln, ↓hc.ins, ↓hc.dr]
      refine callM (cp a2) pE fy ?_
      simp [↓hc.lz, ↓hc.rf, ↓hc.st, ↓hc.fz, ↓hc.hr, ↓hc.re, ↓hc.ln, ↓hc.ins, ↓hc.dr, hw']
      refine hn _ ?_ (by omega)
      simp
  · intro hI q hx2 hr
    have e4 : (partsL x).take 4 = partsL x := rfl
    rw [e4]
    simp [↓hc.lz, ↓hc.rf, ↓hc.st, ↓hc.fz, ↓hc.hr, ↓hc.re, ↓hc.ln, ↓hc.ins, ↓hc.dr]
    refine hx2 _ _ ?_
    simp [↓hc.lz, ↓hc.rf, ↓hc.st, ↓hc.fz, ↓hc.hr, ↓hc.re, ↓hc.ln, ↓hc.ins, ↓hc.dr]
    rw [hc.ox _ _ _ _ (fun s => by simp) (fun s => by simp)]
    rfl
end
end Go.AmC

/- Part of a proof: see the last text of this folder. -/
set_option linter.unusedSimpArgs false
set_option linter.unusedVariables false
set_option maxRecDepth 20000
set_option maxHeartbeats 4000000
namespace Go.AmC
open Go Go.AM
open Go.Proofs.Tryz (prog)
def stepC {β : Type} (f : β → List Nm) (o : List Nm) (x : β) : List Nm := o ++ f x
def colS (f : Stmt → List Nm) (l : List Stmt) : List Nm := l.foldl (foldS (stepC f)) []
theorem foldS_col (f : Stmt → List Nm) : ∀ (x : Stmt) (o : List Nm), foldS (stepC f) o x = o ++ foldS (stepC f) [] x := Stmt.ind fun x ih o => by
  have key : ∀ (L : List Stmt), (∀ y ∈ L, ∀ o, foldS (stepC f) o y = o ++ foldS (stepC f) [] y) → ∀ o, L.foldl (foldS (stepC f)) o = o ++ L.foldl (foldS (stepC f)) [] := by
    intro L
    induction L with
    | nil => intro _ o; simp
    | cons y L ihL =>
      intro h o
      have e1 := h y (by simp) o
      have e2 := ihL (fun z hz => h z (by simp [hz])) (foldS (stepC f) o y)
      have e3 := ihL (fun z hz => h z (by simp [hz])) (foldS (stepC f) [] y)
      rw [List.foldl_cons, List.foldl_cons, e2, e3, e1, List.append_assoc]
  rw [foldS_eq, foldS_eq, key x.Body ih, key x.Body ih (stepC f [] x)]
  simp [stepC]
theorem foldl_col (f : Stmt → List Nm) (l : List Stmt) : ∀ (o : List Nm), l.foldl (foldS (stepC f)) o = o ++ colS f l := by
  induction l with
  | nil => intro o; simp [colS]
  | cons y l ih =>
    intro o
    show (l.foldl (foldS (stepC f)) (foldS (stepC f) o y)) = o ++ l.foldl (foldS (stepC f)) (foldS (stepC f) [] y)
    rw [ih, ih (foldS (stepC f) [] y), foldS_col f y o, List.append_assoc]
theorem colS_cons (f : Stmt → List Nm) (x : Stmt) (l : List Stmt) : colS f (x :: l) = f x ++ (colS f x.Body ++ colS f l) := by
  show l.foldl (foldS (stepC f)) (foldS (stepC f) [] x) = _
  rw [foldl_col, foldS_eq, foldl_col]
  simp [stepC]
def stepP (f : Stmt → List Nm) (o : List Nm) (x : Stmt) : List Nm := putAll o (f x)
theorem foldS_put (f : Stmt → List Nm) : ∀ (x : Stmt) (o : List Nm), foldS (stepP f) o x = putAll o (f x ++ colS f x.Body) := Stmt.ind fun x ih o => by
  have key : ∀ (L : List Stmt), (∀ y ∈ L, ∀ o, foldS (stepP f) o y = putAll o (f y ++ colS f y.Body)) → ∀ o, L.foldl (foldS (stepP f)) o = putAll o (colS f L) := by
    intro L
    induction L with
    | nil => intro _ o; simp [colS, putAll]
    | cons y L ihL =>
      intro h o
      have e1 := h y (by simp) o
      have e2 := ihL (fun z hz => h z (by simp [hz])) (foldS (stepP f) o y)
      rw [List.foldl_cons, e2, e1, colS_cons, ← putAll_append, List.append_assoc]
  rw [foldS_eq, key x.Body ih]
  show putAll (putAll o (f x)) _ = _
  rw [← putAll_append]
theorem foldl_put (f : Stmt → List Nm) (l : List Stmt) : ∀ (o : List Nm), l.foldl (foldS (stepP f)) o = putAll o (colS f l) := by
  induction l with
  | nil => intro o; simp [colS, putAll]
  | cons y l ih =>
    intro o
    rw [List.foldl_cons, ih, foldS_put, colS_cons, ← putAll_append, List.append_assoc]
theorem colS_mem {f g : Stmt → List Nm} (h : ∀ x n, n ∈ f x ↔ n ∈ g x) : ∀ (l : List Stmt) (n : Nm), n ∈ colS f l ↔ n ∈ colS g l := by
  have key : ∀ x : Stmt, ∀ n, n ∈ colS f x.Body ↔ n ∈ colS g x.Body := Stmt.ind fun x ih n => by
    have : ∀ L : List Stmt, (∀ y ∈ L, ∀ n, n ∈ colS f y.Body ↔ n ∈ colS g y.Body) → (n ∈ colS f L ↔ n ∈ colS g L) := by
      intro L
      induction L with
      | nil => intro _; rfl
      | cons y L ihL =>
        intro hy
        rw [colS_cons, colS_cons, List.mem_append, List.mem_append, List.mem_append, List.mem_append, h y n, hy y (by simp) n, ihL fun z hz => hy z (by simp [hz])]
    exact this x.Body ih
  intro l n
  induction l with
  | nil => rfl
  | cons y L ihL => rw [colS_cons, colS_cons, List.mem_append, List.mem_append, List.mem_append, List.mem_append, h y n, key y n, ihL]
def ofK (k : Int) (x : Stmt) : List Nm := if x.K = k then [x.S] else []
def cpN (k : Int) (o : List Nm) : List AV := [.bx 1 3 [.int .i64 k], .bx 2 137 [.osl 0 9 o.length (Ows (o.flatMap dStr))]]
theorem capN (k : Int) : Cap (cpN k) [1, 2] where
  st a := by simp [cpN]
  re a := by simp [cpN]
  ln a := by simp [cpN]
  fz a := by simp [cpN, isFz]
  hr a := by simp [cpN]
  rf a := by simp [cpN]
  ins a := by simp [cpN]
  lz a g r p o := by simp [cpN, lz1]
  dr a := by simp [cpN]
  ox a g x rest h1 h2 := by
    simp [cpN, ↓h1, ↓h2]
  nz s hs := by simp at hs; omega
  nm a := by simp [cpN]
theorem ofK_le (k : Int) (o : List Nm) (x : Stmt) : (stepC (ofK k) o x).length ≤ o.length + 1 := by
  unfold stepC ofK
  split <;> simp
theorem names1 (k : Int) (o : List Nm) (x : Stmt) (ho : o.length + 1 ≤ 20000000) : Says prog 264 (.agg (Cs x.d) :: cpN k o) (.tup [] []) (num 1 (cpN k (stepC (ofK k) o x))) := by
  have hb : o.length + 1 ≤ bnd := by unfold bnd; omega
  rw [(capN k).nm]
  refine Fn_GM [1, 2] _ Go.Proofs.Tryz.func264 ok264 (capN k).nz ?_
  by_cases c : x.K = k
  · simp [v264, r264, c, cpN, stepC, ofK, splice, hb]
  · simp [v264, r264, c, cpN, stepC, ofK, splice]
theorem plEachS : plainFn prog 260 = true := by kernel_rfl
theorem wt1 (x : Stmt) : 1 + (x.Body.map fun x => 1 + x.tot).sum ≤ 1 + x.tot := by
  have h : ∀ l : List Stmt, (l.map fun x => 1 + x.tot).sum = l.length + (l.map Stmt.tot).sum := by
    intro l
    induction l with
    | nil => simp
    | cons y l ih => simp only [List.map_cons, List.sum_cons, List.length_cons, ih]; omega
  have := h x.Body
  have := x.tot_eq
  omega
theorem wt1_sum (l : List Stmt) : (l.map fun x => 1 + x.tot).sum = l.length + (l.map Stmt.tot).sum := by
  induction l with
  | nil => simp
  | cons y l ih => simp only [List.map_cons, List.sum_cons, List.length_cons, ih]; omega
theorem namesOf_impl (l : List Stmt) (hl : l.length + (l.map Stmt.tot).sum ≤ 5000000) (k : Int) :
    Says prog 196 [.rsl l.length (Cs (l.flatMap Stmt.d)), .int .i64 k] (.rsl (nrm (colS (ofK k) l)).length (Cs ((nrm (colS (ofK k) l)).flatMap dStr))) [] := by
  have fE := each_stmt (g := 264) (capN k) (by kernel_rfl) (stepC (ofK k)) List.length 20000000 (fun _ => 1) (fun a x => ofK_le k a x) (fun x => 1 + x.tot) wt1 (fun a x ha _ => names1 k a x ha) l hl [] (by rw [wt1_sum]; simp; omega)
  have hlen : (colS (ofK k) l).length ≤ 5000000 := by
    have key : ∀ (x : Stmt) (a : List Nm), (foldS (stepC (ofK k)) a x).length ≤ a.length + (1 + x.tot) := foldS_m (m := List.length) (w := fun _ => 1) (fun a x => ofK_le k a x) wt1
    have : ∀ (L : List Stmt) (a : List Nm), (L.foldl (foldS (stepC (ofK k))) a).length ≤ a.length + (L.length + (L.map Stmt.tot).sum) := by
      intro L
      induction L with
      | nil => intro a; simp
      | cons y L ih =>
        intro a
        have h1 := ih (foldS (stepC (ofK k)) a y)
        have h2 := key y a
        simp only [List.foldl_cons, List.length_cons, List.map_cons, List.sum_cons]
        omega
    have := this l []
    simp at this
    show (l.foldl (foldS (stepC (ofK k))) []).length ≤ _
    omega
  change Says _ _ _ _ (num 1 (cpN k (colS (ofK k) l))) at fE
  have fO := ordered_says (colS (ofK k) l) (by omega)
  refine Fn_G Go.Proofs.Tryz.func196 ok196 ?_
  generalize colS (ofK k) l = R at fE fO ⊢
  simp [cpN] at fE
  try simp at fO
  simp [v196, r196]
  refine callM [_, _] plEachS fE ?_
  simp
  refine callM [_] plOrd fO ?_
  simp [↓outOk_f]
end Go.AmC

