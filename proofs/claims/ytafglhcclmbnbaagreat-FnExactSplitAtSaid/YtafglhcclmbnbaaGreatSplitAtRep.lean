/- Part of a proof: see the last text of this folder. -/
import Derived.Shelf.RegionOpenPlain
import Derived.WalkKit
import Derived.Lib.Walk
import Derived.Lib.SliceRun
import Derived.Lib.JoinLaws
import Derived.Lib.AppendZeros
import Derived.Lib.AppendZerosOnto
import Derived.Lib.Overlaps
import Derived.Laws.Externs
import Derived.Laws.CopyRow
import Derived.Test.YtafglhcclmbnbaaGreatAmLib
import Derived.Test.YtafglhcclmbnbaaGreatSplitAtCnt
/- Part of a proof: see the last text of this folder. -/
set_option linter.unusedSimpArgs false
set_option linter.unusedVariables false
set_option maxRecDepth 100000
set_option maxHeartbeats 4000000
namespace Go.AmC
open Go Go.Proofs Go.RowKit Go.Lib
open Go.Proofs.Tryz (prog)
theorem run_copy_rowN {P : Program} (w : World) (dT sT ty elem : TypeId) (k : Nat) (g o dLen dCap : Nat) (a : Addr) (sLen sCap : Nat) (cur : Array Value) (t : TypeId) (cs : List Value) (mn : Nat) (hmn : Nat.min sLen dLen = mn)
    (hu : P.underlying dT = some (.slice elem)) (hs : (P.info? elem).map (·.size) = some k)
    (hg : w.heap[g]? = some (.cells cur t (0, 0))) (hn : cs.length = mn * k)
    (hsrc : ∀ j v, cs[j]? = some v → w.cell? (a.add j) = some v) (hfit : o + cs.length ≤ cur.size) (h1 : ∀ v ∈ cs, v.oneCell' = true) :
    (Builtin.copy_ #[dT, sT] ty #[.slice (some ⟨g, o, none⟩) dLen dCap, .slice (some a) sLen sCap]).run P w =
      .ok (goInt mn) (w.setRow g (cur.toList.take o ++ cs ++ cur.toList.drop (o + cs.length)).toArray) := by
  have hl := run_loadCells_list (P := P) w a cs hsrc
  have hst := run_storeCells_at P g o t cs 0 cur w hg (by simpa using hfit) h1
  cases hq : P.info? elem with
  | none => simp [hq] at hs
  | some i =>
    have hi : i.size = k := by simpa [hq] using hs
    simp [Builtin.copy_, run_underlying hu, Builtin.lenOf, Builtin.firstCells, sizeOf, typeInfo, hq, hi, hmn, ← hn, hl, hst]
def RepPost (w : World) (g : Nat) (len : Nat) (row : List Value) (e : Ending) (w' : World) : Prop :=
  ∃ (g' cap' : Nat) (cur' : Array Value), e = .returned (.slice (some ⟨g', 0, none⟩) len cap') ∧ w'.heap[g']? = some (.cells cur' 74 (0, 0)) ∧ cur'.size = cap' * 19 ∧ cap' ≤ maxLen ∧ len ≤ cap' ∧
    cur'.toList.take (len * 19) = row ∧ (g' = g ∨ w.heap.size ≤ g') ∧ w'.os = w.os ∧ w'.tape = w.tape ∧ w'.output = w.output ∧ w.heap.size ≤ w'.heap.size ∧ ∀ b, b < w.heap.size → b ≠ g → w'.heap[b]? = w.heap[b]?
theorem replace_one (w : World) (g cap n i vb vc : Nat) (cur : Array Value) (v : List Value) (hi : i + 1 < n) (hn : n ≤ cap) (hm : cap ≤ maxLen) (hg : w.heap[g]? = some (.cells cur 74 (0, 0))) (hs : cur.size = cap * 19)
    (hv : v.length = 19) (hvc : ∀ j x, v[j]? = some x → w.cell? ⟨vb, j, none⟩ = some x) (hv1 : ∀ x ∈ v, x.oneCell' = true) (hc1 : ∀ x ∈ cur.toList.take (n * 19), x.oneCell' = true) (hne : vb ≠ g) :
    Calls prog 57 #[.slice (some ⟨g, 0, none⟩) n cap, .int .i64 i, .int .i64 (i + 1 : Nat), .slice (some ⟨vb, 0, none⟩) 1 vc] w
      (RepPost w g n (cur.toList.take (i * 19) ++ (v ++ (cur.toList.take (n * 19)).drop ((i + 1) * 19)))) := by
  have mixed : prog.follows Departure.mixedOrders = true := by kernel_rfl
  have q1 : i ≤ cap := by omega
  have q2 : i + 1 ≤ n := by omega
  have q3 : i + 1 ≤ cap := by omega
  have q4 : ¬ (cap = i + 1) := by omega
  have q5 : ¬ (cap = i) := by omega
  have q6 : i ≤ n := by omega
  have hM : maxLen ≤ 9223372036854775807 := by unfold maxLen; omega
  have w1 : IntKind.i64.wrap ((i : Int) + 1) = (i : Int) + 1 := by rw [IntKind.wrap_i64]; omega
  have w2 : IntKind.i64.wrap ((i : Int) + 1 + ((n - (i + 1) : Nat) : Int)) = (n : Int) := by rw [IntKind.wrap_i64]; omega
  have p1 : (0 : Int) ≤ (i : Int) + 1 := by omega
  have p2 : ((i : Int) + 1).toNat = i + 1 := by omega
  have p3 : (i : Int) + 1 ≤ (n : Int) := by omega
  have p4 : ¬ ((n : Int) > (cap : Int)) := by omega
  have hu : prog.underlying 28 = some (.slice 74) := by kernel_rfl
  have hsz : (prog.info? 74).map (·.size) = some 19 := by kernel_rfl
  have hcl : ∀ a c ty W, (Builtin.clear_ #[28] ty #[.slice a 0 c]).run prog W = .ok (.tuple #[]) W := fun a c ty W => by
    cases a <;> simp [Builtin.clear_, run_underlying hu]
  obtain ⟨row1, hrow1⟩ : ∃ r, r = (cur.toList.take (i * 19) ++ v ++ cur.toList.drop (i * 19 + v.length)).toArray := ⟨_, rfl⟩
  have hr1s : row1.size = cap * 19 := by rw [hrow1]; simp; omega
  have hcp1 : ∀ (W : World), W.heap = w.heap → ∀ ty dc, (Builtin.copy_ #[28, 28] ty #[.slice (some ⟨g, i * 19, none⟩) (n - i) dc, .slice (some ⟨vb, 0, none⟩) 1 vc]).run prog W = .ok (goInt 1) (W.setRow g row1) := fun W hW ty dc => by
    have := run_copy_rowN W 28 28 ty 74 19 g (i * 19) (n - i) dc ⟨vb, 0, none⟩ 1 vc cur 74 v 1 (by show min 1 (n - i) = 1; omega) hu hsz (by rw [hW]; exact hg) (by omega) (fun j x hj => by
      have := hvc j x hj
      simp only [World.cell?, hW] at this ⊢
      simpa [Addr.add_lit] using this) (by omega) hv1
    rw [← hrow1] at this
    exact this
  obtain ⟨cs, hcs⟩ : ∃ c, c = (cur.toList.take (n * 19)).drop ((i + 1) * 19) := ⟨_, rfl⟩
  have hcsl : cs.length = (n - (i + 1)) * 19 := by rw [hcs]; simp; omega
  obtain ⟨row2, hrow2⟩ : ∃ r, r = (row1.toList.take ((i + 1) * 19) ++ cs ++ row1.toList.drop ((i + 1) * 19 + cs.length)).toArray := ⟨_, rfl⟩
  have hget : ∀ j x, cs[j]? = some x → row1.toList[(i + 1) * 19 + j]? = some x := fun j x hj => by
    rw [hcs, List.getElem?_drop, List.getElem?_take] at hj
    split at hj
    · rw [hrow1]
      simp only [List.toList_toArray]
      rw [List.getElem?_append_right (by simp; omega), List.getElem?_drop]
      rw [← hj]; congr 1; simp; omega
    · cases hj
  have hcp2 : ∀ (W : World), W.heap = (w.setRow g row1).heap → ∀ ty dc sc, (Builtin.copy_ #[28, 28] ty #[.slice (some ⟨g, (i + 1) * 19, none⟩) (n - (i + 1)) dc, .slice (some ⟨g, (i + 1) * 19, none⟩) (n - (i + 1)) sc]).run prog W = .ok (goInt (n - (i + 1) : Nat)) (W.setRow g row2) := fun W hW ty dc sc => by
    have hg1 : W.heap[g]? = some (.cells row1 74 (0, 0)) := by rw [hW]; exact setRow_heap w g cur row1 74 (0, 0) hg
    have := run_copy_rowN W 28 28 ty 74 19 g ((i + 1) * 19) (n - (i + 1)) dc ⟨g, (i + 1) * 19, none⟩ (n - (i + 1)) sc row1 74 cs (n - (i + 1)) (Nat.min_self _) hu hsz hg1 hcsl (fun j x hj => by
      have := hget j x hj
      rw [Addr.add_lit]
      simp only [World.cell?, hg1]
      simpa using this) (by rw [hcsl]; omega) (fun x hx => hc1 x (by rw [hcs] at hx; exact List.mem_of_mem_drop hx))
    rw [← hrow2] at this
    exact this
  clear hget
  have hA : (cur.toList.take (i * 19)).length = i * 19 := by simp; omega
  have hr1t : row1.toList.take ((i + 1) * 19) = cur.toList.take (i * 19) ++ v := by
    rw [hrow1]
    exact List.take_left' (by rw [List.length_append, hA, hv]; omega)
  have hr2t : row2.toList.take (n * 19) = cur.toList.take (i * 19) ++ (v ++ (cur.toList.take (n * 19)).drop ((i + 1) * 19)) := by
    rw [hrow2, hr1t, ← hcs, ← List.append_assoc]
    exact List.take_left' (by rw [List.length_append, List.length_append, hA, hv, hcsl]; omega)
  have hr2s : row2.size = cap * 19 := by
    rw [hrow2]; simp; omega
  clear hr1t
  have hcpA := hcp1 w.drew rfl
  have hcpB := hcp2 (w.drew.setRow g row1).drew rfl
  clear hcp1 hcp2 hrow1 hrow2
  rw [← hr2t]
  clear hr2t hcs
  have fin : RepPost w g n (row2.toList.take (n * 19)) (.returned (.slice (some ⟨g, 0, none⟩) n cap)) ((w.drew.setRow g row1).drew.setRow g row2) := by
    refine ⟨g, cap, row2, rfl, setRow_heap _ g row1 row2 74 (0, 0) (setRow_heap w g cur row1 74 (0, 0) hg), hr2s, hm, hn, rfl, .inl rfl, rfl, rfl, rfl, Nat.le_of_eq (by rw [setRow_size]; exact (setRow_size w g row1).symm), fun b _ hb => ?_⟩
    rw [setRow_other _ g b _ hb]
    exact setRow_other w g b _ hb
  by_cases hcn : cap = n
  · subst hcn
    go_enter Go.Proofs.Tryz.func57, Go.Proofs.Tryz.ntmps57
    go_wp2
    go_region_o
    go_wp2
    go_region_o
    go_wp2
    all_goals (go_ret; exact fin)
  · go_enter Go.Proofs.Tryz.func57, Go.Proofs.Tryz.ntmps57
    go_wp2
    go_region_o
    go_wp2
    go_region_o
    go_wp2
    all_goals (go_ret; exact fin)
theorem replace_more (w : World) (g cap n m T i vb vc : Nat) (cur curv : Array Value) (v : List Value) (hi : i + 1 < n) (hn : n ≤ cap) (hm : cap ≤ maxLen) (hm2 : 2 ≤ m) (hT : T + 1 = n + m) (hTc : T ≤ cap) (hg : w.heap[g]? = some (.cells cur 74 (0, 0))) (hs : cur.size = cap * 19)
    (hgv : w.heap[vb]? = some (.cells curv 74 (0, 0))) (hvs : curv.size ≠ 0)
    (hv : v.length = m * 19) (hvc : ∀ j x, v[j]? = some x → w.cell? ⟨vb, j, none⟩ = some x) (hv1 : ∀ x ∈ v, x.oneCell' = true) (hc1 : ∀ x ∈ cur.toList.take (n * 19), x.oneCell' = true) (hne : vb ≠ g) :
    Calls prog 57 #[.slice (some ⟨g, 0, none⟩) n cap, .int .i64 i, .int .i64 (i + 1 : Nat), .slice (some ⟨vb, 0, none⟩) m vc] w
      (RepPost w g T (cur.toList.take (i * 19) ++ (v ++ (cur.toList.take (n * 19)).drop ((i + 1) * 19)))) := by
  have mixed : prog.follows Departure.mixedOrders = true := by kernel_rfl
  have q1 : i ≤ cap := by omega
  have q2 : i + 1 ≤ n := by omega
  have q3 : i + 1 ≤ cap := by omega
  have q4 : ¬ (cap = i + 1) := by omega
  have q5 : ¬ (cap = i) := by omega
  have q6 : i ≤ n := by omega
  have q7 : ¬ (cap = i + m) := by omega
  have q8 : i + m ≤ T := by omega
  have q9 : i ≤ T := by omega
  have hM : maxLen ≤ 9223372036854775807 := by unfold maxLen; omega
  have w1 : IntKind.i64.wrap ((i : Int) + 1) = (i : Int) + 1 := by rw [IntKind.wrap_i64]; omega
  have w3 : IntKind.i64.wrap ((i : Int) + m) = (i : Int) + m := by rw [IntKind.wrap_i64]; omega
  have w2 : IntKind.i64.wrap ((i : Int) + m + ((n - (i + 1) : Nat) : Int)) = (T : Int) := by rw [IntKind.wrap_i64]; omega
  have p1 : (0 : Int) ≤ (i : Int) + 1 := by omega
  have p2 : ((i : Int) + 1).toNat = i + 1 := by omega
  have p3 : (i : Int) + 1 ≤ (n : Int) := by omega
  have p4 : ¬ ((T : Int) > (cap : Int)) := by omega
  have p5 : ¬ ((i : Int) + m ≤ (i : Int) + 1) := by omega
  have p6 : (0 : Int) ≤ (i : Int) + m := by omega
  have p7 : ((i : Int) + m).toNat = i + m := by omega
  have p8 : (i : Int) + m ≤ (T : Int) := by omega
  have hu : prog.underlying 28 = some (.slice 74) := by kernel_rfl
  have hsz : (prog.info? 74).map (·.size) = some 19 := by kernel_rfl
  have hov : ∀ lb cb, (callFunc 121 #[.slice (some ⟨g, (i + m) * 19, none⟩) lb cb, .slice (some ⟨vb, 0, none⟩) m vc]).run prog w.drew = .ok (.value (.bool false)) w.drew := fun lb cb => by
    have hg' : w.drew.heap[g]? = some (.cells cur 74 (0, 0)) := hg
    have hgv' : w.drew.heap[vb]? = some (.cells curv 74 (0, 0)) := hgv
    rw [run_callFunc_extern Go.Proofs.Tryz.func121 (by kernel_rfl) (by kernel_rfl) (by kernel_rfl) (e := Extern.SlicesOverlaps.overlaps #[28, 28] #[4]) (by kernel_rfl),
      Lib.run_overlaps_apart w.drew 28 4 74 hu 19 Go.Proofs.Tryz.sizeOf74 ⟨g, (i + m) * 19, none⟩ ⟨vb, 0, none⟩ lb cb m vc (Ne.symm hne) 74 74 cur.size curv.size (by simp [World.shape?, hg']) (by simp [World.shape?, hgv']) hvs (by simp [World.frozen?, hg']) (by simp [World.frozen?, hg'])]
    rfl
  obtain ⟨cs, hcs⟩ : ∃ c, c = (cur.toList.take (n * 19)).drop ((i + 1) * 19) := ⟨_, rfl⟩
  have hcsl : cs.length = (n - (i + 1)) * 19 := by rw [hcs]; simp; omega
  obtain ⟨row1, hrow1⟩ : ∃ r, r = (cur.toList.take ((i + m) * 19) ++ cs ++ cur.toList.drop ((i + m) * 19 + cs.length)).toArray := ⟨_, rfl⟩
  have hr1s : row1.size = cap * 19 := by rw [hrow1]; simp; omega
  have hget : ∀ j x, cs[j]? = some x → cur.toList[(i + 1) * 19 + j]? = some x := fun j x hj => by
    rw [hcs, List.getElem?_drop, List.getElem?_take] at hj
    split at hj
    · exact hj
    · cases hj
  have hcpA : ∀ ty dc sc, (Builtin.copy_ #[28, 28] ty #[.slice (some ⟨g, (i + m) * 19, none⟩) (T - (i + m)) dc, .slice (some ⟨g, (i + 1) * 19, none⟩) (n - (i + 1)) sc]).run prog w.drew.drew = .ok (goInt (n - (i + 1) : Nat)) (w.drew.drew.setRow g row1) := fun ty dc sc => by
    have hg1 : w.drew.drew.heap[g]? = some (.cells cur 74 (0, 0)) := hg
    have := run_copy_rowN w.drew.drew 28 28 ty 74 19 g ((i + m) * 19) (T - (i + m)) dc ⟨g, (i + 1) * 19, none⟩ (n - (i + 1)) sc cur 74 cs (n - (i + 1)) (by show min (n - (i + 1)) (T - (i + m)) = _; omega) hu hsz hg1 hcsl (fun j x hj => by
      have := hget j x hj
      rw [Addr.add_lit]
      simp only [World.cell?, hg1]
      simpa using this) (by rw [hcsl]; omega) (fun x hx => hc1 x (by rw [hcs] at hx; exact List.mem_of_mem_drop hx))
    rw [← hrow1] at this
    exact this
  clear hget
  obtain ⟨row2, hrow2⟩ : ∃ r, r = (row1.toList.take (i * 19) ++ v ++ row1.toList.drop (i * 19 + v.length)).toArray := ⟨_, rfl⟩
  have hcpB : ∀ ty dc, (Builtin.copy_ #[28, 28] ty #[.slice (some ⟨g, i * 19, none⟩) (T - i) dc, .slice (some ⟨vb, 0, none⟩) m vc]).run prog (w.drew.drew.setRow g row1) = .ok (goInt m) ((w.drew.drew.setRow g row1).setRow g row2) := fun ty dc => by
    have hg1 : (w.drew.drew.setRow g row1).heap[g]? = some (.cells row1 74 (0, 0)) := setRow_heap _ g cur row1 74 (0, 0) hg
    have hgo : (w.drew.drew.setRow g row1).heap[vb]? = w.heap[vb]? := setRow_other _ g vb _ hne
    have := run_copy_rowN (w.drew.drew.setRow g row1) 28 28 ty 74 19 g (i * 19) (T - i) dc ⟨vb, 0, none⟩ m vc row1 74 v m (by show min m (T - i) = m; omega) hu hsz hg1 hv (fun j x hj => by
      have := hvc j x hj
      simp only [World.cell?, Addr.add_lit, Nat.zero_add, hgo] at this ⊢
      exact this) (by rw [hv]; omega) hv1
    rw [← hrow2] at this
    exact this
  have hA : (cur.toList.take ((i + m) * 19)).length = (i + m) * 19 := by simp; omega
  have hA2 : (cur.toList.take (i * 19)).length = i * 19 := by simp; omega
  have hr1t : row1.toList.take (i * 19) = cur.toList.take (i * 19) := by
    rw [hrow1]
    simp only [List.append_assoc]
    rw [List.take_append_of_le_length (by rw [hA]; omega), List.take_take]
    congr 1; omega
  have hr1d : row1.toList.drop (i * 19 + v.length) = cs ++ cur.toList.drop ((i + m) * 19 + cs.length) := by
    rw [hrow1, hv]
    simp only [List.append_assoc]
    exact List.drop_left' (by rw [hA]; omega)
  have hr2t : row2.toList.take (T * 19) = cur.toList.take (i * 19) ++ (v ++ (cur.toList.take (n * 19)).drop ((i + 1) * 19)) := by
    rw [hrow2, hr1t, hr1d, ← hcs]
    have e : cur.toList.take (i * 19) ++ v ++ (cs ++ cur.toList.drop ((i + m) * 19 + cs.length)) = (cur.toList.take (i * 19) ++ (v ++ cs)) ++ cur.toList.drop ((i + m) * 19 + cs.length) := by simp
    show List.take (T * 19) (cur.toList.take (i * 19) ++ v ++ (cs ++ cur.toList.drop ((i + m) * 19 + cs.length))) = _
    rw [e]
    exact List.take_left' (by rw [List.length_append, List.length_append, hA2, hv, hcsl]; omega)
  have hr2s : row2.size = cap * 19 := by
    rw [hrow2]; simp; omega
  clear hr1t hr1d hrow1 hrow2 hA hA2
  rw [← hr2t]
  clear hr2t hcs
  have fin : RepPost w g T (row2.toList.take (T * 19)) (.returned (.slice (some ⟨g, 0, none⟩) T cap)) ((w.drew.drew.setRow g row1).setRow g row2) := by
    refine ⟨g, cap, row2, rfl, setRow_heap _ g row1 row2 74 (0, 0) (setRow_heap _ g cur row1 74 (0, 0) hg), hr2s, hm, hTc, rfl, .inl rfl, rfl, rfl, rfl, Nat.le_of_eq (by rw [setRow_size, setRow_size]; rfl), fun b _ hb => ?_⟩
    rw [setRow_other _ g b _ hb]
    exact setRow_other w g b _ hb
  go_enter Go.Proofs.Tryz.func57, Go.Proofs.Tryz.ntmps57
  go_wp2
  go_region_o
  go_wp2_with (simp only [hov])
  go_region_o
  go_wp2
  go_ret
  exact fin
theorem info_stmt : ∃ i z, prog.info? 74 = some i ∧ i.zero = some z ∧ i.size = 19 ∧ z.cells.size = 19 ∧ i.bytes ≤ 32768 := by
  have h : Go.AM.elemOk prog 74 19 = true := by kernel_rfl
  unfold Go.AM.elemOk at h
  cases hi : prog.info? 74 with
  | none => rw [hi] at h; cases h
  | some i =>
    rw [hi] at h
    simp only [Bool.and_eq_true, beq_iff_eq, decide_eq_true_eq] at h
    obtain ⟨⟨⟨h1, _⟩, h2⟩, h3⟩ := h
    cases hz : i.zero with
    | none => rw [hz] at h3; cases h3
    | some z => rw [hz] at h3; exact ⟨i, z, rfl, hz, h1, by simpa using h3, h2⟩
theorem replace_grow (w : World) (g cap n m T i vb vc : Nat) (cur : Array Value) (v : List Value) (hi : i + 1 < n) (hn : n ≤ cap) (hm : cap ≤ maxLen) (hm2 : 1 ≤ m) (hT : T + 1 = n + m) (hTc : cap < T) (hTb : T ≤ 4294967296) (hg : w.heap[g]? = some (.cells cur 74 (0, 0))) (hs : cur.size = cap * 19)
    (hv : v.length = m * 19) (hvb : vb < w.heap.size) (hvc : ∀ j x, v[j]? = some x → w.cell? ⟨vb, j, none⟩ = some x) (hv1 : ∀ x ∈ v, x.oneCell' = true) (hc1 : ∀ x ∈ cur.toList.take (n * 19), x.oneCell' = true) :
    Calls prog 57 #[.slice (some ⟨g, 0, none⟩) n cap, .int .i64 i, .int .i64 (i + 1 : Nat), .slice (some ⟨vb, 0, none⟩) m vc] w
      (RepPost w g T (cur.toList.take (i * 19) ++ (v ++ (cur.toList.take (n * 19)).drop ((i + 1) * 19)))) := by
  have mixed : prog.follows Departure.mixedOrders = true := by kernel_rfl
  have hgl : g < w.heap.size := (Array.getElem?_eq_some_iff.1 hg).1
  have q1 : i ≤ cap := by omega
  have q2 : i + 1 ≤ n := by omega
  have q3 : i + 1 ≤ cap := by omega
  have q4 : ¬ (cap = i + 1) := by omega
  have q5 : ¬ (cap = i) := by omega
  have q6 : i ≤ n := by omega
  have q8 : i + m ≤ T := by omega
  have q9 : i ≤ T := by omega
  have hM : maxLen ≤ 9223372036854775807 := by unfold maxLen; omega
  have w1 : IntKind.i64.wrap ((i : Int) + 1) = (i : Int) + 1 := by rw [IntKind.wrap_i64]; omega
  have w3 : IntKind.i64.wrap ((i : Int) + m) = (i : Int) + m := by rw [IntKind.wrap_i64]; omega
  have w2 : IntKind.i64.wrap ((i : Int) + m + ((n - (i + 1) : Nat) : Int)) = (T : Int) := by rw [IntKind.wrap_i64]; omega
  have w4 : IntKind.i64.wrap ((T : Int) - i) = ((T - i : Nat) : Int) := by rw [IntKind.wrap_i64]; omega
  have p1 : (0 : Int) ≤ (i : Int) + 1 := by omega
  have p2 : ((i : Int) + 1).toNat = i + 1 := by omega
  have p3 : (i : Int) + 1 ≤ (n : Int) := by omega
  have p4 : ((T : Int) > (cap : Int)) := by omega
  have p6 : (0 : Int) ≤ (i : Int) + m := by omega
  have p7 : ((i : Int) + m).toNat = i + m := by omega
  have p8 : (i : Int) + m ≤ (T : Int) := by omega
  have hu : prog.underlying 28 = some (.slice 74) := by kernel_rfl
  have hu3 : prog.underlying 3 = some (.int .i64) := by kernel_rfl
  have hsz : (prog.info? 74).map (·.size) = some 19 := by kernel_rfl
  obtain ⟨i0, z0, hi0, hz0, hs0, hzs, hby⟩ := info_stmt
  obtain ⟨c2, hc2⟩ : ∃ c, c = grownCap w.drew T cap 74 := ⟨_, rfl⟩
  have hge := grownCap_ge w.drew T cap 74
  have hle := grownCap_le_maxLen w.drew T cap 74 (by unfold maxLen; omega)
  rw [← hc2] at hge hle
  have hA2 : (cur.toList.take (i * 19)).length = i * 19 := by simp; omega
  obtain ⟨row0, hrow0⟩ : ∃ r, r = (cur.toList.take (i * 19)).toArray ++ Builtin.zeroCells z0.cells (T - i) ++ Builtin.zeroCells z0.cells (c2 - T) := ⟨_, rfl⟩
  have hr0s : row0.size = c2 * 19 := by
    rw [hrow0]
    simp only [Array.size_append, Go.size_zeroCells, hzs, List.size_toArray, hA2]
    omega
  have hr0t : row0.toList.take (i * 19) = cur.toList.take (i * 19) := by
    rw [hrow0]
    simp only [Array.toList_append, List.append_assoc]
    exact List.take_left' hA2
  have hb1 : (T - i) * i0.bytes ≤ 4294967296 * 32768 := Nat.mul_le_mul (by omega) hby
  have hb2 : T * i0.bytes ≤ 4294967296 * 32768 := Nat.mul_le_mul hTb hby
  have hrz : ∀ ty, (Builtin.append_ #[28, 3] ty #[.slice (some ⟨g, 0, none⟩) i cap, .int .i64 ((T - i : Nat) : Int)]).run prog w.drew = .ok (.slice (some ⟨w.heap.size, 0, none⟩) T c2) (w.drew.drew.alloc (.cells row0 74)) := fun ty => by
    have := Lib.run_append_grow_zeros w.drew 28 3 ty 74 i0 z0 .i64 .i64 hu hu3 hi0 hz0 (some ⟨g, 0, none⟩) i cap (cur.toList.take (i * 19)) (run_firstCells_some w.drew.drew i0.size i ⟨g, 0, none⟩ i cap _ (by rw [hs0, hA2]) (fun j x hj => by
      rw [List.getElem?_take] at hj
      split at hj
      · rw [Addr.add_lit]
        have hg1 : w.drew.drew.heap[g]? = some (.cells cur 74 (0, 0)) := hg
        simp only [World.cell?, hg1]
        simpa using hj
      · cases hj)) (T - i) (by omega) (by omega) (by omega) (by omega) (by omega) (by
        rw [show i + (T - i) = T by omega]
        exact growslice_fits hTc (by omega))
    rw [show i + (T - i) = T by omega, ← hc2, ← hrow0] at this
    exact this
  obtain ⟨W0, hW0⟩ : ∃ W, W = w.drew.drew.alloc (.cells row0 74) := ⟨_, rfl⟩
  have hW0h : W0.heap = w.heap.push (.cells row0 74) := by rw [hW0]; rfl
  have hW0n : W0.heap[w.heap.size]? = some (.cells row0 74 (0, 0)) := by rw [hW0h, Array.getElem?_push, if_pos rfl]
  have hW0o : ∀ b, b < w.heap.size → W0.heap[b]? = w.heap[b]? := fun b hb => by rw [hW0h, Array.getElem?_push, if_neg (Nat.ne_of_lt hb)]
  have hW0p : W0.os = w.os ∧ W0.tape = w.tape ∧ W0.output = w.output := by rw [hW0]; exact ⟨rfl, rfl, rfl⟩
  rw [← hW0] at hrz
  clear hW0 hc2
  obtain ⟨N, hN⟩ : ∃ N, N = w.heap.size := ⟨_, rfl⟩
  rw [← hN] at hrz hW0n hvb hgl
  obtain ⟨row1, hrow1⟩ : ∃ r, r = (row0.toList.take (i * 19) ++ v ++ row0.toList.drop (i * 19 + v.length)).toArray := ⟨_, rfl⟩
  have hr1s : row1.size = c2 * 19 := by rw [hrow1]; simp; omega
  have hcpA : ∀ ty dc, (Builtin.copy_ #[28, 28] ty #[.slice (some ⟨N, i * 19, none⟩) (T - i) dc, .slice (some ⟨vb, 0, none⟩) m vc]).run prog W0 = .ok (goInt m) (W0.setRow N row1) := fun ty dc => by
    have := run_copy_rowN W0 28 28 ty 74 19 N (i * 19) (T - i) dc ⟨vb, 0, none⟩ m vc row0 74 v m (by show min m (T - i) = m; omega) hu hsz hW0n hv (fun j x hj => by
      have := hvc j x hj
      simp only [World.cell?, Addr.add_lit, Nat.zero_add, hW0o vb (by omega)] at this ⊢
      exact this) (by rw [hv]; omega) hv1
    rw [← hrow1] at this
    exact this
  obtain ⟨cs, hcs⟩ : ∃ c, c = (cur.toList.take (n * 19)).drop ((i + 1) * 19) := ⟨_, rfl⟩
  have hcsl : cs.length = (n - (i + 1)) * 19 := by rw [hcs]; simp; omega
  obtain ⟨row2, hrow2⟩ : ∃ r, r = (row1.toList.take ((i + m) * 19) ++ cs ++ row1.toList.drop ((i + m) * 19 + cs.length)).toArray := ⟨_, rfl⟩
  have hget : ∀ j x, cs[j]? = some x → cur.toList[(i + 1) * 19 + j]? = some x := fun j x hj => by
    rw [hcs, List.getElem?_drop, List.getElem?_take] at hj
    split at hj
    · exact hj
    · cases hj
  have hcpB : ∀ ty dc sc, (Builtin.copy_ #[28, 28] ty #[.slice (some ⟨N, (i + m) * 19, none⟩) (T - (i + m)) dc, .slice (some ⟨g, (i + 1) * 19, none⟩) (n - (i + 1)) sc]).run prog (W0.setRow N row1).drew = .ok (goInt (n - (i + 1) : Nat)) ((W0.setRow N row1).drew.setRow N row2) := fun ty dc sc => by
    have hg1 : (W0.setRow N row1).drew.heap[g]? = some (.cells cur 74 (0, 0)) := by
      show (W0.setRow N row1).heap[g]? = _
      rw [setRow_other W0 N g row1 (by omega), hW0o g (by omega), hg]
    have := run_copy_rowN (W0.setRow N row1).drew 28 28 ty 74 19 N ((i + m) * 19) (T - (i + m)) dc ⟨g, (i + 1) * 19, none⟩ (n - (i + 1)) sc row1 74 cs (n - (i + 1)) (by show min (n - (i + 1)) (T - (i + m)) = _; omega) hu hsz (setRow_heap W0 N row0 row1 74 (0, 0) hW0n) hcsl (fun j x hj => by
      have := hget j x hj
      rw [Addr.add_lit]
      simp only [World.cell?, hg1]
      simpa using this) (by rw [hcsl]; omega) (fun x hx => hc1 x (by rw [hcs] at hx; exact List.mem_of_mem_drop hx))
    rw [← hrow2] at this
    exact this
  clear hget
  have hr1t : row1.toList.take ((i + m) * 19) = cur.toList.take (i * 19) ++ v := by
    rw [hrow1, hr0t]
    exact List.take_left' (by rw [List.length_append, hA2, hv]; omega)
  have hr2t : row2.toList.take (T * 19) = cur.toList.take (i * 19) ++ (v ++ (cur.toList.take (n * 19)).drop ((i + 1) * 19)) := by
    rw [hrow2, hr1t, ← hcs, ← List.append_assoc]
    exact List.take_left' (by rw [List.length_append, List.length_append, hA2, hv, hcsl]; omega)
  have hr2s : row2.size = c2 * 19 := by
    rw [hrow2]; simp; omega
  clear hr1t hr0t hrow0 hrow1 hrow2 hA2
  rw [← hr2t]
  clear hr2t hcs
  have q7 : ¬ (c2 = i + m) := by omega
  have q10 : ¬ (c2 = i) := by omega
  have q11 : T ≤ c2 := hge
  have q12 : i ≤ c2 := by omega
  have q13 : i + m ≤ c2 := by omega
  have fin : RepPost w g T (row2.toList.take (T * 19)) (.returned (.slice (some ⟨N, 0, none⟩) T c2)) ((W0.setRow N row1).drew.setRow N row2) := by
    refine ⟨N, c2, row2, rfl, setRow_heap _ N row1 row2 74 (0, 0) (setRow_heap W0 N row0 row1 74 (0, 0) hW0n), hr2s, hle, hge, rfl, .inr (Nat.le_of_eq hN.symm), hW0p.1, hW0p.2.1, hW0p.2.2, ?_, fun b hb1 hb => ?_⟩
    · rw [setRow_size]
      show w.heap.size ≤ (W0.setRow N row1).heap.size
      rw [setRow_size, hW0h, Array.size_push]; omega
    · rw [setRow_other _ N b _ (by omega)]
      show (W0.setRow N row1).heap[b]? = _
      rw [setRow_other W0 N b _ (by omega)]
      exact hW0o b hb1
  clear hW0h hW0n hW0o hW0p hN
  go_enter Go.Proofs.Tryz.func57, Go.Proofs.Tryz.ntmps57
  go_wp2
  go_region_o
  go_wp2_with (at_builtin; refine Lib.wpList_append_run _ rfl _ _ _ _ rfl _ _ rfl rfl _ _ (hrz _) ?_)
  go_wp2
  go_region_o
  go_wp2
  go_ret
  exact fin
theorem replace_end (w : World) (g cap m i vb vc : Nat) (cur : Array Value) (v : List Value) (hn : i + 1 ≤ cap) (hm : cap ≤ maxLen) (hm2 : 1 ≤ m) (hTb : i + m ≤ 4294967296) (hg : w.heap[g]? = some (.cells cur 74 (0, 0))) (hs : cur.size = cap * 19)
    (hv : v.length = m * 19) (hvc : ∀ j x, v[j]? = some x → w.cell? ⟨vb, j, none⟩ = some x) (hv1 : ∀ x ∈ v, x.oneCell' = true) :
    Calls prog 57 #[.slice (some ⟨g, 0, none⟩) (i + 1) cap, .int .i64 i, .int .i64 (i + 1 : Nat), .slice (some ⟨vb, 0, none⟩) m vc] w
      (RepPost w g (i + m) (cur.toList.take (i * 19) ++ v)) := by
  have mixed : prog.follows Departure.mixedOrders = true := by kernel_rfl
  have hgl : g < w.heap.size := (Array.getElem?_eq_some_iff.1 hg).1
  have q1 : i ≤ cap := by omega
  have q5 : ¬ (cap = i) := by omega
  have q6 : ¬ (i + m < i + 1) := by omega
  have hM : maxLen ≤ 9223372036854775807 := by unfold maxLen; omega
  have p1 : (0 : Int) ≤ (i : Int) + 1 := by omega
  have p2 : ((i : Int) + 1).toNat = i + 1 := by omega
  have p5 : ¬ ((i : Int) + m < (i : Int) + 1) := by omega
  have hu : prog.underlying 28 = some (.slice 74) := by kernel_rfl
  obtain ⟨i0, z0, hi0, hz0, hs0, hzs, hby⟩ := info_stmt
  have hb2 : (i + m) * i0.bytes ≤ 4294967296 * 32768 := Nat.mul_le_mul hTb hby
  have hA2 : (cur.toList.take (i * 19)).length = i * 19 := by simp; omega
  have hvc' : ∀ j x, v[j]? = some x → w.cell? ((⟨vb, 0, none⟩ : Addr).add j) = some x := fun j x hj => by rw [Addr.add_lit, Nat.zero_add]; exact hvc j x hj
  by_cases hroom : i + m ≤ cap
  · obtain ⟨row1, hrow1⟩ : ∃ r, r = (cur.toList.take (i * 19) ++ v ++ cur.toList.drop (i * 19 + v.length)).toArray := ⟨_, rfl⟩
    have hrz : ∀ ty, (Builtin.append_ #[28, 28] ty #[.slice (some ⟨g, 0, none⟩) i cap, .slice (some ⟨vb, 0, none⟩) m vc]).run prog w = .ok (.slice (some ⟨g, 0, none⟩) (i + m) cap) (w.setRow g row1) := fun ty => by
      have := run_append_room (P := prog) (w := w) 28 ty 74 i0 hu hi0 g i cap cur hg ⟨vb, 0, none⟩ m vc v (by rw [hs0]; exact hv) hvc' hv1 hroom (by rw [hs0, hv]; omega)
      rw [hs0, ← hrow1] at this
      exact this
    have hr1t : row1.toList.take ((i + m) * 19) = cur.toList.take (i * 19) ++ v := by
      rw [hrow1]
      exact List.take_left' (by rw [List.length_append, hA2, hv]; omega)
    have hr1s : row1.size = cap * 19 := by rw [hrow1]; simp; omega
    rw [← hr1t]
    have fin : RepPost w g (i + m) (row1.toList.take ((i + m) * 19)) (.returned (.slice (some ⟨g, 0, none⟩) (i + m) cap)) (w.setRow g row1) :=
      ⟨g, cap, row1, rfl, setRow_heap w g cur row1 74 (0, 0) hg, hr1s, hm, hroom, rfl, .inl rfl, rfl, rfl, rfl, Nat.le_of_eq (setRow_size w g row1).symm, fun b _ hb => setRow_other w g b _ hb⟩
    clear hrow1 hr1t
    go_enter Go.Proofs.Tryz.func57, Go.Proofs.Tryz.ntmps57
    go_wp2_with (at_builtin; refine Lib.wpList_append_run _ rfl _ _ _ _ rfl _ _ rfl rfl _ _ (hrz _) ?_)
    go_ret
    exact fin
  · obtain ⟨c2, hc2⟩ : ∃ c, c = grownCap w (i + m) cap 74 := ⟨_, rfl⟩
    have hge := grownCap_ge w (i + m) cap 74
    have hle := grownCap_le_maxLen w (i + m) cap 74 (by unfold maxLen; omega)
    rw [← hc2] at hge hle
    obtain ⟨row0, hrow0⟩ : ∃ r, r = (cur.toList.take (i * 19)).toArray ++ v.toArray ++ Builtin.zeroCells z0.cells (c2 - (i + m)) := ⟨_, rfl⟩
    have hr0s : row0.size = c2 * 19 := by
      rw [hrow0]
      simp only [Array.size_append, Go.size_zeroCells, hzs, List.size_toArray, hA2, hv]
      omega
    have hr0t : row0.toList.take ((i + m) * 19) = cur.toList.take (i * 19) ++ v := by
      rw [hrow0]
      simp only [Array.toList_append]
      exact List.take_left' (by rw [List.length_append, hA2, hv]; omega)
    obtain ⟨W0, hW0⟩ : ∃ W, W = w.drew.alloc (.cells row0 74) := ⟨_, rfl⟩
    obtain ⟨N, hN⟩ : ∃ N, N = w.heap.size := ⟨_, rfl⟩
    have hrz : ∀ ty, (Builtin.append_ #[28, 28] ty #[.slice (some ⟨g, 0, none⟩) i cap, .slice (some ⟨vb, 0, none⟩) m vc]).run prog w = .ok (.slice (some ⟨N, 0, none⟩) (i + m) c2) W0 := fun ty => by
      have := run_append_grow (P := prog) (w := w) 28 ty 74 i0 z0 hu hi0 hz0 ⟨g, 0, none⟩ i cap (cur.toList.take (i * 19)) (by rw [hs0, hA2]) (fun j x hj => by
        rw [List.getElem?_take] at hj
        split at hj
        · rw [Addr.add_lit]
          simp only [World.cell?, hg]
          simpa using hj
        · cases hj) ⟨vb, 0, none⟩ m vc v (by rw [hs0]; exact hv) hvc' (by omega) (by omega) (growslice_fits (by omega) (by omega))
      rw [← hc2, ← hrow0, ← hW0, ← hN] at this
      exact this
    have hW0h : W0.heap = w.heap.push (.cells row0 74) := by rw [hW0]; rfl
    have fin : RepPost w g (i + m) (row0.toList.take ((i + m) * 19)) (.returned (.slice (some ⟨N, 0, none⟩) (i + m) c2)) W0 := by
      refine ⟨N, c2, row0, rfl, by rw [hW0h, hN, Array.getElem?_push, if_pos rfl], hr0s, hle, hge, rfl, .inr (Nat.le_of_eq hN.symm), by rw [hW0]; rfl, by rw [hW0]; rfl, by rw [hW0]; rfl, by rw [hW0h, Array.size_push]; omega, fun b hb1 hb => by rw [hW0h, Array.getElem?_push, if_neg (Nat.ne_of_lt hb1)]⟩
    rw [← hr0t]
    clear hrow0 hr0t hW0h hW0 hN hc2
    go_enter Go.Proofs.Tryz.func57, Go.Proofs.Tryz.ntmps57
    go_wp2_with (at_builtin; refine Lib.wpList_append_run _ rfl _ _ _ _ rfl _ _ rfl rfl _ _ (hrz _) ?_)
    go_ret
    exact fin
end Go.AmC

