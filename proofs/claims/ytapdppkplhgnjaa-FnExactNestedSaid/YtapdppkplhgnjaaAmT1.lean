/- Part of a proof: see the last text of this folder. -/
import Derived.Test.YtapdppkplhgnjaaAmData
import Derived.Test.YtapdppkplhgnjaaAmC1
set_option linter.unusedSimpArgs false
set_option linter.unusedVariables false
namespace Go.AmC
open Go Go.AM
open Go.Proofs.Try (prog)

inductive Exp where
  | mk (k v : Int) (n : List UInt8) (kids : List Exp)
mutual
def Exp.d : Exp → List D
  | .mk k v n kids => [.I .i64 k, .I .i64 v, .S n, .L 34 kids.length (dExps kids)]
def dExps : List Exp → List D
  | [] => []
  | x :: xs => x.d ++ dExps xs
end
theorem Exp.d_len (x : Exp) : x.d.length = 4 := by cases x; simp [Exp.d]
inductive Stmt where
  | mk (k : Int) (s : List UInt8) (at' e lo hi : Exp) (body : List Stmt)
mutual
def Stmt.d : Stmt → List D
  | .mk k s a e lo hi body => [.I .i64 k, .S s] ++ a.d ++ e.d ++ lo.d ++ hi.d ++ [.L 37 body.length (dStmts body)]
def dStmts : List Stmt → List D
  | [] => []
  | x :: xs => x.d ++ dStmts xs
end
mutual
/-- No slice and no text is longer than what is looked at. -/
def Exp.sm : Exp → Prop
  | .mk _ _ n kids => n.length ≤ 1048576 ∧ kids.length ≤ 1048576 ∧ smExps kids
def smExps : List Exp → Prop
  | [] => True
  | x :: xs => x.sm ∧ smExps xs
end
mutual
/-- No slice and no text is longer than the model's greatest. -/
def Exp.lg : Exp → Prop
  | .mk _ _ n kids => n.length ≤ maxLen ∧ kids.length ≤ maxLen ∧ lgExps kids
def lgExps : List Exp → Prop
  | [] => True
  | x :: xs => x.lg ∧ lgExps xs
end
mutual
def Stmt.sm : Stmt → Prop
  | .mk _ s a e lo hi body => s.length ≤ 1048576 ∧ a.sm ∧ e.sm ∧ lo.sm ∧ hi.sm ∧ body.length ≤ 1048576 ∧ smStmts body
def smStmts : List Stmt → Prop
  | [] => True
  | x :: xs => x.sm ∧ smStmts xs
end
mutual
def Stmt.lg : Stmt → Prop
  | .mk _ s a e lo hi body => s.length ≤ maxLen ∧ a.lg ∧ e.lg ∧ lo.lg ∧ hi.lg ∧ body.length ≤ maxLen ∧ lgStmts body
def lgStmts : List Stmt → Prop
  | [] => True
  | x :: xs => x.lg ∧ lgStmts xs
end
theorem smExps_of : ∀ {xs : List Exp}, (∀ x ∈ xs, x.sm) → smExps xs
  | [], _ => by simp only [smExps]
  | x :: xs, h => by simp only [smExps]; exact ⟨h x (by simp), smExps_of fun y hy => h y (by simp [hy])⟩
theorem smStmts_of : ∀ {xs : List Stmt}, (∀ x ∈ xs, x.sm) → smStmts xs
  | [], _ => by simp only [smStmts]
  | x :: xs, h => by simp only [smStmts]; exact ⟨h x (by simp), smStmts_of fun y hy => h y (by simp [hy])⟩
theorem lgExps_of : ∀ {xs : List Exp}, (∀ x ∈ xs, x.lg) → lgExps xs
  | [], _ => by simp only [lgExps]
  | x :: xs, h => by simp only [lgExps]; exact ⟨h x (by simp), lgExps_of fun y hy => h y (by simp [hy])⟩
theorem lgStmts_of : ∀ {xs : List Stmt}, (∀ x ∈ xs, x.lg) → lgStmts xs
  | [], _ => by simp only [lgStmts]
  | x :: xs, h => by simp only [lgStmts]; exact ⟨h x (by simp), lgStmts_of fun y hy => h y (by simp [hy])⟩
theorem Stmt.d_len (x : Stmt) : x.d.length = 19 := by cases x; simp [Stmt.d, Exp.d_len]

theorem dExps_flat : ∀ {xs : List Exp}, dExps xs = xs.flatMap Exp.d
  | [] => by simp [dExps]
  | x :: xs => by simp [dExps, dExps_flat (xs := xs)]
theorem Exp_row {xs : List Exp} {i : Nat} {x : Exp} (h : xs[i]? = some x) : ((dExps xs).drop (i * 4)).take 4 = x.d ∧ 4 ≤ (dExps xs).length - i * 4 := by
  rw [dExps_flat]
  obtain ⟨a, b⟩ := row_at Exp.d 4 xs i x (fun x _ => x.d_len) h
  exact ⟨a, by omega⟩
theorem dExps_take {xs : List Exp} {i : Nat} {x : Exp} (h : xs[i]? = some x) : dExps (xs.take (i + 1)) = dExps (xs.take i) ++ x.d := by
  rw [dExps_flat, dExps_flat, List.take_add_one, h]; simp
theorem dExps_len {xs : List Exp} : (dExps xs).length = xs.length * 4 := by
  rw [dExps_flat, List.length_flatMap]
  have : xs.map (fun x => x.d.length) = List.replicate xs.length 4 := by
    apply List.ext_getElem
    · simp
    · intro j h1 h2; simp [Exp.d_len]
  rw [this]; simp
theorem Exp.takeC (x : Exp) : List.take 4 (Cs x.d) = Cs x.d := List.take_of_length_le (by simp [Exp.d_len])
theorem Exp.takeO (x : Exp) : List.take 4 (Ows x.d) = Ows x.d := List.take_of_length_le (by simp [Exp.d_len])

theorem dStmts_flat : ∀ {xs : List Stmt}, dStmts xs = xs.flatMap Stmt.d
  | [] => by simp [dStmts]
  | x :: xs => by simp [dStmts, dStmts_flat (xs := xs)]
theorem Stmt_row {xs : List Stmt} {i : Nat} {x : Stmt} (h : xs[i]? = some x) : ((dStmts xs).drop (i * 19)).take 19 = x.d ∧ 19 ≤ (dStmts xs).length - i * 19 := by
  rw [dStmts_flat]
  obtain ⟨a, b⟩ := row_at Stmt.d 19 xs i x (fun x _ => x.d_len) h
  exact ⟨a, by omega⟩
theorem dStmts_take {xs : List Stmt} {i : Nat} {x : Stmt} (h : xs[i]? = some x) : dStmts (xs.take (i + 1)) = dStmts (xs.take i) ++ x.d := by
  rw [dStmts_flat, dStmts_flat, List.take_add_one, h]; simp
theorem dStmts_len {xs : List Stmt} : (dStmts xs).length = xs.length * 19 := by
  rw [dStmts_flat, List.length_flatMap]
  have : xs.map (fun x => x.d.length) = List.replicate xs.length 19 := by
    apply List.ext_getElem
    · simp
    · intro j h1 h2; simp [Stmt.d_len]
  rw [this]; simp
theorem Stmt.takeC (x : Stmt) : List.take 19 (Cs x.d) = Cs x.d := List.take_of_length_le (by simp [Stmt.d_len])
theorem Stmt.takeO (x : Stmt) : List.take 19 (Ows x.d) = Ows x.d := List.take_of_length_le (by simp [Stmt.d_len])

theorem loop46 (all : List Exp) (hs : all.length ≤ maxLen) (h : ∀ x ∈ all, ∀ l, 0 ≤ l → l ≤ 1048576 → ∃ r, Says prog 20 [.agg (Cs x.d), .int .i64 l] (.int .i64 r) [] ∧ (0 ≤ r → r ≤ l ∧ x.sm)) : ∀ k i l, i + k = all.length → 0 ≤ l → l ≤ 1048576 →
    W prog 7 l46_0 [.rsl all.length (Cs (dExps all)), .int .i64 l, .int .i64 0, .dead, .int .i64 i, .dead, .dead] fun ex e =>
      (ex = .exit 0 ∧ ∃ l' : Int, 0 ≤ l' ∧ l' ≤ l ∧ (∀ x ∈ all.drop i, x.sm) ∧ e = [.rsl all.length (Cs (dExps all)), .int .i64 l', .int .i64 0, .dead, .int .i64 all.length, .dead, .dead]) ∨
      (ex = .ret ∧ ∃ l' i' : Int, e = [.rsl all.length (Cs (dExps all)), .int .i64 l', .int .i64 (-1), .dead, .int .i64 i', .dead, .dead]) := by
  intro k
  induction k with
  | zero =>
    intro i l hi h0 hm
    obtain rfl : i = all.length := by omega
    refine W_loop' (l := l46_0) rfl ?_
    simp [b46_0, h0]
  | succ k ih =>
    intro i l hi h0 hm
    have hil : i < all.length := by omega
    have hx := List.getElem?_eq_getElem hil
    obtain ⟨hr1, hr2⟩ := Exp_row hx
    obtain ⟨r, hr, hr3⟩ := h all[i] (List.getElem_mem hil) l h0 hm
    have hw : IntKind.i64.wrap ((i : Int) + 1) = ((i + 1 : Nat) : Int) := by unfold maxLen at hs; rw [wrap_small] <;> omega
    refine W_loop' (l := l46_0) rfl ?_
    simp [b46_0, hil, hr1, hr2, Cs_drop, Cs_take]
    refine ⟨_, hr, ?_⟩
    by_cases h2 : r < 0
    · simp [h2]
    · obtain ⟨hr4, hr5⟩ := hr3 (by omega)
      simp [h2, hw]
      have := ih (i + 1) r (by omega) (by omega) (by omega)
      refine W_imp ?_ (by simpa using this)
      rintro ex e (⟨rfl, l', q1, q2, q3, rfl⟩ | ⟨rfl, l', i', rfl⟩)
      · refine .inl ⟨rfl, l', q1, by omega, fun x hx => ?_, rfl⟩
        rw [List.drop_eq_getElem_cons hil] at hx
        rcases List.mem_cons.1 hx with rfl | hx
        · exact hr5
        · exact q3 x hx
      · exact .inr ⟨rfl, l', i', rfl⟩

theorem fn46 (all : List Exp) (hs : all.length ≤ maxLen) (h : ∀ x ∈ all, ∀ l, 0 ≤ l → l ≤ 1048576 → ∃ r, Says prog 20 [.agg (Cs x.d), .int .i64 l] (.int .i64 r) [] ∧ (0 ≤ r → r ≤ l ∧ x.sm)) (l : Int) (h0 : 0 ≤ l) (hm : l ≤ 1048576) :
    ∃ r, Says prog 46 [.rsl all.length (Cs (dExps all)), .int .i64 l] (.int .i64 r) [] ∧ (0 ≤ r → r ≤ l ∧ all.length ≤ 1048576 ∧ ∀ x ∈ all, x.sm) := by
  have hw : (IntKind.i64).wrap (l - all.length) = l - all.length := by unfold maxLen at hs; rw [wrap_small] <;> omega
  by_cases h1 : l - all.length < 0
  · refine ⟨-1, Fn_of_wp Go.Proofs.Try.func46 ok46 ?_, fun h => by omega⟩
    simp [s46, v46, r46, hw, h1, EndsW]
  · obtain ⟨ex, e, hruns, hQ⟩ := loop46 all hs h all.length 0 (l - all.length) (by omega) (by omega) (by omega)
    rcases hQ with ⟨rfl, l', q1, q2, q3, rfl⟩ | ⟨rfl, l', i', rfl⟩
    · refine ⟨l', Fn_of_wp Go.Proofs.Try.func46 ok46 ?_, fun _ => ⟨by omega, by omega, by simpa using q3⟩⟩
      simp [s46, v46, r46, hw, h1, EndsW, wpS_loop (l := l46_0) rfl]
      exact ⟨_, _, hruns, by simp⟩
    · refine ⟨-1, Fn_of_wp Go.Proofs.Try.func46 ok46 ?_, fun h => by omega⟩
      simp [s46, v46, r46, hw, h1, EndsW, wpS_loop (l := l46_0) rfl]
      exact ⟨_, _, hruns, by simp⟩

theorem loop49 (all : List Exp) (hs : all.length ≤ 1048576) (h : ∀ x ∈ all, Says prog 22 [.agg (Cs x.d)] (.agg (Ows x.d)) []) : ∀ k i, i + k = all.length →
    W prog 5 l49_0 [.rsl all.length (Cs (dExps all)), .osl 0 34 0 [], .osl 0 34 all.length (Ows (dExps (all.take i)) ++ (List.replicate k [.int .i64 0, .int .i64 0, .str [], .osl 0 34 0 []]).flatten), .int .i64 i, .dead] fun ex e =>
      ex = .exit 0 ∧ e = [.rsl all.length (Cs (dExps all)), .osl 0 34 0 [], .osl 0 34 all.length (Ows (dExps all)), .int .i64 all.length, .dead] := by
  intro k
  induction k with
  | zero =>
    intro i hi
    obtain rfl : i = all.length := by omega
    refine W_loop' (l := l49_0) rfl ?_
    simp [b49_0]
  | succ k ih =>
    intro i hi
    have hil : i < all.length := by omega
    obtain ⟨x, hx⟩ : ∃ x, all[i]? = some x := ⟨_, List.getElem?_eq_getElem hil⟩
    obtain ⟨hr1, hr2⟩ := Exp_row hx
    have hr := h x (List.mem_of_getElem? hx)
    have hw : IntKind.i64.wrap ((i : Int) + 1) = ((i + 1 : Nat) : Int) := by rw [wrap_small] <;> omega
    have hl : (dExps (all.take i)).length = i * 4 := by rw [dExps_len]; simp; omega
    have ih := ih (i + 1) (by omega)
    rw [dExps_take hx] at ih
    simp at ih
    have hsp := @splice_mid (Ows (dExps (all.take i))) [.int .i64 0, .int .i64 0, .str [], .osl 0 34 0 []] (List.replicate k [.int .i64 0, .int .i64 0, .str [], .osl 0 34 0 []]).flatten (Ows x.d) (i * 4) (by simpa using hl) (by simp [Exp.d_len])
    simp at hsp
    refine W_loop' (l := l49_0) rfl ?_
    simp [b49_0, hil, hr1, hr2, Cs_drop, Cs_take, List.replicate_succ]
    refine ⟨_, hr, ?_⟩
    simp [hsp, hw, hl, Exp.d_len]
    exact ih
theorem fn49 (all : List Exp) (hs : all.length ≤ 1048576) (h : ∀ x ∈ all, Says prog 22 [.agg (Cs x.d)] (.agg (Ows x.d)) []) : Says prog 49 [.rsl all.length (Cs (dExps all))] (.osl 0 34 all.length (Ows (dExps all))) [] := by
  obtain ⟨ex, e, hruns, rfl, rfl⟩ := loop49 all hs h all.length 0 (by omega)
  refine Fn_of_wp Go.Proofs.Try.func49 ok49 ?_
  have hs' : (all.length : Int) ≤ (bnd : Nat) := by unfold bnd; omega
  simp [s49, v49, r49, wpS_loop (l := l49_0) rfl, hs, hs']
  simp [dExps] at hruns
  exact ⟨_, _, hruns, by simp⟩

theorem loop52 (all : List Exp) (hs : all.length ≤ maxLen) (h : ∀ x ∈ all, Says prog 24 [.agg (Cs x.d), .agg (Cs x.d)] (.bool true) []) : ∀ k i, i + k = all.length →
    W prog 7 l52_0 [.rsl all.length (Cs (dExps all)), .rsl all.length (Cs (dExps all)), .bool false, .dead, .int .i64 i, .dead, .dead] fun ex e => ex = .exit 0 ∧ e = [.rsl all.length (Cs (dExps all)), .rsl all.length (Cs (dExps all)), .bool false, .dead, .int .i64 all.length, .dead, .dead] := by
  intro k
  induction k with
  | zero =>
    intro i hi
    obtain rfl : i = all.length := by omega
    refine W_loop' (l := l52_0) rfl ?_
    simp [b52_0]
  | succ k ih =>
    intro i hi
    have hil : i < all.length := by omega
    obtain ⟨x, hx⟩ : ∃ x, all[i]? = some x := ⟨_, List.getElem?_eq_getElem hil⟩
    obtain ⟨hr1, hr2⟩ := Exp_row hx
    have hr := h x (List.mem_of_getElem? hx)
    have hw : IntKind.i64.wrap ((i : Int) + 1) = ((i + 1 : Nat) : Int) := by unfold maxLen at hs; rw [wrap_small] <;> omega
    have ih := ih (i + 1) (by omega)
    refine W_loop' (l := l52_0) rfl ?_
    simp [b52_0, hil, hr1, hr2, Cs_drop, Cs_take]
    refine ⟨_, hr, ?_⟩
    simp [hw]
    simpa using ih
theorem fn52 (all : List Exp) (hs : all.length ≤ maxLen) (h : ∀ x ∈ all, Says prog 24 [.agg (Cs x.d), .agg (Cs x.d)] (.bool true) []) : Says prog 52 [.rsl all.length (Cs (dExps all)), .rsl all.length (Cs (dExps all))] (.bool true) [] := by
  obtain ⟨ex, e, hruns, rfl, rfl⟩ := loop52 all hs h all.length 0 (by omega)
  refine Fn_of_wp Go.Proofs.Try.func52 ok52 ?_
  simp [s52, v52, r52, wpS_loop (l := l52_0) rfl]
  exact ⟨_, _, hruns, by simp⟩

theorem loop37 (all : List Stmt) (hs : all.length ≤ maxLen) (h : ∀ x ∈ all, ∀ l, 0 ≤ l → l ≤ 1048576 → ∃ r, Says prog 10 [.agg (Cs x.d), .int .i64 l] (.int .i64 r) [] ∧ (0 ≤ r → r ≤ l ∧ x.sm)) : ∀ k i l, i + k = all.length → 0 ≤ l → l ≤ 1048576 →
    W prog 7 l37_0 [.rsl all.length (Cs (dStmts all)), .int .i64 l, .int .i64 0, .dead, .int .i64 i, .dead, .dead] fun ex e =>
      (ex = .exit 0 ∧ ∃ l' : Int, 0 ≤ l' ∧ l' ≤ l ∧ (∀ x ∈ all.drop i, x.sm) ∧ e = [.rsl all.length (Cs (dStmts all)), .int .i64 l', .int .i64 0, .dead, .int .i64 all.length, .dead, .dead]) ∨
      (ex = .ret ∧ ∃ l' i' : Int, e = [.rsl all.length (Cs (dStmts all)), .int .i64 l', .int .i64 (-1), .dead, .int .i64 i', .dead, .dead]) := by
  intro k
  induction k with
  | zero =>
    intro i l hi h0 hm
    obtain rfl : i = all.length := by omega
    refine W_loop' (l := l37_0) rfl ?_
    simp [b37_0, h0]
  | succ k ih =>
    intro i l hi h0 hm
    have hil : i < all.length := by omega
    have hx := List.getElem?_eq_getElem hil
    obtain ⟨hr1, hr2⟩ := Stmt_row hx
    obtain ⟨r, hr, hr3⟩ := h all[i] (List.getElem_mem hil) l h0 hm
    have hw : IntKind.i64.wrap ((i : Int) + 1) = ((i + 1 : Nat) : Int) := by unfold maxLen at hs; rw [wrap_small] <;> omega
    refine W_loop' (l := l37_0) rfl ?_
    simp [b37_0, hil, hr1, hr2, Cs_drop, Cs_take]
    refine ⟨_, hr, ?_⟩
    by_cases h2 : r < 0
    · simp [h2]
    · obtain ⟨hr4, hr5⟩ := hr3 (by omega)
      simp [h2, hw]
      have := ih (i + 1) r (by omega) (by omega) (by omega)
      refine W_imp ?_ (by simpa using this)
      rintro ex e (⟨rfl, l', q1, q2, q3, rfl⟩ | ⟨rfl, l', i', rfl⟩)
      · refine .inl ⟨rfl, l', q1, by omega, fun x hx => ?_, rfl⟩
        rw [List.drop_eq_getElem_cons hil] at hx
        rcases List.mem_cons.1 hx with rfl | hx
        · exact hr5
        · exact q3 x hx
      · exact .inr ⟨rfl, l', i', rfl⟩

theorem fn37 (all : List Stmt) (hs : all.length ≤ maxLen) (h : ∀ x ∈ all, ∀ l, 0 ≤ l → l ≤ 1048576 → ∃ r, Says prog 10 [.agg (Cs x.d), .int .i64 l] (.int .i64 r) [] ∧ (0 ≤ r → r ≤ l ∧ x.sm)) (l : Int) (h0 : 0 ≤ l) (hm : l ≤ 1048576) :
    ∃ r, Says prog 37 [.rsl all.length (Cs (dStmts all)), .int .i64 l] (.int .i64 r) [] ∧ (0 ≤ r → r ≤ l ∧ all.length ≤ 1048576 ∧ ∀ x ∈ all, x.sm) := by
  have hw : (IntKind.i64).wrap (l - all.length) = l - all.length := by unfold maxLen at hs; rw [wrap_small] <;> omega
  by_cases h1 : l - all.length < 0
  · refine ⟨-1, Fn_of_wp Go.Proofs.Try.func37 ok37 ?_, fun h => by omega⟩
    simp [s37, v37, r37, hw, h1, EndsW]
  · obtain ⟨ex, e, hruns, hQ⟩ := loop37 all hs h all.length 0 (l - all.length) (by omega) (by omega) (by omega)
    rcases hQ with ⟨rfl, l', q1, q2, q3, rfl⟩ | ⟨rfl, l', i', rfl⟩
    · refine ⟨l', Fn_of_wp Go.Proofs.Try.func37 ok37 ?_, fun _ => ⟨by omega, by omega, by simpa using q3⟩⟩
      simp [s37, v37, r37, hw, h1, EndsW, wpS_loop (l := l37_0) rfl]
      exact ⟨_, _, hruns, by simp⟩
    · refine ⟨-1, Fn_of_wp Go.Proofs.Try.func37 ok37 ?_, fun h => by omega⟩
      simp [s37, v37, r37, hw, h1, EndsW, wpS_loop (l := l37_0) rfl]
      exact ⟨_, _, hruns, by simp⟩

theorem loop38 (all : List Stmt) (hs : all.length ≤ 1048576) (h : ∀ x ∈ all, Says prog 12 [.agg (Cs x.d)] (.agg (Ows x.d)) []) : ∀ k i, i + k = all.length →
    W prog 5 l38_0 [.rsl all.length (Cs (dStmts all)), .osl 0 37 0 [], .osl 0 37 all.length (Ows (dStmts (all.take i)) ++ (List.replicate k [.int .i64 0, .str [], .int .i64 0, .int .i64 0, .str [], .osl 0 34 0 [], .int .i64 0, .int .i64 0, .str [], .osl 0 34 0 [], .int .i64 0, .int .i64 0, .str [], .osl 0 34 0 [], .int .i64 0, .int .i64 0, .str [], .osl 0 34 0 [], .osl 0 37 0 []]).flatten), .int .i64 i, .dead] fun ex e =>
      ex = .exit 0 ∧ e = [.rsl all.length (Cs (dStmts all)), .osl 0 37 0 [], .osl 0 37 all.length (Ows (dStmts all)), .int .i64 all.length, .dead] := by
  intro k
  induction k with
  | zero =>
    intro i hi
    obtain rfl : i = all.length := by omega
    refine W_loop' (l := l38_0) rfl ?_
    simp [b38_0]
  | succ k ih =>
    intro i hi
    have hil : i < all.length := by omega
    obtain ⟨x, hx⟩ : ∃ x, all[i]? = some x := ⟨_, List.getElem?_eq_getElem hil⟩
    obtain ⟨hr1, hr2⟩ := Stmt_row hx
    have hr := h x (List.mem_of_getElem? hx)
    have hw : IntKind.i64.wrap ((i : Int) + 1) = ((i + 1 : Nat) : Int) := by rw [wrap_small] <;> omega
    have hl : (dStmts (all.take i)).length = i * 19 := by rw [dStmts_len]; simp; omega
    have ih := ih (i + 1) (by omega)
    rw [dStmts_take hx] at ih
    simp at ih
    have hsp := @splice_mid (Ows (dStmts (all.take i))) [.int .i64 0, .str [], .int .i64 0, .int .i64 0, .str [], .osl 0 34 0 [], .int .i64 0, .int .i64 0, .str [], .osl 0 34 0 [], .int .i64 0, .int .i64 0, .str [], .osl 0 34 0 [], .int .i64 0, .int .i64 0, .str [], .osl 0 34 0 [], .osl 0 37 0 []] (List.replicate k [.int .i64 0, .str [], .int .i64 0, .int .i64 0, .str [], .osl 0 34 0 [], .int .i64 0, .int .i64 0, .str [], .osl 0 34 0 [], .int .i64 0, .int .i64 0, .str [], .osl 0 34 0 [], .int .i64 0, .int .i64 0, .str [], .osl 0 34 0 [], .osl 0 37 0 []]).flatten (Ows x.d) (i * 19) (by simpa using hl) (by simp [Stmt.d_len])
    simp at hsp
    refine W_loop' (l := l38_0) rfl ?_
    simp [b38_0, hil, hr1, hr2, Cs_drop, Cs_take, List.replicate_succ]
    refine ⟨_, hr, ?_⟩
    simp [hsp, hw, hl, Stmt.d_len]
    exact ih
theorem fn38 (all : List Stmt) (hs : all.length ≤ 1048576) (h : ∀ x ∈ all, Says prog 12 [.agg (Cs x.d)] (.agg (Ows x.d)) []) : Says prog 38 [.rsl all.length (Cs (dStmts all))] (.osl 0 37 all.length (Ows (dStmts all))) [] := by
  obtain ⟨ex, e, hruns, rfl, rfl⟩ := loop38 all hs h all.length 0 (by omega)
  refine Fn_of_wp Go.Proofs.Try.func38 ok38 ?_
  have hs' : (all.length : Int) ≤ (bnd : Nat) := by unfold bnd; omega
  simp [s38, v38, r38, wpS_loop (l := l38_0) rfl, hs, hs']
  simp [dStmts] at hruns
  exact ⟨_, _, hruns, by simp⟩

theorem loop39 (all : List Stmt) (hs : all.length ≤ maxLen) (h : ∀ x ∈ all, Says prog 14 [.agg (Cs x.d), .agg (Cs x.d)] (.bool true) []) : ∀ k i, i + k = all.length →
    W prog 7 l39_0 [.rsl all.length (Cs (dStmts all)), .rsl all.length (Cs (dStmts all)), .bool false, .dead, .int .i64 i, .dead, .dead] fun ex e => ex = .exit 0 ∧ e = [.rsl all.length (Cs (dStmts all)), .rsl all.length (Cs (dStmts all)), .bool false, .dead, .int .i64 all.length, .dead, .dead] := by
  intro k
  induction k with
  | zero =>
    intro i hi
    obtain rfl : i = all.length := by omega
    refine W_loop' (l := l39_0) rfl ?_
    simp [b39_0]
  | succ k ih =>
    intro i hi
    have hil : i < all.length := by omega
    obtain ⟨x, hx⟩ : ∃ x, all[i]? = some x := ⟨_, List.getElem?_eq_getElem hil⟩
    obtain ⟨hr1, hr2⟩ := Stmt_row hx
    have hr := h x (List.mem_of_getElem? hx)
    have hw : IntKind.i64.wrap ((i : Int) + 1) = ((i + 1 : Nat) : Int) := by unfold maxLen at hs; rw [wrap_small] <;> omega
    have ih := ih (i + 1) (by omega)
    refine W_loop' (l := l39_0) rfl ?_
    simp [b39_0, hil, hr1, hr2, Cs_drop, Cs_take]
    refine ⟨_, hr, ?_⟩
    simp [hw]
    simpa using ih
theorem fn39 (all : List Stmt) (hs : all.length ≤ maxLen) (h : ∀ x ∈ all, Says prog 14 [.agg (Cs x.d), .agg (Cs x.d)] (.bool true) []) : Says prog 39 [.rsl all.length (Cs (dStmts all)), .rsl all.length (Cs (dStmts all))] (.bool true) [] := by
  obtain ⟨ex, e, hruns, rfl, rfl⟩ := loop39 all hs h all.length 0 (by omega)
  refine Fn_of_wp Go.Proofs.Try.func39 ok39 ?_
  simp [s39, v39, r39, wpS_loop (l := l39_0) rfl]
  exact ⟨_, _, hruns, by simp⟩
end Go.AmC
