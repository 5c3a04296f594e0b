/- Part of a proof: see the last text of this folder. -/
import Derived.Test.YtapdppkplhgnjaaAgreeC0
import Derived.Test.YtapdppkplhgnjaaAgreeDat
set_option linter.unusedSimpArgs false
set_option linter.unusedVariables false
set_option maxRecDepth 20000
set_option maxHeartbeats 4000000
namespace Go.AmC
open Go Go.AM
open Go.Proofs.Try (prog)
theorem toExpS (xs : List Exp) (hm : xs.length ≤ 1048576) (h : ∀ x ∈ xs, Says prog 22 [.agg (Cs (Exp.d x))] (.agg (Ows (Exp.d x))) []) : Says prog 49 [.rsl (List.length xs) (Cs ((List.flatMap Exp.d xs)))] (.osl 0 34 (List.length xs) (Ows ((List.flatMap Exp.d xs)))) [] := by
  refine Fn_G Go.Proofs.Try.func49 ok49 ?_
  have hs' : (xs.length : Int) ≤ (bnd : Nat) := by unfold bnd; omega
  simp [v49, r49, hm, hs']
  refine G_loop (l := l49_0) (b := b49_0) rfl [] (fun i => [.rsl (List.length xs) (Cs ((List.flatMap Exp.d xs))), .osl 0 34 0 [], .osl 0 34 xs.length (Ows ((xs.take i).flatMap Exp.d) ++ (List.replicate (xs.length - i) [.int .i64 0, .int .i64 0, .str [], .osl 0 34 0 []]).flatten), .int .i64 (i : Int), .dead]) (fun _ => True) xs.length
    (fun ex en => ex = .exit 0 ∧ en = [.rsl (List.length xs) (Cs ((List.flatMap Exp.d xs))), .osl 0 34 0 [], .osl 0 34 (List.length xs) (Ows ((List.flatMap Exp.d xs))), .int .i64 xs.length, .dead]) ?_ ?_ trivial (by simp) ?_
  · intro i hi _ q hn hx hr
    obtain ⟨x, hx0⟩ : ∃ x, xs[i]? = some x := ⟨_, List.getElem?_eq_getElem hi⟩
    have hrow := row_drop Exp.d 4 Exp.d_len hx0
    have hw : IntKind.i64.wrap ((i : Int) + 1) = ((i + 1 : Nat) : Int) := by rw [wrap_small] <;> omega
    have hlen : ((xs.take i).flatMap Exp.d).length = i * 4 := by rw [len_flat _ 4 Exp.d_len]; simp; omega
    rw [flat_take Exp.d hx0] at hn
    obtain ⟨k, hk⟩ : ∃ k, xs.length - i = k + 1 := ⟨xs.length - i - 1, by omega⟩
    rw [show xs.length - (i + 1) = k by omega] at hn
    rw [hk]
    have hsp := @splice_mid (Ows ((xs.take i).flatMap Exp.d)) [.int .i64 0, .int .i64 0, .str [], .osl 0 34 0 []] (List.replicate k [.int .i64 0, .int .i64 0, .str [], .osl 0 34 0 []]).flatten (Ows (Exp.d x)) (i * 4) (by simpa using hlen) (by simp)
    generalize (xs.take i).flatMap Exp.d = A at hsp hlen hn ⊢
    have hf := h x (List.mem_of_getElem? hx0)
    try simp at hf
    try simp at hsp
    simp [hi, Cs_drop, hrow, List.replicate_succ]
    refine callG hf ?_
    simp [hi, hsp, hw, hlen]
    refine hn _ ?_ trivial
    simp
  · intro _ q hx hr
    simp
    exact hx _ _ ⟨rfl, by simp⟩
  · rintro ex en ⟨rfl, rfl⟩
    simp
theorem toExp (x : Exp) (hL : Says prog 49 [.rsl (List.length x.L) (Cs ((List.flatMap Exp.d x.L)))] (.osl 0 34 (List.length x.L) (Ows ((List.flatMap Exp.d x.L)))) []) : Says prog 22 [.agg (Cs (Exp.d x))] (.agg (Ows (Exp.d x))) [] := by
  refine Fn_G Go.Proofs.Try.func22 ok22 ?_
  try simp at hL
  simp [v22, r22, splice]
  refine callG hL ?_
  simp [splice]
theorem toStmtS (xs : List Stmt) (hm : xs.length ≤ 1048576) (h : ∀ x ∈ xs, Says prog 12 [.agg (Cs (Stmt.d x))] (.agg (Ows (Stmt.d x))) []) : Says prog 38 [.rsl (List.length xs) (Cs ((List.flatMap Stmt.d xs)))] (.osl 0 37 (List.length xs) (Ows ((List.flatMap Stmt.d xs)))) [] := by
  refine Fn_G Go.Proofs.Try.func38 ok38 ?_
  have hs' : (xs.length : Int) ≤ (bnd : Nat) := by unfold bnd; omega
  simp [v38, r38, hm, hs']
  refine G_loop (l := l38_0) (b := b38_0) rfl [] (fun i => [.rsl (List.length xs) (Cs ((List.flatMap Stmt.d xs))), .osl 0 37 0 [], .osl 0 37 xs.length (Ows ((xs.take i).flatMap Stmt.d) ++ (List.replicate (xs.length - i) [.int .i64 0, .str [], .int .i64 0, .int .i64 0, .str [], .osl 0 34 0 [], .int .i64 0, .int .i64 0, .str [], .osl 0 34 0 [], .int .i64 0, .int .i64 0, .str [], .osl 0 34 0 [], .int .i64 0, .int .i64 0, .str [], .osl 0 34 0 [], .osl 0 37 0 []]).flatten), .int .i64 (i : Int), .dead]) (fun _ => True) xs.length
    (fun ex en => ex = .exit 0 ∧ en = [.rsl (List.length xs) (Cs ((List.flatMap Stmt.d xs))), .osl 0 37 0 [], .osl 0 37 (List.length xs) (Ows ((List.flatMap Stmt.d xs))), .int .i64 xs.length, .dead]) ?_ ?_ trivial (by simp) ?_
  · intro i hi _ q hn hx hr
    obtain ⟨x, hx0⟩ : ∃ x, xs[i]? = some x := ⟨_, List.getElem?_eq_getElem hi⟩
    have hrow := row_drop Stmt.d 19 Stmt.d_len hx0
    have hw : IntKind.i64.wrap ((i : Int) + 1) = ((i + 1 : Nat) : Int) := by rw [wrap_small] <;> omega
    have hlen : ((xs.take i).flatMap Stmt.d).length = i * 19 := by rw [len_flat _ 19 Stmt.d_len]; simp; omega
    rw [flat_take Stmt.d hx0] at hn
    obtain ⟨k, hk⟩ : ∃ k, xs.length - i = k + 1 := ⟨xs.length - i - 1, by omega⟩
    rw [show xs.length - (i + 1) = k by omega] at hn
    rw [hk]
    have hsp := @splice_mid (Ows ((xs.take i).flatMap Stmt.d)) [.int .i64 0, .str [], .int .i64 0, .int .i64 0, .str [], .osl 0 34 0 [], .int .i64 0, .int .i64 0, .str [], .osl 0 34 0 [], .int .i64 0, .int .i64 0, .str [], .osl 0 34 0 [], .int .i64 0, .int .i64 0, .str [], .osl 0 34 0 [], .osl 0 37 0 []] (List.replicate k [.int .i64 0, .str [], .int .i64 0, .int .i64 0, .str [], .osl 0 34 0 [], .int .i64 0, .int .i64 0, .str [], .osl 0 34 0 [], .int .i64 0, .int .i64 0, .str [], .osl 0 34 0 [], .int .i64 0, .int .i64 0, .str [], .osl 0 34 0 [], .osl 0 37 0 []]).flatten (Ows (Stmt.d x)) (i * 19) (by simpa using hlen) (by simp)
    generalize (xs.take i).flatMap Stmt.d = A at hsp hlen hn ⊢
    have hf := h x (List.mem_of_getElem? hx0)
    try simp at hf
    try simp at hsp
    simp [hi, Cs_drop, hrow, List.replicate_succ]
    refine callG hf ?_
    simp [hi, hsp, hw, hlen]
    refine hn _ ?_ trivial
    simp
  · intro _ q hx hr
    simp
    exact hx _ _ ⟨rfl, by simp⟩
  · rintro ex en ⟨rfl, rfl⟩
    simp
theorem toStmt (x : Stmt) (hAt : Says prog 22 [.agg (Cs (Exp.d x.At))] (.agg (Ows (Exp.d x.At))) []) (hE : Says prog 22 [.agg (Cs (Exp.d x.E))] (.agg (Ows (Exp.d x.E))) []) (hLo : Says prog 22 [.agg (Cs (Exp.d x.Lo))] (.agg (Ows (Exp.d x.Lo))) []) (hHi : Says prog 22 [.agg (Cs (Exp.d x.Hi))] (.agg (Ows (Exp.d x.Hi))) []) (hBody : Says prog 38 [.rsl (List.length x.Body) (Cs ((List.flatMap Stmt.d x.Body)))] (.osl 0 37 (List.length x.Body) (Ows ((List.flatMap Stmt.d x.Body)))) []) : Says prog 12 [.agg (Cs (Stmt.d x))] (.agg (Ows (Stmt.d x))) [] := by
  refine Fn_G Go.Proofs.Try.func12 ok12 ?_
  try simp at hAt
  try simp at hE
  try simp at hLo
  try simp at hHi
  try simp at hBody
  simp [v12, r12, splice]
  refine callG hAt ?_
  simp [splice]
  refine callG hE ?_
  simp [splice]
  refine callG hLo ?_
  simp [splice]
  refine callG hHi ?_
  simp [splice]
  refine callG hBody ?_
  simp [splice]
theorem toArr (x : Arr) : Says prog 76 [.agg (Cs (Arr.d x))] (.agg (Ows (Arr.d x))) [] := by
  refine Fn_G Go.Proofs.Try.func76 ok76 ?_
  simp [v76, r76, splice]
theorem toArrS (xs : List Arr) (hm : xs.length ≤ 1048576) (h : ∀ x ∈ xs, Says prog 76 [.agg (Cs (Arr.d x))] (.agg (Ows (Arr.d x))) []) : Says prog 59 [.rsl (List.length xs) (Cs ((List.flatMap Arr.d xs)))] (.osl 0 114 (List.length xs) (Ows ((List.flatMap Arr.d xs)))) [] := by
  refine Fn_G Go.Proofs.Try.func59 ok59 ?_
  have hs' : (xs.length : Int) ≤ (bnd : Nat) := by unfold bnd; omega
  simp [v59, r59, hm, hs']
  refine G_loop (l := l59_0) (b := b59_0) rfl [] (fun i => [.rsl (List.length xs) (Cs ((List.flatMap Arr.d xs))), .osl 0 114 0 [], .osl 0 114 xs.length (Ows ((xs.take i).flatMap Arr.d) ++ (List.replicate (xs.length - i) [.str [], .int .i64 0]).flatten), .int .i64 (i : Int), .dead]) (fun _ => True) xs.length
    (fun ex en => ex = .exit 0 ∧ en = [.rsl (List.length xs) (Cs ((List.flatMap Arr.d xs))), .osl 0 114 0 [], .osl 0 114 (List.length xs) (Ows ((List.flatMap Arr.d xs))), .int .i64 xs.length, .dead]) ?_ ?_ trivial (by simp) ?_
  · intro i hi _ q hn hx hr
    obtain ⟨x, hx0⟩ : ∃ x, xs[i]? = some x := ⟨_, List.getElem?_eq_getElem hi⟩
    have hrow := row_drop Arr.d 2 Arr.d_len hx0
    have hw : IntKind.i64.wrap ((i : Int) + 1) = ((i + 1 : Nat) : Int) := by rw [wrap_small] <;> omega
    have hlen : ((xs.take i).flatMap Arr.d).length = i * 2 := by rw [len_flat _ 2 Arr.d_len]; simp; omega
    rw [flat_take Arr.d hx0] at hn
    obtain ⟨k, hk⟩ : ∃ k, xs.length - i = k + 1 := ⟨xs.length - i - 1, by omega⟩
    rw [show xs.length - (i + 1) = k by omega] at hn
    rw [hk]
    have hsp := @splice_mid (Ows ((xs.take i).flatMap Arr.d)) [.str [], .int .i64 0] (List.replicate k [.str [], .int .i64 0]).flatten (Ows (Arr.d x)) (i * 2) (by simpa using hlen) (by simp)
    generalize (xs.take i).flatMap Arr.d = A at hsp hlen hn ⊢
    have hf := h x (List.mem_of_getElem? hx0)
    try simp at hf
    try simp at hsp
    simp [hi, Cs_drop, hrow, List.replicate_succ]
    refine callG hf ?_
    simp [hi, hsp, hw, hlen]
    refine hn _ ?_ trivial
    simp
  · intro _ q hx hr
    simp
    exact hx _ _ ⟨rfl, by simp⟩
  · rintro ex en ⟨rfl, rfl⟩
    simp
theorem toProg (x : Prog) (hArrs : Says prog 59 [.rsl (List.length x.Arrs) (Cs ((List.flatMap Arr.d x.Arrs)))] (.osl 0 114 (List.length x.Arrs) (Ows ((List.flatMap Arr.d x.Arrs)))) []) (hBody : Says prog 38 [.rsl (List.length x.Body) (Cs ((List.flatMap Stmt.d x.Body)))] (.osl 0 37 (List.length x.Body) (Ows ((List.flatMap Stmt.d x.Body)))) []) : Says prog 30 [.agg (Cs (Prog.d x))] (.agg (Ows (Prog.d x))) [] := by
  refine Fn_G Go.Proofs.Try.func30 ok30 ?_
  try simp at hArrs
  try simp at hBody
  simp [v30, r30, splice]
  refine callG hArrs ?_
  simp [splice]
  refine callG hBody ?_
  simp [splice]
theorem toIntS (xs : List Int) (hm : xs.length ≤ 1048576) : Says prog 42 [.rsl (List.length xs) (Cs ((List.flatMap dInt xs)))] (.osl 0 3 (List.length xs) (Ows ((List.flatMap dInt xs)))) [] := by
  refine Fn_G Go.Proofs.Try.func42 ok42 ?_
  have hs' : (xs.length : Int) ≤ (bnd : Nat) := by unfold bnd; omega
  simp [v42, r42, hm, hs']
  refine G_loop (l := l42_0) (b := b42_0) rfl [] (fun i => [.rsl (List.length xs) (Cs ((List.flatMap dInt xs))), .osl 0 3 0 [], .osl 0 3 xs.length (Ows ((xs.take i).flatMap dInt) ++ (List.replicate (xs.length - i) [.int .i64 0]).flatten), .int .i64 (i : Int), .dead]) (fun _ => True) xs.length
    (fun ex en => ex = .exit 0 ∧ en = [.rsl (List.length xs) (Cs ((List.flatMap dInt xs))), .osl 0 3 0 [], .osl 0 3 (List.length xs) (Ows ((List.flatMap dInt xs))), .int .i64 xs.length, .dead]) ?_ ?_ trivial (by simp) ?_
  · intro i hi _ q hn hx hr
    obtain ⟨x, hx0⟩ : ∃ x, xs[i]? = some x := ⟨_, List.getElem?_eq_getElem hi⟩
    have hrow := row_drop dInt 1 (fun _ => by simp) hx0
    rw [Nat.mul_one] at hrow
    have hw : IntKind.i64.wrap ((i : Int) + 1) = ((i + 1 : Nat) : Int) := by rw [wrap_small] <;> omega
    have hlen : ((xs.take i).flatMap dInt).length = i * 1 := by rw [len_flat _ 1 (fun _ => by simp)]; simp; omega
    rw [flat_take dInt hx0] at hn
    obtain ⟨k, hk⟩ : ∃ k, xs.length - i = k + 1 := ⟨xs.length - i - 1, by omega⟩
    rw [show xs.length - (i + 1) = k by omega] at hn
    rw [hk]
    have hsp := @splice_mid (Ows ((xs.take i).flatMap dInt)) [.int .i64 0] (List.replicate k [.int .i64 0]).flatten (Ows (dInt x)) (i * 1) (by simpa using hlen) (by simp)
    generalize (xs.take i).flatMap dInt = A at hsp hlen hn ⊢
    try simp at hsp
    simp [hi, Cs_drop, hrow, List.replicate_succ, hsp, hw, hlen]
    refine hn _ ?_ trivial
    simp
  · intro _ q hx hr
    simp
    exact hx _ _ ⟨rfl, by simp⟩
  · rintro ex en ⟨rfl, rfl⟩
    simp
theorem toIntSS (xs : List (List Int)) (hm : xs.length ≤ 1048576) (h : ∀ x ∈ xs, Says prog 42 [.rsl (List.length x) (Cs ((List.flatMap dInt x)))] (.osl 0 3 (List.length x) (Ows ((List.flatMap dInt x)))) []) : Says prog 60 [.rsl (List.length xs) (Cs ((List.flatMap dIntS xs)))] (.osl 0 41 (List.length xs) (Ows ((List.flatMap dIntS xs)))) [] := by
  refine Fn_G Go.Proofs.Try.func60 ok60 ?_
  have hs' : (xs.length : Int) ≤ (bnd : Nat) := by unfold bnd; omega
  simp [v60, r60, hm, hs']
  refine G_loop (l := l60_0) (b := b60_0) rfl [] (fun i => [.rsl (List.length xs) (Cs ((List.flatMap dIntS xs))), .osl 0 41 0 [], .osl 0 41 xs.length (Ows ((xs.take i).flatMap dIntS) ++ (List.replicate (xs.length - i) [.osl 0 3 0 []]).flatten), .int .i64 (i : Int), .dead]) (fun _ => True) xs.length
    (fun ex en => ex = .exit 0 ∧ en = [.rsl (List.length xs) (Cs ((List.flatMap dIntS xs))), .osl 0 41 0 [], .osl 0 41 (List.length xs) (Ows ((List.flatMap dIntS xs))), .int .i64 xs.length, .dead]) ?_ ?_ trivial (by simp) ?_
  · intro i hi _ q hn hx hr
    obtain ⟨x, hx0⟩ : ∃ x, xs[i]? = some x := ⟨_, List.getElem?_eq_getElem hi⟩
    have hrow := row_drop dIntS 1 (fun _ => by simp) hx0
    rw [Nat.mul_one] at hrow
    have hw : IntKind.i64.wrap ((i : Int) + 1) = ((i + 1 : Nat) : Int) := by rw [wrap_small] <;> omega
    have hlen : ((xs.take i).flatMap dIntS).length = i * 1 := by rw [len_flat _ 1 (fun _ => by simp)]; simp; omega
    rw [flat_take dIntS hx0] at hn
    obtain ⟨k, hk⟩ : ∃ k, xs.length - i = k + 1 := ⟨xs.length - i - 1, by omega⟩
    rw [show xs.length - (i + 1) = k by omega] at hn
    rw [hk]
    have hsp := @splice_mid (Ows ((xs.take i).flatMap dIntS)) [.osl 0 3 0 []] (List.replicate k [.osl 0 3 0 []]).flatten (Ows (dIntS x)) (i * 1) (by simpa using hlen) (by simp)
    generalize (xs.take i).flatMap dIntS = A at hsp hlen hn ⊢
    have hf := h x (List.mem_of_getElem? hx0)
    try simp at hf
    try simp at hsp
    simp [hi, Cs_drop, hrow, List.replicate_succ]
    refine callG hf ?_
    simp [hi, hsp, hw, hlen]
    refine hn _ ?_ trivial
    simp
  · intro _ q hx hr
    simp
    exact hx _ _ ⟨rfl, by simp⟩
  · rintro ex en ⟨rfl, rfl⟩
    simp
theorem toSto (x : Sto) (hA : Says prog 60 [.rsl (List.length x.A) (Cs ((List.flatMap dIntS x.A)))] (.osl 0 41 (List.length x.A) (Ows ((List.flatMap dIntS x.A)))) []) (hV : Says prog 42 [.rsl (List.length x.V) (Cs ((List.flatMap dInt x.V)))] (.osl 0 3 (List.length x.V) (Ows ((List.flatMap dInt x.V)))) []) (hOut : Says prog 42 [.rsl (List.length x.Out) (Cs ((List.flatMap dInt x.Out)))] (.osl 0 3 (List.length x.Out) (Ows ((List.flatMap dInt x.Out)))) []) : Says prog 31 [.agg (Cs (Sto.d x))] (.agg (Ows (Sto.d x))) [] := by
  refine Fn_G Go.Proofs.Try.func31 ok31 ?_
  try simp at hA
  try simp at hV
  try simp at hOut
  simp [v31, r31, splice]
  refine callG hA ?_
  simp [splice]
  refine callG hV ?_
  simp [splice]
  refine callG hOut ?_
  simp [splice]
end Go.AmC
