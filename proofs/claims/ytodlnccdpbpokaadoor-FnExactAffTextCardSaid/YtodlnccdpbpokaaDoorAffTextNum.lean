/- Part of a proof: see the last text of this folder. -/
import Derived.Test.YtodlnccdpbpokaaDoorAffTextCl
import Derived.Test.YtodlnccdpbpokaaDoorAffTextLay1
import Derived.Test.YtodlnccdpbpokaaDoorAmLib
set_option linter.unusedSimpArgs false
set_option linter.unusedVariables false
set_option maxRecDepth 20000
set_option maxHeartbeats 4000000
namespace Go.AmC
open Go Go.AM
open Go.Proofs.Tryd (prog)

/-! ### The figures of a number -/
def numS (n : Int) : List UInt8 := if n = 0 then [48] else if n < 0 then 45 :: decR n.natAbs else decR n.natAbs
theorem decD (u : Nat) : Lib.decDigits u = if u = 0 then [48] else decR u := by
  induction u using Nat.strongRecOn with
  | _ u ih =>
    rw [Lib.decDigits]
    by_cases h : u < 10
    · rw [dif_pos h]
      by_cases h0 : u = 0
      · subst h0; rfl
      · rw [if_neg h0, decR_pos h0, Nat.div_eq_of_lt h, decR, if_pos rfl, Nat.mod_eq_of_lt h]; rfl
    · rw [dif_neg h, ih (u / 10) (by omega), if_neg (by omega), if_neg (by omega), decR_pos (n := u) (by omega)]
theorem itoa_num (n : Int) : Lib.itoa n = numS n := by
  unfold Lib.itoa numS
  by_cases h0 : n = 0
  · subst h0; simp [decD]
  · by_cases h1 : n < 0
    · rw [if_pos h1, if_neg h0, if_pos h1, decD, if_neg (by omega)]
    · rw [if_neg h1, if_neg h0, if_neg h1, decD, if_neg (by omega)]
      congr 1; omega
theorem decR_lt : ∀ (k u : Nat), u < 10 ^ k → (decR u).length ≤ k
  | 0, u, h => by
    have : u = 0 := by simpa using h
    subst this; rw [decR]; simp
  | k + 1, u, h => by
    by_cases h0 : u = 0
    · subst h0; rw [decR]; simp
    · rw [decR_pos h0]
      have := decR_lt k (u / 10) (by rw [Nat.pow_succ] at h; omega)
      simp; exact this
theorem numS_len {n : Int} (h : i64R n) : (numS n).length ≤ 20 := by
  have h1 : n.natAbs < 10 ^ 19 := by
    have := h.1; have := h.2
    have e : (10 : Nat) ^ 19 = 10000000000000000000 := by decide
    omega
  have := decR_lt 19 n.natAbs h1
  unfold numS
  split
  · simp
  · split
    · simp; omega
    · omega
theorem num_impl (n : Int) (h : i64R n) : Says prog 18 [.int .i64 n] (.str (numS n)) [] := by
  have f : Says prog 26 [.int .i64 n] (.str (numS n)) [] := by
    refine Says_lib rfl fun w Φ σ cargs fa hcr hinv => ?_
    have hc := CR_int hcr
    obtain ⟨gp, hgp⟩ := Option.isSome_iff_exists.1 (show (prog.globalNamed "internal/strconv.uint64pow10").isSome = true by kernel_rfl)
    obtain rfl : cargs = #[.int .i64 n] := by apply Array.toList_inj.1; rw [hc]
    have hcall : Calls prog 26 #[.int .i64 n] w fun e w' => e = .returned (.string ⟨(Lib.itoa n).toArray⟩) ∧ ∃ k os, w' = Go.Sort.grow (w.drewN k) os := Go.Proofs.Any.strconv_Itoa Go.Proofs.Tryd.itoa n h.1 h.2 w (tab_pow hinv hgp)
    refine hcall.mono ?_
    rintro en w' ⟨rfl, k, os, rfl⟩
    exact ⟨_, rfl, Still.of_grow w k os, fun w' => by simp [VR, itoa_num]⟩
  refine Fn_G Go.Proofs.Tryd.func18 ok18 ?_
  simp [v18, r18]
  refine callG f ?_
  simp
theorem num_spec (n : Int) (h : i64R n) : Says prog 16 [.int .i64 n] (.str (numS n)) [] := by
  refine Fn_G Go.Proofs.Tryd.func16 ok16 ?_
  have hl := numS_len h
  by_cases h0 : n = 0
  · subst h0
    simp [v16, r16, numS]
  have hdl : (decR n.natAbs).length ≤ 20 := by
    unfold numS at hl
    rw [if_neg h0] at hl
    split at hl
    · simp at hl; omega
    · exact hl
  simp [v16, r16, h0]
  refine G_whl (α := Int × List UInt8) (l := l16_0) (b := b16_0) rfl [5, 6, 7] (fun a => [(3, .str a.2), (4, .int .i64 a.1)]) (fun a => a.1.natAbs) (fun a => i64R a.1 ∧ decR a.1.natAbs ++ a.2 = decR n.natAbs) (n, []) ⟨h, by simp⟩ (by simp) ?_
  rintro ⟨x, s⟩ ⟨hx64, hI⟩ q hn hx hr
  simp only at hx64 hI
  by_cases c : x = 0
  · subst c
    have hs : s = decR n.natAbs := by rw [← hI]; rw [show (0 : Int).natAbs = 0 from rfl, decR, if_pos rfl]; rfl
    simp
    refine hx _ _ ?_
    by_cases h1 : n < 0
    · have hb : 1 + (decR n.natAbs).length ≤ bnd := by unfold bnd; omega
      simp [h1, numS, h0, hs, hb]
    · simp [h1, numS, h0, hs]
  · have hp : x.natAbs ≠ 0 := by omega
    rw [decR_pos hp] at hI
    have hll : 1 + s.length ≤ bnd := by
      have := congrArg List.length hI
      simp at this
      unfold bnd; omega
    have hda : (x.tdiv 10).natAbs = x.natAbs / 10 := by rw [Int.natAbs_tdiv]; rfl
    have hd64 : i64R (x.tdiv 10) := by
      have := hx64.1; have := hx64.2
      unfold i64R; omega
    have hdv : IntKind.i64.wrap (x.tdiv 10) = x.tdiv 10 := wrap64 hd64.1 hd64.2
    have hmd : ∃ d : Nat, d < 10 ∧ d = x.natAbs % 10 ∧ (0 ≤ x → x.tmod 10 = (d : Int)) ∧ (x < 0 → x.tmod 10 = -(d : Int)) := by
      refine ⟨x.natAbs % 10, by omega, rfl, fun h1 => ?_, fun h1 => ?_⟩
      · rw [Int.tmod_eq_emod_of_nonneg h1]; omega
      · have e : x.tmod 10 = -((-x).tmod 10) := by rw [Int.neg_tmod, Int.neg_neg]
        rw [e, Int.tmod_eq_emod_of_nonneg (by omega)]; omega
    obtain ⟨d, hd, hde, hm1, hm2⟩ := hmd
    rw [← hde] at hI
    have key : ∀ b : UInt8, b = UInt8.ofNat (48 + d) → decR (x.tdiv 10).natAbs ++ b :: s = decR n.natAbs := by
      rintro b rfl
      rw [hda, ← hI]; simp
    have hwd : IntKind.i64.wrap (48 + (d : Int)) = 48 + (d : Int) := by rw [wrap_small] <;> omega
    have hw0 : IntKind.i64.wrap ((d : Int)) = (d : Int) := by rw [wrap_small] <;> omega
    have hw8 : IntKind.u8.wrap (48 + (d : Int)) = 48 + (d : Int) := by simp [IntKind.wrap, IntKind.bits, IntKind.signed]; omega
    have ht : (48 + (d : Int)).toNat = 48 + d := by omega
    rcases Int.lt_or_le x 0 with h1 | h1
    · have e1 := hm2 h1
      by_cases hz : d = 0
      · subst hz
        simp at e1 hw8
        have h48 : IntKind.u8.wrap (IntKind.i64.wrap 48) = 48 := by decide
        simp [c, e1, hdv, splice, bytesOf, h48, hll]
        refine hn _ (x.tdiv 10, 48 :: s) (by simp) ⟨hd64, key _ (by decide)⟩ (by simp only; omega)
      · have h3 : 0 < d := by omega
        simp [c, e1, h3, hwd, hw0, hw8, hdv, splice, bytesOf, ht, hll]
        refine hn _ (x.tdiv 10, UInt8.ofNat (48 + d) :: s) (by simp) ⟨hd64, key _ rfl⟩ (by simp only; omega)
    · have e1 := hm1 h1
      have h3 : ¬ (d : Int) < 0 := by omega
      simp [c, e1, h3, hwd, hw8, hdv, splice, bytesOf, ht, hll]
      refine hn _ (x.tdiv 10, UInt8.ofNat (48 + d) :: s) (by simp) ⟨hd64, key _ rfl⟩ (by simp only; omega)
end Go.AmC
