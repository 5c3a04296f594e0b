/- Operations that leave memory alone. -/
import Derived.Test.YtodlnccdpbpokaaDoorAmOk
import Derived.Laws.Concat
import Derived.Laws.Strings
import Derived.Laws.BytesString
import Derived.ChangeKeysEq
set_option linter.unusedSimpArgs false
set_option linter.unusedVariables false
namespace Go.AM
open Go
section
variable {P : Program} {w : World} {Φ : Nat → Prop} {σ : Nat → Value} {ρ : List Value} {e : Env} {f : Cnt} {ν : List Nat} {a : Act} {o : Oper}

/-- An operation yields a value and leaves memory alone. -/
def Yields (P : Program) (w : World) (a : Act) (o : Oper) (cv : Value) : Prop := (execOp a.eval o).run P w = .ok (.value cv) w

theorem VR_int {k : IntKind} {n : Int} {v : Value} {g : Cnt} (h : VR P w Φ σ ρ (.int k n) v g) : v = .int k n := by simp only [VR] at h; exact h.1
theorem VR_bool {t : Bool} {v : Value} {g : Cnt} (h : VR P w Φ σ ρ (.bool t) v g) : v = .bool t := by simp only [VR] at h; exact h.1
theorem VR_str {s : List UInt8} {v : Value} {g : Cnt} (h : VR P w Φ σ ρ (.str s) v g) : v = .string ⟨s.toArray⟩ := by simp only [VR] at h; exact h.1
theorem mk_int {k : IntKind} {n : Int} : ∀ g : Cnt, (∀ b, g b = 0) → VR P w Φ σ ρ (.int k n) (.int k n) g := fun g hg => by unfold VR; exact ⟨rfl, hg⟩
theorem mk_bool {t : Bool} : ∀ g : Cnt, (∀ b, g b = 0) → VR P w Φ σ ρ (.bool t) (.bool t) g := fun g hg => by unfold VR; exact ⟨rfl, hg⟩
theorem mk_str {s : List UInt8} : ∀ g : Cnt, (∀ b, g b = 0) → VR P w Φ σ ρ (.str s) (.string ⟨s.toArray⟩) g := fun g hg => by unfold VR; exact ⟨rfl, hg⟩

abbrev PureRes (P : Program) (w : World) (Φ : Nat → Prop) (σ : Nat → Value) (ρ : List Value) (a : Act) (o : Oper) (v : AV) : Prop :=
  ∃ cv, Yields P w a o cv ∧ ∀ g : Cnt, (∀ b, g b = 0) → VR P w Φ σ ρ v cv g

section
variable (h : CR P w Φ σ ρ e ρ f) (hl : LK ν ρ e a.tmps)
include h hl

theorem p_mv {y : Opd} {v : AV} {e' : Env} (hok : okOp P ν o.op (.mv y) = true) (hx : opx e (.mv y) = some (v, e')) : e' = e ∧ PureRes P w Φ σ ρ a o v := by
  simp only [opx] at hx
  cases hv : ev e y with
  | none => simp [hv] at hx
  | some u =>
    simp [hv] at hx
    obtain ⟨rfl, rfl⟩ := hx
    refine ⟨rfl, ?_⟩
    simp only [okOp] at hok
    split at hok
    · rename_i x ho
      exact ⟨a.eval x, by simp [Yields, execOp, ho], fun g hg => ev_rel h hl hok hv g hg⟩
    · rename_i x ho
      exact ⟨a.eval x, by simp [Yields, execOp, ho], fun g hg => ev_rel h hl hok hv g hg⟩
    · cases hok

theorem p_pick {c x y : Opd} {v : AV} {e' : Env} (hok : okOp P ν o.op (.pick c x y) = true) (hx : opx e (.pick c x y) = some (v, e')) : e' = e ∧ PureRes P w Φ σ ρ a o v := by
  simp only [opx] at hx
  simp only [okOp] at hok
  split at hok
  · rename_i c' x' y' ho
    simp only [Bool.and_eq_true] at hok
    split at hx
    · rename_i t hc
      cases hv : ev e (if t = true then x else y) with
      | none => simp [hv] at hx
      | some u =>
        simp [hv] at hx
        obtain ⟨rfl, rfl⟩ := hx
        refine ⟨rfl, ?_⟩
        have hcv := VR_bool (ev_rel h hl hok.1.1 hc (fun _ => 0) (fun _ => rfl))
        cases t with
        | true => exact ⟨a.eval x', by simp [Yields, execOp, ho, hcv, asBool], fun g hg => ev_rel h hl hok.1.2 (by simpa using hv) g hg⟩
        | false => exact ⟨a.eval y', by simp [Yields, execOp, ho, hcv, asBool], fun g hg => ev_rel h hl hok.2 (by simpa using hv) g hg⟩
    · cases hx
  · cases hok

omit h hl in
theorem str_toList (s : List UInt8) : (⟨s.toArray⟩ : ByteArray).toList = s := by
  rw [ByteArray.toList_eq]
omit h hl in
theorem str_append (s s' : List UInt8) : (⟨s.toArray⟩ ++ ⟨s'.toArray⟩ : ByteArray) = ⟨(s ++ s').toArray⟩ := by
  apply ByteArray.ext
  rw [ByteArray.data_append]
  simp

def conc : AV → Value
  | .int k n => .int k n
  | .bool t => .bool t
  | .str s => .string ⟨s.toArray⟩
  | _ => undef
omit h hl in
theorem conc_rel {v : AV} (hv : isScalar v = true) (g : Cnt) (hg : ∀ b, g b = 0) : VR P w Φ σ ρ v (conc v) g := by
  cases v <;> simp [isScalar] at hv <;> (unfold VR; exact ⟨rfl, hg⟩)

omit h hl in
theorem bin_run {op : BinOp} {u1 u2 v : AV} (hp : plainOp op = true) (hb : binX op u1 u2 = some v) {x1 x2 : Value} (e1 : VR P w Φ σ ρ u1 x1 (fun _ => 0)) (e2 : VR P w Φ σ ρ u2 x2 (fun _ => 0)) (t : TypeId) (xo yo : Operand) :
    ((do eqGuard op t xo yo x1 x2; binOp op t x1 x2) : Sem Value).run P w = .ok (conc v) w ∧ isScalar v = true := by
  cases u1 <;> cases u2 <;> simp only [binX] at hb <;> try (cases hb; done)
  · rename_i k n k' n'
    obtain rfl := VR_int e1
    obtain rfl := VR_int e2
    split at hb
    · rename_i hk; subst hk
      cases op <;> simp [plainOp] at hp <;> simp only [Option.some.injEq] at hb
      case quo =>
        split at hb
        · cases hb
        · rename_i hn
          obtain rfl := Option.some.inj hb
          simp [eqGuard, binOp, Op.intDiv, hn, conc, isScalar]
      case rem =>
        split at hb
        · cases hb
        · rename_i hn
          obtain rfl := Option.some.inj hb
          simp [eqGuard, binOp, Op.intDiv, hn, conc, isScalar]
      all_goals
        subst hb
        simp [eqGuard, binOp, Op.intArith, Op.intCmp, Op.intBits, bitsX, conc, isScalar]
    · cases hb
  · rename_i s s'
    obtain rfl := VR_str e1
    obtain rfl := VR_str e2
    cases op <;> simp [plainOp] at hp <;> simp only [Option.some.injEq] at hb
    case add =>
      split at hb
      · rename_i hs
        obtain rfl := Option.some.inj hb
        have e1 : (⟨s.toArray⟩ : ByteArray).size = s.length := rfl
        have e2 : (⟨s'.toArray⟩ : ByteArray).size = s'.length := rfl
        have hle : (⟨s.toArray⟩ : ByteArray).size + (⟨s'.toArray⟩ : ByteArray).size ≤ 9223372036854775807 := by
          rw [e1, e2]; unfold bnd at hs; omega
        simp [eqGuard, binOp, run_string_add_sum (P := P) w _ _ hle, conc, isScalar, str_append]
      · cases hb
    all_goals first | (cases hb; done) | skip
    all_goals
      subst hb
      simp [eqGuard, binOp, Op.stringOp, str_toList, conc, isScalar, bne]

theorem p_bin {op : BinOp} {x y : Opd} {v : AV} {e' : Env} (hok : okOp P ν o.op (.bin op x y) = true) (hx : opx e (.bin op x y) = some (v, e')) : e' = e ∧ PureRes P w Φ σ ρ a o v := by
  simp only [opx] at hx
  simp only [okOp] at hok
  split at hok
  · rename_i op' t x' y' t' ho
    simp only [Bool.and_eq_true, decide_eq_true_eq] at hok
    obtain ⟨⟨⟨hx1, hy1⟩, rfl⟩, hp⟩ := hok
    cases h1 : ev e x with
    | none => simp [h1] at hx
    | some u1 =>
      cases h2 : ev e y with
      | none => simp [h1, h2] at hx
      | some u2 =>
        simp only [h1, h2] at hx
        cases hb : binX op u1 u2 with
        | none => simp [hb] at hx
        | some u =>
          simp [hb] at hx
          obtain ⟨rfl, rfl⟩ := hx
          obtain ⟨hr, hs⟩ := bin_run hp hb (ev_rel h hl hx1 h1 (fun _ => 0) (fun _ => rfl)) (ev_rel h hl hy1 h2 (fun _ => 0) (fun _ => rfl)) t x' y'
          refine ⟨rfl, conc u, ?_, conc_rel hs⟩
          unfold Yields
          have e0 : execOp a.eval o = (do pure (.value (← (do eqGuard op t x' y' (a.eval x') (a.eval y'); binOp op t (a.eval x') (a.eval y'))))) := by simp only [execOp, ho]
          rw [e0, Sem.run_bind, hr]
          rfl
  · cases hok

theorem p_beq {ne : Bool} {x y : Opd} {v : AV} {e' : Env} (hok : okOp P ν o.op (.beq ne x y) = true) (hx : opx e (.beq ne x y) = some (v, e')) : e' = e ∧ PureRes P w Φ σ ρ a o v := by
  simp only [opx] at hx
  simp only [okOp] at hok
  split at hok
  · rename_i op t x' y' t' ho
    simp only [Bool.and_eq_true] at hok
    obtain ⟨⟨⟨hx1, hy1⟩, hop⟩, ht⟩ := hok
    split at hx
    · rename_i a1 b1 h1 h2
      simp at hx
      obtain ⟨rfl, rfl⟩ := hx
      have e1 := VR_bool (ev_rel h hl hx1 h1 (fun _ => 0) (fun _ => rfl))
      have e2 := VR_bool (ev_rel h hl hy1 h2 (fun _ => 0) (fun _ => rfl))
      have ht' : P.underlying t = some .bool := by
        split at ht
        · rename_i h; exact h
        · cases ht
      have hq : ∀ d, (Op.equalIn (d + 1) t (.bool a1) (.bool b1)).run P w = .ok (a1 == b1) w := by
        intro d
        unfold Op.equalIn
        rw [Sem.run_bind, run_underlying ht']
        rfl
      have hq' : (Op.equal t (.bool a1) (.bool b1)).run P w = .ok (a1 == b1) w := hq 9999
      refine ⟨rfl, .bool (if ne then a1 != b1 else a1 == b1), ?_, mk_bool⟩
      unfold Yields
      cases op <;> simp at hop <;> subst hop
      · simp [execOp, ho, e1, e2, eqGuard, binOp, hq']
      · simp [execOp, ho, e1, e2, eqGuard, binOp, hq', bne]
    · cases hx
  · cases hok

theorem p_not {y : Opd} {v : AV} {e' : Env} (hok : okOp P ν o.op (.not y) = true) (hx : opx e (.not y) = some (v, e')) : e' = e ∧ PureRes P w Φ σ ρ a o v := by
  simp only [opx] at hx
  simp only [okOp] at hok
  split at hok
  · rename_i t x ho
    split at hx
    · rename_i b hb
      simp at hx
      obtain ⟨rfl, rfl⟩ := hx
      have c := VR_bool (ev_rel h hl hok hb (fun _ => 0) (fun _ => rfl))
      exact ⟨rfl, .bool (!b), by simp [Yields, execOp, ho, c, Op.unary], mk_bool⟩
    · cases hx
  · cases hok

theorem p_neg {y : Opd} {v : AV} {e' : Env} (hok : okOp P ν o.op (.neg y) = true) (hx : opx e (.neg y) = some (v, e')) : e' = e ∧ PureRes P w Φ σ ρ a o v := by
  simp only [opx] at hx
  simp only [okOp] at hok
  split at hok
  · rename_i t x ho
    split at hx
    · rename_i k n hb
      simp at hx
      obtain ⟨rfl, rfl⟩ := hx
      have c := VR_int (ev_rel h hl hok hb (fun _ => 0) (fun _ => rfl))
      exact ⟨rfl, .int k (k.wrap (0 - n)), by simp [Yields, execOp, ho, c, Op.unary, Op.intArith], by simpa using mk_int⟩
    · cases hx
  · cases hok

theorem p_conv {k : IntKind} {y : Opd} {v : AV} {e' : Env} (hok : okOp P ν o.op (.conv k y) = true) (hx : opx e (.conv k y) = some (v, e')) : e' = e ∧ PureRes P w Φ σ ρ a o v := by
  simp only [opx] at hx
  simp only [okOp] at hok
  split at hok
  · rename_i s t x ho
    simp only [Bool.and_eq_true] at hok
    obtain ⟨⟨hx1, hs⟩, ht⟩ := hok
    split at hx
    · rename_i k0 n hb
      simp at hx
      obtain ⟨rfl, rfl⟩ := hx
      have c := VR_int (ev_rel h hl hx1 hb (fun _ => 0) (fun _ => rfl))
      split at hs
      · rename_i ks hus
        split at ht
        · rename_i k' hut
          simp at ht; subst ht
          exact ⟨rfl, .int k (k.wrap n), by simp [Yields, execOp, ho, c, convert, run_underlying hus, run_underlying hut, Conv.intToInt], mk_int⟩
        · cases ht
      · cases hs
    · cases hx
  · cases hok

theorem p_mkf {g0 : Nat} {ys : List Opd} {v : AV} {e' : Env} (hok : okOp P ν o.op (.mkf g0 ys) = true) (hx : opx e (.mkf g0 ys) = some (v, e')) : e' = e ∧ PureRes P w Φ σ ρ a o v := by
  simp only [opx] at hx
  simp only [okOp] at hok
  split at hok
  · rename_i f' first caps ho
    simp only [Bool.and_eq_true] at hok
    obtain ⟨⟨hf, h1⟩, h2⟩ := hok
    cases hv : evs e ys with
    | none => simp [hv] at hx
    | some vs =>
      simp only [hv] at hx
      by_cases hcap : vs.all capOk = true
      case neg => simp [hcap] at hx
      rw [if_pos hcap] at hx
      simp only [Option.some.injEq, Prod.mk.injEq] at hx
      obtain ⟨rfl, rfl⟩ := hx
      have hc := evs_rel h hl h2 hv
      have hfirst : first = #[] := by simpa using h1
      subst hfirst
      have hff : g0 = f' := by simpa using hf
      subst hff
      refine ⟨rfl, .func (.func g0) #[] (caps.map a.eval), by simp [Yields, execOp, ho, Instr.makeFunc], fun g hg => ?_⟩
      simp only [VR]
      exact ⟨_, rfl, fun c hc1 => by
        have := List.all_eq_true.1 hcap c hc1
        simp only [capOk, Bool.or_eq_true] at this
        exact this.imp id isFz_hr, by rw [Zf hg]; simpa using hc⟩
  · cases hok

theorem p_faddr {off : Nat} {y : Opd} {v : AV} {e' : Env} (hok : okOp P ν o.op (.faddr off y) = true) (hx : opx e (.faddr off y) = some (v, e')) : e' = e ∧ PureRes P w Φ σ ρ a o v := by
  simp only [opx] at hx
  simp only [okOp] at hok
  split at hok
  · rename_i s x fi ho
    simp only [Bool.and_eq_true] at hok
    obtain ⟨hx1, hs⟩ := hok
    split at hs
    · rename_i fs hu
      split at hs
      · rename_i fd hfd
        simp only [Bool.and_eq_true, beq_iff_eq] at hs
        obtain ⟨rfl, hs⟩ := hs
        split at hs
        · rename_i sz hsz
          simp at hs
          simp only [szOf, Option.map_eq_some_iff] at hsz
          obtain ⟨i, hi, rfl⟩ := hsz
          have hne : ¬ i.size = 0 := by omega
          split at hx
          · rename_i cs hv
            split at hx
            · rename_i hle
              simp at hx
              obtain ⟨rfl, rfl⟩ := hx
              have c := ev_rel h hl hx1 hv (fun _ => 0) (fun _ => rfl)
              simp only [VR] at c
              obtain ⟨⟨ad, e1, hfc⟩, _⟩ := c
              refine ⟨rfl, .pointer (some (ad.add fd.offset)), ?_, fun g hg => ?_⟩
              · simp [Yields, execOp, ho, e1, Instr.fieldAt, run_underlying hu, hfd, Instr.sureAddr, fieldPlace, sizeOf, typeInfo, hi, hne]
              · simp only [VR]
                refine ⟨⟨_, rfl, ?_⟩, hg⟩
                have := FC_drop fd.offset hfc
                simpa using this
            · cases hx
          · rename_i r p o0 hv
            simp at hx
            obtain ⟨rfl, rfl⟩ := hx
            have c := ev_rel h hl hx1 hv (fun _ => 0) (fun _ => rfl)
            simp only [VR] at c
            obtain ⟨⟨b0, row, hw, e1⟩, _⟩ := c
            refine ⟨rfl, .pointer (some ⟨b0, o0 + fd.offset, none⟩), ?_, fun g hg => ?_⟩
            · simp [Yields, execOp, ho, e1, Instr.fieldAt, run_underlying hu, hfd, Instr.sureAddr, fieldPlace, sizeOf, typeInfo, hi, hne, add_lit]
            · simp only [VR]
              exact ⟨⟨b0, row, hw, rfl⟩, hg⟩
          · cases hx
        · cases hs
      · cases hs
    · cases hs
  · cases hok

theorem p_iaddr {sz : Nat} {y i : Opd} {v : AV} {e' : Env} (hok : okOp P ν o.op (.iaddr sz y i) = true) (hsep : ∀ b, f b ≤ 1) (hx : opx e (.iaddr sz y i) = some (v, e')) : e' = e ∧ PureRes P w Φ σ ρ a o v := by
  simp only [opx] at hx
  simp only [okOp] at hok
  split at hok
  · rename_i t x i' ho
    simp only [Bool.and_eq_true] at hok
    obtain ⟨⟨hx1, hi1⟩, hs⟩ := hok
    split at hs
    · rename_i el hu
      simp only [szOf, beq_iff_eq, Option.map_eq_some_iff] at hs
      obtain ⟨inf, hinf, rfl⟩ := hs
      split at hx
      · rename_i n cs k q hv hi
        have c := ev_rel h hl hx1 hv (fun _ => 0) (fun _ => rfl)
        have ci := VR_int (ev_rel h hl hi1 hi (fun _ => 0) (fun _ => rfl))
        split at hx
        · rename_i hq
          simp at hx
          obtain ⟨rfl, rfl⟩ := hx
          simp only [VR] at c
          obtain ⟨⟨ao, cap, e1, hcap, hne, hfc⟩, _⟩ := c
          cases ao with
          | none => have := hne rfl; omega
          | some ad =>
            refine ⟨rfl, .pointer (some (ad.add (q.toNat * inf.size))), ?_, fun g hg => ?_⟩
            · simp [Yields, execOp, ho, e1, ci, Instr.indexAt, asIntOf, run_underlying hu, hq, sizeOf, typeInfo, hinf]
            · simp only [VR]
              refine ⟨⟨_, rfl, ?_⟩, hg⟩
              have := FC_drop (q.toNat * inf.size) hfc
              simpa using this
        · cases hx
      · rename_i r p o0 k q hv hi
        have c := ev_rel h hl hx1 hv (fun _ => 0) (fun _ => rfl)
        have ci := VR_int (ev_rel h hl hi1 hi (fun _ => 0) (fun _ => rfl))
        cases hrow : rowE e r p with
        | none => simp [hrow] at hx
        | some row =>
          simp only [hrow] at hx
          split at hx
          · rename_i et n cs hro
            split at hx
            · rename_i hq
              simp at hx
              obtain ⟨rfl, rfl⟩ := hx
              simp only [VR] at c
              obtain ⟨⟨bo, row0, ao, n0, c0, hw, hv0, e1⟩, _⟩ := c
              obtain ⟨bo', cvs, f1, f2, hw', hcr, hf, _, _⟩ := env_focus h hsep hrow
              rw [hw] at hw'
              obtain ⟨rfl, rfl⟩ : bo = bo' ∧ row0 = cvs := by simpa using hw'
              obtain ⟨cv, g1, g2, hcv, hvr, hff, _⟩ := CR_get o0 hcr hro
              obtain ⟨hcv0, _⟩ := get_take_lt hcv
              rw [hv0] at hcv0
              obtain rfl := Option.some.inj hcv0
              simp only [VR] at hvr
              obtain ⟨_, _, xs, f1', ho1, _⟩ := hvr
              rcases ho1.2 with ⟨e2, rfl⟩ | ⟨b, cap, cur, e2, h0, hg, hn, hm, hs, ht⟩
              · omega
              · rw [e2] at e1 hv0
                cases e1
                refine ⟨rfl, .pointer (some ⟨b, q.toNat * inf.size, none⟩), ?_, fun g hg => ?_⟩
                · simp [Yields, execOp, ho, e2, ci, Instr.indexAt, asIntOf, run_underlying hu, hq, sizeOf, typeInfo, hinf, add_lit]
                · simp only [VR]
                  exact ⟨⟨b, cur.toList, walk_snoc _ _ _ _ _ _ _ _ _ hw hv0 rfl (by simp [brow, *]), rfl⟩, hg⟩
            · cases hx
          · cases hx
      · cases hx
    · cases hs
  · cases hok

theorem p_idx {y i : Opd} {v : AV} {e' : Env} (hok : okOp P ν o.op (.idx y i) = true) (hx : opx e (.idx y i) = some (v, e')) : e' = e ∧ PureRes P w Φ σ ρ a o v := by
  simp only [opx] at hx
  simp only [okOp] at hok
  split at hok
  · rename_i t x i' ho
    simp only [Bool.and_eq_true] at hok
    obtain ⟨⟨hx1, hi1⟩, hs⟩ := hok
    split at hs
    · rename_i hu
      split at hx
      · rename_i s k q hv hi
        have c := VR_str (ev_rel h hl hx1 hv (fun _ => 0) (fun _ => rfl))
        have ci := VR_int (ev_rel h hl hi1 hi (fun _ => 0) (fun _ => rfl))
        split at hx
        · rename_i hq
          simp at hx
          obtain ⟨rfl, rfl⟩ := hx
          refine ⟨rfl, .int .u8 ((s.getD q.toNat 0).toNat), ?_, fun g hg => ?_⟩
          · have hlt : q.toNat < s.length := by omega
            have e2 : (⟨s.toArray⟩ : ByteArray)[q.toNat]? = some s[q.toNat] := by
              rw [getElem?_pos (⟨s.toArray⟩ : ByteArray) q.toNat (by show q.toNat < s.length; exact hlt)]
              rfl
            simp [Yields, execOp, ho, c, ci, Instr.index, asIntOf, run_underlying hu, hq, e2, hlt]
          · simpa using mk_int g hg
        · cases hx
      · cases hx
    · cases hs
  · cases hok

theorem p_minmax {mx : Bool} {y z : Opd} {v : AV} {e' : Env} (hok : okOp P ν o.op (.minmax mx y z) = true) (hx : opx e (.minmax mx y z) = some (v, e')) : e' = e ∧ PureRes P w Φ σ ρ a o v := by
  simp only [opx] at hx
  simp only [okOp] at hok
  split at hok
  · rename_i c ho
    split at hx
    · rename_i k n k' n' h1 h2
      split at hx
      · rename_i hk; subst hk
        simp at hx
        obtain ⟨rfl, rfl⟩ := hx
        split at hok
        · rename_i x1 x2 hcal hargs
          simp only [Bool.and_eq_true] at hok
          obtain ⟨⟨hx1, hx2⟩, rfl⟩ := hok
          have c1 := VR_int (ev_rel h hl hx1 h1 (fun _ => 0) (fun _ => rfl))
          have c2 := VR_int (ev_rel h hl hx2 h2 (fun _ => 0) (fun _ => rfl))
          refine ⟨rfl, .int k (if n' > n then n' else n), ?_, by simpa using mk_int⟩
          have ha : c.args.map a.eval = #[a.eval x1, a.eval x2] := by
            have : c.args = #[x1, x2] := by rw [← Array.toArray_toList (xs := c.args), hargs]
            rw [this]; simp
          simp [Yields, execOp, ho, resolve, hcal, ha, invoke, builtin, c1, c2, Builtin.max_, Builtin.max2]
        · rename_i x1 x2 hcal hargs
          simp only [Bool.and_eq_true, Bool.not_eq_true'] at hok
          obtain ⟨⟨hx1, hx2⟩, rfl⟩ := hok
          have c1 := VR_int (ev_rel h hl hx1 h1 (fun _ => 0) (fun _ => rfl))
          have c2 := VR_int (ev_rel h hl hx2 h2 (fun _ => 0) (fun _ => rfl))
          refine ⟨rfl, .int k (if n' < n then n' else n), ?_, by simpa using mk_int⟩
          have ha : c.args.map a.eval = #[a.eval x1, a.eval x2] := by
            have : c.args = #[x1, x2] := by rw [← Array.toArray_toList (xs := c.args), hargs]
            rw [this]; simp
          simp [Yields, execOp, ho, resolve, hcal, ha, invoke, builtin, c1, c2, Builtin.min_, Builtin.min2]
        · cases hok
      · cases hx
    · cases hx
  · cases hok

theorem p_len {st : Bool} {y : Opd} {v : AV} {e' : Env} (hok : okOp P ν o.op (.len st y) = true) (hsep : ∀ b, f b ≤ 1) (hx : opx e (.len st y) = some (v, e')) : e' = e ∧ PureRes P w Φ σ ρ a o v := by
  simp only [opx] at hx
  simp only [okOp] at hok
  split at hok
  · rename_i c ho
    split at hok
    · rename_i x t hcal hargs htys
      simp only [Bool.and_eq_true] at hok
      obtain ⟨hx1, hu⟩ := hok
      have ha : c.args.map a.eval = #[a.eval x] := by
        have : c.args = #[x] := by rw [← Array.toArray_toList (xs := c.args), hargs]
        rw [this]; simp
      have hty : c.argTypes = #[t] := by rw [← Array.toArray_toList (xs := c.argTypes), htys]
      cases hv : ev e y with
      | none => simp [hv] at hx
      | some u =>
        simp only [hv] at hx
        cases hn : lenX e st u with
        | none => simp [hn] at hx
        | some n =>
          simp [hn] at hx
          obtain ⟨rfl, rfl⟩ := hx
          refine ⟨rfl, .int .i64 n, ?_, mk_int⟩
          have c1 := ev_rel h hl hx1 hv (fun _ => 0) (fun _ => rfl)
          split at hu
          · rename_i el hu'
            simp at hu; subst hu
            have slen : ∀ (ao : Option Addr) (m cap : Nat), a.eval x = .slice ao m cap → m = n → Yields P w a o (.int .i64 n) := by
              intro ao m cap e1 hm
              subst hm
              simp [Yields, execOp, ho, resolve, hcal, ha, hty, invoke, builtin, e1, Builtin.len_, run_underlying hu', goInt]
            cases u <;> simp [lenX] at hn
            · subst hn
              simp only [VR] at c1
              obtain ⟨⟨ao, cap, e1, _⟩, _⟩ := c1
              exact slen _ _ _ e1 rfl
            · subst hn
              simp only [VR] at c1
              obtain ⟨⟨ao, cap, e1, _⟩, _⟩ := c1
              exact slen _ _ _ e1 rfl
            · rename_i r p o0
              split at hn
              · rename_i row hrow
                split at hn
                · rename_i et n1 cs hro
                  simp at hn; subst hn
                  simp only [VR] at c1
                  obtain ⟨⟨bo, row0, ao, n0, c0, hw, hv0, e1⟩, _⟩ := c1
                  obtain ⟨bo', cvs, f1, f2, hw', hcr, hf, _, _⟩ := env_focus h hsep hrow
                  rw [hw] at hw'
                  obtain ⟨rfl, rfl⟩ : bo = bo' ∧ row0 = cvs := by simpa using hw'
                  obtain ⟨cv, g1, g2, hcv, hvr, hff, _⟩ := CR_get o0 hcr hro
                  obtain ⟨hcv0, _⟩ := get_take_lt hcv
                  rw [hv0] at hcv0
                  obtain rfl := Option.some.inj hcv0
                  simp only [VR] at hvr
                  obtain ⟨_, _, xs, f1', ho1, _⟩ := hvr
                  obtain ⟨a2, c2, e2, _⟩ := ownsRow_slice ho1
                  exact slen _ _ _ e2 rfl
                · cases hn
              · cases hn
          · rename_i hu'
            subst hu
            cases u <;> simp [lenX] at hn
            subst hn
            have e1 := VR_str c1
            have e2 : ∀ s : List UInt8, (⟨s.toArray⟩ : ByteArray).size = s.length := fun _ => rfl
            simp [Yields, execOp, ho, resolve, hcal, ha, hty, invoke, builtin, e1, Builtin.len_, run_underlying hu', goInt]
            exact congrArg Int.ofNat (e2 _)
          · cases hu
    · cases hok
  · cases hok

theorem optI_rel {d : Nat} {x : Option Operand} {y : Option Opd} {i : Int} (hok : okOpt ν x y = true) (hv : optI e d y = some i) :
    (y = none ∧ x = none ∧ i = d) ∨ ∃ k x', x = some x' ∧ a.eval x' = .int k i := by
  cases y with
  | none =>
    cases x with
    | none => simp [optI] at hv; exact .inl ⟨rfl, rfl, hv.symm⟩
    | some x => simp [okOpt] at hok
  | some y =>
    cases x with
    | none => simp [okOpt] at hok
    | some x =>
      simp only [okOpt] at hok
      simp only [optI] at hv
      split at hv
      · rename_i k i' h1
        simp at hv; subst hv
        exact .inr ⟨k, x, rfl, VR_int (ev_rel h hl hok h1 (fun _ => 0) (fun _ => rfl))⟩
      · cases hv

omit h hl in
theorem run_bounds (isSlice : Bool) {len cap : Nat} {lo hi : Option Operand} {l h : Int} (hlo : (lo = none ∧ l = 0) ∨ ∃ k x', lo = some x' ∧ a.eval x' = .int k l)
    (hhi : (hi = none ∧ h = len) ∨ ∃ k x', hi = some x' ∧ a.eval x' = .int k h) (h0 : 0 ≤ l) (h1 : l ≤ h) (h2 : h ≤ len) (hc : len ≤ cap) :
    (Instr.sliceBounds isSlice len cap (lo.map a.eval) (hi.map a.eval) none).run P w = .ok (l.toNat, h.toNat, cap) w := by
  have h3 : h ≤ (cap : Int) := by omega
  have h4 : 0 ≤ h := by omega
  have h5 : l ≤ (h.toNat : Int) := by omega
  rcases hlo with ⟨rfl, rfl⟩ | ⟨k, x', rfl, e1⟩ <;> rcases hhi with ⟨rfl, rfl⟩ | ⟨k', y', rfl, e2⟩
  · simp [Instr.sliceBounds]
  · simp [Instr.sliceBounds, Instr.sliceBound, asIntOf, e2, h3, h4]
  · simp [Instr.sliceBounds, Instr.sliceBound, asIntOf, e1, h0]; omega
  · simp [Instr.sliceBounds, Instr.sliceBound, asIntOf, e1, e2, h0, h3, h4]; omega

theorem p_slice {st : Bool} {sz : Nat} {y : Opd} {lo hi : Option Opd} {v : AV} {e' : Env} (hok : okOp P ν o.op (.slice st sz y lo hi) = true) (hx : opx e (.slice st sz y lo hi) = some (v, e')) : e' = e ∧ PureRes P w Φ σ ρ a o v := by
  simp only [opx] at hx
  simp only [okOp] at hok
  split at hok
  · rename_i t x lo' hi' ho
    simp only [Bool.and_eq_true] at hok
    obtain ⟨⟨⟨hx1, hlo⟩, hhi⟩, hu⟩ := hok
    split at hx
    · rename_i n cs hv
      split at hx
      · rename_i l h1 h2 h3
        split at hx
        · rename_i hb
          simp at hx
          obtain ⟨rfl, rfl⟩ := hx
          have c1 := ev_rel h hl hx1 hv (fun _ => 0) (fun _ => rfl)
          simp only [VR] at c1
          obtain ⟨⟨ao, cap, e1, hcap, hne, hfc⟩, _⟩ := c1
          split at hu
          · rename_i el hu'
            simp only [Bool.not_false, Bool.true_and, szOf, beq_iff_eq, Option.map_eq_some_iff] at hu
            obtain ⟨inf, hinf, rfl⟩ := hu
            have k1 : (lo' = none ∧ l = 0) ∨ ∃ k x', lo' = some x' ∧ a.eval x' = .int k l := by
              rcases optI_rel h hl hlo h2 with ⟨_, e1, e2⟩ | e; exact .inl ⟨e1, by simpa using e2⟩; exact .inr e
            have k2 : (hi' = none ∧ h1 = n) ∨ ∃ k x', hi' = some x' ∧ a.eval x' = .int k h1 := by
              rcases optI_rel h hl hhi h3 with ⟨_, e1, e2⟩ | e; exact .inl ⟨e1, by simpa using e2⟩; exact .inr e
            have hr := run_bounds (P := P) (w := w) true k1 k2 hb.1 hb.2.1 hb.2.2 hcap
            refine ⟨rfl, .slice (if cap = l.toNat then ao else ao.map (·.add (l.toNat * inf.size))) (h1.toNat - l.toNat) (cap - l.toNat), ?_, fun g hg => ?_⟩
            · simp [Yields, execOp, ho, e1, Instr.sliceAt, run_underlying hu', Instr.slice, hr, sizeOf, typeInfo, hinf]
            · simp only [VR]
              have e3 : (h1 - l).toNat = h1.toNat - l.toNat := by omega
              refine ⟨⟨_, _, by rw [e3], by omega, fun hn => ?_, ?_⟩, hg⟩
              · split at hn
                · have := hne hn; omega
                · cases ao with
                  | none => have := hne rfl; omega
                  | some ad => simp at hn
              · split
                · rename_i hcl
                  have : (h1 - l).toNat = 0 := by omega
                  rw [this]; simp only [Nat.zero_mul, List.take_zero, FC]
                · cases ao with
                  | none =>
                    have : (h1 - l).toNat = 0 := by have := hne rfl; omega
                    rw [this]; simp only [Nat.zero_mul, List.take_zero, FC]
                  | some ad =>
                    have := FC_take ((h1 - l).toNat * inf.size) (FC_drop (l.toNat * inf.size) hfc)
                    simpa using this
          · cases hu
          · cases hu
        · cases hx
      · cases hx
    · rename_i s hv
      split at hx
      · rename_i l h1 h2 h3
        split at hx
        · rename_i hb
          simp at hx
          obtain ⟨rfl, rfl⟩ := hx
          have e1 := VR_str (ev_rel h hl hx1 hv (fun _ => 0) (fun _ => rfl))
          split at hu
          · simp at hu
          · rename_i hu'
            have k1 : (lo' = none ∧ l = 0) ∨ ∃ k x', lo' = some x' ∧ a.eval x' = .int k l := by
              rcases optI_rel h hl hlo h2 with ⟨_, e1, e2⟩ | e; exact .inl ⟨e1, by simpa using e2⟩; exact .inr e
            have k2 : (hi' = none ∧ h1 = s.length) ∨ ∃ k x', hi' = some x' ∧ a.eval x' = .int k h1 := by
              rcases optI_rel h hl hhi h3 with ⟨_, e1, e2⟩ | e; exact .inl ⟨e1, by simpa using e2⟩; exact .inr e
            have hr := run_bounds (P := P) (w := w) false k1 k2 hb.1 hb.2.1 hb.2.2 (Nat.le_refl _)
            have e2 : (⟨s.toArray⟩ : ByteArray).size = s.length := rfl
            have e3 : (⟨s.toArray⟩ : ByteArray).extract l.toNat h1.toNat = ⟨((s.drop l.toNat).take (h1 - l).toNat).toArray⟩ := by
              apply ByteArray.ext
              rw [ByteArray.data_extract]
              have : (h1 - l).toNat = h1.toNat - l.toNat := by omega
              rw [this]
              simp [List.extract_eq_take_drop]
            refine ⟨rfl, .string ⟨((s.drop l.toNat).take (h1 - l).toNat).toArray⟩, ?_, mk_str⟩
            simp [Yields, execOp, ho, e1, Instr.sliceAt, run_underlying hu', Instr.slice, e2, hr, e3]
          · cases hu
        · cases hx
      · cases hx
    · cases hx
  · cases hok

omit h hl in
/-- Some cells, loaded as a variable of a type. -/
theorem run_loadVar {t : TypeId} {sz : Nat} {ag : Bool} (hag : isAggP P t = some ag) (hsz : (if ag then szOf P t == some sz else sz == 1) = true) {ad : Addr} {us : List Value} (hu : us.length = sz)
    (hc : ∀ i u, us[i]? = some u → w.cell? (ad.add i) = some u) : (loadVar t ad).run P w = .ok (if ag then .agg us.toArray else us.headD undef) w := by
  simp only [isAggP, Option.map_eq_some_iff] at hag
  obtain ⟨d, hd, hag⟩ := hag
  have hisagg : (isAgg t).run P w = .ok ag w := by
    unfold isAgg
    rw [Sem.run_bind, run_underlying hd]
    simp only [Result.andThen_ok]
    subst hag
    cases d <;> rfl
  cases ag with
  | true =>
    simp only [if_true, szOf, beq_iff_eq, Option.map_eq_some_iff] at hsz
    obtain ⟨inf, hinf, hs⟩ := hsz
    have hl := run_loadCells_list (P := P) w ad us hc
    unfold loadVar
    rw [Sem.run_bind, hisagg]
    simp [sizeOf, typeInfo, hinf, hs, ← hu, hl]
  | false =>
    simp at hsz; subst hsz
    match us, hu with
    | [u], _ =>
      have := hc 0 u rfl
      rw [show ad.add 0 = ad by simp [Addr.add]] at this
      unfold loadVar
      rw [Sem.run_bind, hisagg]
      simp [this]

omit h hl in
theorem mkv_rel {ag : Bool} {cs : List AV} {v : AV} {us : List Value} (hm : mkv ag cs = some v) (hc : CR P w Φ σ ρ cs us (fun _ => 0)) (g : Cnt) (hg : ∀ b, g b = 0) :
    VR P w Φ σ ρ v (if ag then .agg us.toArray else us.headD undef) g := by
  rw [Zf hg]
  cases ag with
  | true =>
    simp [mkv] at hm; subst hm
    simp only [if_true, VR]
    exact ⟨_, rfl, by simpa using hc⟩
  | false =>
    simp [mkv] at hm
    split at hm
    · rename_i c
      simp at hm; subst hm
      simp only [CR] at hc
      obtain ⟨u, us', f1, f2, rfl, h1, ⟨rfl, h2⟩, h3⟩ := hc
      have : f1 = fun _ => 0 := funext fun b => by have : 0 = f1 b + f2 b := h3 b; omega
      simpa [this] using h1
    · cases hm

theorem p_load {sz : Nat} {ag : Bool} {y : Opd} {v : AV} {e' : Env} (hok : okOp P ν o.op (.load sz ag y) = true) (hsep : ∀ b, f b ≤ 1) (hx : opx e (.load sz ag y) = some (v, e')) : e' = e ∧ PureRes P w Φ σ ρ a o v := by
  simp only [opx] at hx
  simp only [okOp] at hok
  split at hok
  · rename_i t x ho
    simp only [Bool.and_eq_true, beq_iff_eq] at hok
    obtain ⟨⟨hx1, hag⟩, hsz⟩ := hok
    split at hx
    · rename_i cs hv
      split at hx
      · rename_i hle
        split at hx
        · rename_i u hm
          simp at hx
          obtain ⟨rfl, rfl⟩ := hx
          have c1 := ev_rel h hl hx1 hv (fun _ => 0) (fun _ => rfl)
          simp only [VR] at c1
          obtain ⟨⟨ad, e1, hfc⟩, _⟩ := c1
          obtain ⟨us, h1, h2⟩ := FC_cells (FC_take sz hfc)
          have hlen : us.length = sz := by rw [← CR_length h1]; simp; omega
          have hr := run_loadVar (P := P) (w := w) hag hsz hlen (fun i u hi => by have := h2 i u hi; rwa [Nat.zero_add] at this)
          exact ⟨rfl, _, by simp only [Yields, execOp, ho, e1, Instr.loadAt, Instr.sureAddr]; simp only [pure_bind, Sem.run_bind, hr, Result.andThen_ok]; rfl, fun g hg => mkv_rel hm h1 g hg⟩
        · cases hx
      · cases hx
    · rename_i r p o0 hv
      split at hx
      · rename_i row hrow
        split at hx
        · rename_i hle
          split at hx
          · rename_i u hm
            simp at hx
            obtain ⟨rfl, rfl⟩ := hx
            have c1 := ev_rel h hl hx1 hv (fun _ => 0) (fun _ => rfl)
            simp only [VR] at c1
            obtain ⟨⟨b0, row0, hw, e1⟩, _⟩ := c1
            obtain ⟨bo', cvs, f1, f2, hw', hcr, hf, _, hblk⟩ := env_focus h hsep hrow
            have hw2 := hw
            rw [hw] at hw'
            obtain ⟨rfl, rfl⟩ : some b0 = bo' ∧ row0 = cvs := by simpa using hw'
            have hp : p ≠ [] := by
              rintro rfl
              simp [walk] at hw
            obtain ⟨b, tt, arr, e2, hheap, rfl, _, _⟩ := hblk hp
            obtain rfl := Option.some.inj e2
            obtain ⟨k1, k2, hc1, hc2, hk⟩ := CR_take_drop o0 hcr
            obtain ⟨m1, m2, hd1, hd2, hm2⟩ := CR_take_drop sz hc2
            have hlz := lzc_rel hw2 _ o0 _ _ (fun _ => 0) hd1 (fun i u hi => by
              rw [List.getElem?_take] at hi
              split at hi
              · rw [List.getElem?_drop, List.getElem?_take] at hi
                split at hi
                · exact hi
                · cases hi
              · cases hi) (fun _ => rfl)
            have hlen : (((arr.toList.take row.length).drop o0).take sz).length = sz := by
              have := CR_length hcr
              simp only [List.length_take, List.length_drop] at this ⊢
              omega
            have hr := run_loadVar (P := P) (w := w) (ad := ⟨b0, o0, none⟩) hag hsz hlen (fun i u hi => by
              rw [add_lit, cell_of_row w b0 _ arr tt (0, 0) hheap]
              rw [List.getElem?_take] at hi
              split at hi
              · rw [List.getElem?_drop, List.getElem?_take] at hi
                split at hi
                · simpa using hi
                · cases hi
              · cases hi)
            exact ⟨rfl, _, by simp only [Yields, execOp, ho, e1, Instr.loadAt, Instr.sureAddr]; simp only [pure_bind, Sem.run_bind, hr, Result.andThen_ok]; rfl, fun g hg => mkv_rel hm hlz g hg⟩
          · cases hx
        · cases hx
      · cases hx
    · cases hx
  · cases hok

omit h hl in
theorem flat_at : ∀ {vs : List Value} {ix : Nat} {v : Value}, vs[ix]? = some v → ∃ rest, (flatV vs).drop (offT (vs.map shp) ix) = v.cells.toList ++ rest
  | v0 :: vs, 0, v, h => by simp at h; subst h; exact ⟨flatV vs, by simp [offT, flatV]⟩
  | v0 :: vs, ix + 1, v, h => by
    simp at h
    obtain ⟨rest, hr⟩ := flat_at h
    refine ⟨rest, ?_⟩
    have e1 : (v0.cells.toList).length = (shp v0).getD 1 := by cases v0 <;> rfl
    simp only [List.map_cons, offT, flatV, List.flatMap_cons]
    rw [List.drop_append, ← e1]
    have : List.drop (v0.cells.toList.length + offT (List.map shp vs) ix) v0.cells.toList = [] := List.drop_of_length_le (by omega)
    rw [this, List.nil_append, show v0.cells.toList.length + offT (List.map shp vs) ix - v0.cells.toList.length = offT (List.map shp vs) ix by omega]
    exact hr

theorem p_mvt {j : Nat} {v : AV} {e' : Env} (hok : okOp P ν o.op (.mvt j) = true) (hx : opx e (.mvt j) = some (v, e')) : e' = e ∧ PureRes P w Φ σ ρ a o v := by
  simp only [opx] at hx
  split at hx
  · rename_i sh cs hej
    simp only [Option.some.injEq, Prod.mk.injEq] at hx
    obtain ⟨rfl, rfl⟩ := hx
    refine ⟨rfl, ?_⟩
    obtain ⟨cv, g1, g2, hcv, hvr, _, _⟩ := CR_get j h hej
    simp only [VR] at hvr
    obtain ⟨arr, rfl, hsh, hcs⟩ := hvr
    have hro : rowOf ρ j = flatV arr.toList := by simp [rowOf, hcv, cellsV]
    have hw : walk w none (rowOf ρ j) [] = some (none, flatV arr.toList) := by rw [hro]; rfl
    have hrel : ∀ g, (∀ b, g b = 0) → VR P w Φ σ ρ (.tup sh (lzc j [] 0 cs)) (.tuple arr) g := fun g hg => by
      simp only [VR]
      exact ⟨arr, rfl, hsh, lzc_rel hw cs 0 _ _ _ hcs (fun i v hi => by simpa using hi) hg⟩
    have hev : ∀ x, okX ν x (.slot j) = true → a.eval x = .tuple arr := by
      intro x hx1
      cases x <;> simp [okX] at hx1
      rename_i t
      rcases hl j _ hcv with hu | ⟨t', ht, he⟩
      · cases hu
      · rw [hx1] at ht; obtain rfl := Option.some.inj ht; exact he
    simp only [okOp] at hok
    split at hok
    · rename_i x ho
      exact ⟨a.eval x, by simp [Yields, execOp, ho], fun g hg => by rw [hev x hok]; exact hrel g hg⟩
    · rename_i x ho
      exact ⟨a.eval x, by simp [Yields, execOp, ho], fun g hg => by rw [hev x hok]; exact hrel g hg⟩
    · cases hok
  · cases hx
theorem p_ext {j ix : Nat} {v : AV} {e' : Env} (hok : okOp P ν o.op (.ext j ix) = true) (hx : opx e (.ext j ix) = some (v, e')) : e' = e ∧ PureRes P w Φ σ ρ a o v := by
  simp only [opx] at hx
  simp only [okOp] at hok
  split at hok
  · rename_i x i ho
    simp only [Bool.and_eq_true, beq_iff_eq] at hok
    obtain ⟨hx1, rfl⟩ := hok
    split at hx
    · rename_i sh cs hej
      obtain ⟨cv, g1, g2, hcv, hvr, _, _⟩ := CR_get j h hej
      simp only [VR] at hvr
      obtain ⟨arr, rfl, hsh, hcs⟩ := hvr
      have hro : rowOf ρ j = flatV arr.toList := by simp [rowOf, hcv, cellsV]
      have hw : walk w none (rowOf ρ j) [] = some (none, flatV arr.toList) := by rw [hro]; rfl
      cases x <;> simp [okX] at hx1
      rename_i t
      have hlen : arr.toList.length = sh.length := by rw [← hsh]; simp
      have hev : ∀ (ix : Nat) (v : Value), arr.toList[ix]? = some v → a.eval (.tmp t) = .tuple arr := by
        intro ix v hv
        rcases hl j _ hcv with hu | ⟨t', ht, he⟩
        · cases hu
        · rw [hx1] at ht; obtain rfl := Option.some.inj ht; exact he
      cases hs : sh[i]? with
      | none => simp [hs] at hx
      | some n =>
        have hi1 : i < arr.toList.length := by rw [hlen]; exact (List.getElem?_eq_some_iff.1 hs).1
        obtain ⟨u, hu⟩ : ∃ u, arr.toList[i]? = some u := ⟨_, List.getElem?_eq_getElem hi1⟩
        have hshu : shp u = n := by
          have : (arr.toList.map shp)[i]? = some (shp u) := by simp [hu]
          rw [hsh, hs] at this; exact (Option.some.inj this).symm
        obtain ⟨rest, hrest⟩ := flat_at hu
        rw [hsh] at hrest
        have e1 := hev i u hu
        have hrun : Yields P w a o u := by
          have hu2 : arr[i]? = some u := by rw [← Array.getElem?_toList]; exact hu
          simp [Yields, execOp, ho, e1, Instr.extract, hu2]
        cases n with
        | none =>
          simp only [hs] at hx
          cases hc : cs[offT sh i]? with
          | none => simp [hc] at hx
          | some c =>
            simp [hc] at hx
            obtain ⟨rfl, rfl⟩ := hx
            obtain ⟨cv2, q1, q2, hcv2, hv2, _, _⟩ := CR_get _ hcs hc
            have hcell : u.cells.toList = [u] := by cases u <;> first | rfl | (simp [shp] at hshu)
            have e2 : (flatV arr.toList)[offT sh i]? = some u := by
              have : ((flatV arr.toList).drop (offT sh i))[0]? = some u := by rw [hrest, hcell]; rfl
              simpa using this
            rw [e2] at hcv2
            obtain rfl := Option.some.inj hcv2
            exact ⟨rfl, u, hrun, fun g hg => lz1_rel hw e2 hv2 g hg⟩
        | some n =>
          simp only [hs] at hx
          split at hx
          · rename_i hle
            simp at hx
            obtain ⟨rfl, rfl⟩ := hx
            cases u <;> simp [shp] at hshu
            rename_i arr2
            obtain ⟨k1, k2, hc1, hc2, hk⟩ := CR_take_drop (offT sh i) hcs
            obtain ⟨m1, m2, hd1, hd2, hm2⟩ := CR_take_drop n hc2
            have e3 : ((flatV arr.toList).drop (offT sh i)).take n = arr2.toList := by
              rw [hrest, ← hshu]
              simp [Value.cells]
            refine ⟨rfl, .agg arr2, hrun, fun g hg => ?_⟩
            simp only [VR]
            refine ⟨arr2, rfl, ?_⟩
            have := lzc_rel hw _ (offT sh i) _ _ g hd1 (fun q u hq => by
              rw [List.getElem?_take] at hq
              split at hq
              · rwa [List.getElem?_drop] at hq
              · cases hq) hg
            rwa [e3] at this
          · cases hx
    · cases hx
  · cases hok

theorem p_aidx {sz : Nat} {ag : Bool} {n : Nat} {y i : Opd} {v : AV} {e' : Env} (hok : okOp P ν o.op (.aidx sz ag n y i) = true) (hx : opx e (.aidx sz ag n y i) = some (v, e')) : e' = e ∧ PureRes P w Φ σ ρ a o v := by
  simp only [opx] at hx
  simp only [okOp] at hok
  split at hok
  · rename_i t x i' ho
    simp only [Bool.and_eq_true] at hok
    obtain ⟨⟨hx1, hi1⟩, hs⟩ := hok
    split at hs
    · rename_i n' el hu
      simp only [Bool.and_eq_true, beq_iff_eq] at hs
      obtain ⟨⟨⟨rfl, hsz⟩, hag⟩, hone⟩ := hs
      simp only [szOf, Option.map_eq_some_iff] at hsz
      obtain ⟨inf, hinf, rfl⟩ := hsz
      split at hx
      · rename_i cs k q hv hi
        have c := ev_rel h hl hx1 hv (fun _ => 0) (fun _ => rfl)
        have ci := VR_int (ev_rel h hl hi1 hi (fun _ => 0) (fun _ => rfl))
        split at hx
        · rename_i hq
          split at hx
          · rename_i u hm
            simp at hx
            obtain ⟨rfl, rfl⟩ := hx
            simp only [VR] at c
            obtain ⟨arr, e1, hcr⟩ := c
            obtain ⟨k1, k2, hc1, hc2, hk⟩ := CR_take_drop (q.toNat * inf.size) hcr
            obtain ⟨m1, m2, hd1, hd2, hm2⟩ := CR_take_drop inf.size hc2
            have z1 : m1 = fun _ => 0 := funext fun b => by have : 0 = k1 b + k2 b := hk b; have := hm2 b; omega
            rw [z1] at hd1
            have hlen : q.toNat * inf.size + inf.size ≤ arr.toList.length := by rw [← CR_length hcr]; exact hq.2.2
            simp only [isAggP, Option.map_eq_some_iff] at hag
            obtain ⟨d, hd, hag⟩ := hag
            have hisagg : (isAgg el).run P w = .ok ag w := by
              unfold isAgg
              rw [Sem.run_bind, run_underlying hd]
              simp only [Result.andThen_ok]
              subst hag
              cases d <;> rfl
            refine ⟨rfl, (if ag then .agg ((arr.toList.drop (q.toNat * inf.size)).take inf.size).toArray else ((arr.toList.drop (q.toNat * inf.size)).take inf.size).headD undef), ?_, fun g hg => mkv_rel hm hd1 g hg⟩
            have hpart : (part el arr (q.toNat * inf.size)).run P w = .ok (if ag then .agg ((arr.toList.drop (q.toNat * inf.size)).take inf.size).toArray else ((arr.toList.drop (q.toNat * inf.size)).take inf.size).headD undef) w := by
              unfold part
              rw [Sem.run_bind, hisagg]
              simp only [Result.andThen_ok]
              cases ag with
              | true =>
                simp only [if_true]
                rw [Sem.run_bind]
                simp only [sizeOf, typeInfo]
                simp [hinf]
                apply Array.ext'
                simp [Array.toList_extract, List.extract_eq_take_drop]
              | false =>
                simp at hone
                rw [hone] at hlen ⊢
                have hlt : q.toNat * 1 < arr.size := by simp at hlen; omega
                simp only [Bool.false_eq_true, if_false]
                have : arr[q.toNat * 1]? = some (arr[q.toNat * 1]'hlt) := Array.getElem?_eq_getElem hlt
                rw [this]
                have e2 : arr.toList.drop (q.toNat * 1) = arr[q.toNat * 1] :: arr.toList.drop (q.toNat * 1 + 1) := by
                  rw [List.drop_eq_getElem_cons (by simpa using hlt)]; simp
                rw [e2]; simp
            have hb : 0 ≤ q ∧ q < (n' : Int) := ⟨hq.1, hq.2.1⟩
            simp [Yields, execOp, ho, e1, ci, Instr.index, asIntOf, run_underlying hu, hb, sizeOf, typeInfo, hinf, hpart]
          · cases hx
        · cases hx
      · cases hx
    · cases hs
  · cases hok

omit h hl in
theorem bytesOf_rel : ∀ {cs : List AV} {l : List UInt8} {us : List Value} {f : Cnt}, bytesOf cs = some l → CR P w Φ σ ρ cs us f → ∃ ns : List Int, us = ns.map (Value.int .u8) ∧ l = ns.map (fun n => UInt8.ofNat n.toNat)
  | [], l, us, f, hb, hc => by
    simp [bytesOf] at hb
    simp only [CR] at hc
    exact ⟨[], by simp [hc.1], by simp [← hb]⟩
  | c :: cs, l, us, f, hb, hc => by
    simp only [CR] at hc
    obtain ⟨v, vs, f1, f2, rfl, h1, h2, _⟩ := hc
    cases c with
    | int k n =>
      cases k <;> simp [bytesOf] at hb
      split at hb
      · rename_i l1 h3
        obtain ⟨ns, rfl, rfl⟩ := bytesOf_rel h3 h2
        have := VR_int h1
        simp at hb
        exact ⟨n :: ns, by simp [this], by simp [← hb]⟩
      · cases hb
    | _ => simp [bytesOf] at hb
omit h hl in
theorem foldl_push (ns : List Int) : ∀ (s : ByteArray), ns.foldl (fun r n => r.push (UInt8.ofNat n.toNat)) s = ⟨s.data ++ (ns.map (fun n => UInt8.ofNat n.toNat)).toArray⟩ := by
  induction ns with
  | nil => intro s; simp
  | cons n ns ih => intro s; simp only [List.foldl_cons, ih]; apply ByteArray.ext; simp
omit h hl in
/-- What is known of a slice's being none. -/
theorem nil_rel {u : AV} {b : Bool} {cv : Value} (h : CR P w Φ σ ρ e ρ f) (hsep : ∀ b, f b ≤ 1) (hn : nilX e u = some b) (c1 : VR P w Φ σ ρ u cv (fun _ => 0)) : ∃ a n c, cv = .slice a n c ∧ a.isNone = b := by
  have key : ∀ {m : Nat}, lenX e false u = some (m + 1) → ∃ a n c, cv = .slice a n c ∧ a.isNone = false := by
    intro m hl
    cases u <;> simp [lenX] at hl
    · subst hl
      simp only [VR] at c1
      obtain ⟨⟨ao, cap, e1, _, h0, _⟩, _⟩ := c1
      refine ⟨_, _, _, e1, ?_⟩
      cases ao with
      | none => have := (h0 rfl).1; omega
      | some ad => rfl
    · rename_i r p o0
      split at hl
      · rename_i row hrow
        split at hl
        · rename_i et n1 cs hro
          simp at hl; subst hl
          simp only [VR] at c1
          obtain ⟨⟨bo, row0, ao, n0, c0, hw, hv0, e1⟩, _⟩ := c1
          obtain ⟨bo', cvs, f1, f2, hw', hcr, hf, _, _⟩ := env_focus h hsep hrow
          rw [hw] at hw'
          obtain ⟨rfl, rfl⟩ : bo = bo' ∧ row0 = cvs := by simpa using hw'
          obtain ⟨cv', g1, g2, hcv, hvr, hff, _⟩ := CR_get o0 hcr hro
          obtain ⟨hcv0, _⟩ := get_take_lt hcv
          rw [hv0] at hcv0
          obtain rfl := Option.some.inj hcv0
          simp only [VR] at hvr
          obtain ⟨_, _, xs, f1', ho1, _⟩ := hvr
          obtain ⟨a2, c2, e2, _, h3, _⟩ := ownsRow_slice ho1
          refine ⟨_, _, _, e2, ?_⟩
          cases a2 with
          | none => have := (h3 rfl).1; omega
          | some ad => rfl
        · cases hl
      · cases hl
  have other : (∀ t, u ≠ .nsl t) → ∃ a n c, cv = .slice a n c ∧ a.isNone = b := by
    intro hne
    have : (match lenX e false u with | some (_ + 1) => some false | _ => none) = some b := by
      rw [← hn]; cases u <;> first | rfl | exact absurd rfl (hne _)
    split at this
    · rename_i m hm
      have hb := Option.some.inj this
      subst hb
      exact key hm
    · cases this
  cases u with
  | nsl t =>
    simp only [nilX, Option.some.injEq] at hn
    subst hn
    simp only [VR] at c1
    obtain ⟨⟨a, c, e1, h1, _⟩, _⟩ := c1
    exact ⟨_, _, _, e1, h1⟩
  | _ => exact other (fun t h => by cases h)
theorem p_isnil {ne : Bool} {y : Opd} {v : AV} {e' : Env} (hok : okOp P ν o.op (.isnil ne y) = true) (hsep : ∀ b, f b ≤ 1) (hx : opx e (.isnil ne y) = some (v, e')) : e' = e ∧ PureRes P w Φ σ ρ a o v := by
  simp only [opx] at hx
  simp only [okOp] at hok
  split at hok
  · rename_i op t x' t' ho
    simp only [Bool.and_eq_true] at hok
    obtain ⟨⟨hx1, hop⟩, ht⟩ := hok
    split at hx
    · rename_i u hu
      split at hx
      · rename_i b hn
        simp at hx
        obtain ⟨rfl, rfl⟩ := hx
        obtain ⟨ao, n, c, e1, hb⟩ := nil_rel h hsep hn (ev_rel h hl hx1 hu (fun _ => 0) (fun _ => rfl))
        obtain ⟨el, ht'⟩ : ∃ el, P.underlying t = some (.slice el) := by
          split at ht
          · rename_i el h; exact ⟨el, h⟩
          · cases ht
        have hq : ∀ d, (Op.equalIn (d + 1) t (.slice ao n c) (.slice none 0 0)).run P w = .ok b w := by
          intro d
          unfold Op.equalIn
          rw [Sem.run_bind, run_underlying ht', ← hb]
          cases ao <;> rfl
        have hq' : (Op.equal t (.slice ao n c) (.slice none 0 0)).run P w = .ok b w := hq 9999
        refine ⟨rfl, .bool (if ne then !b else b), ?_, mk_bool⟩
        have e2 : a.eval (.const (.slice none 0 0)) = .slice none 0 0 := rfl
        unfold Yields
        cases op <;> simp at hop <;> subst hop
        · simp [execOp, ho, e1, e2, eqGuard, binOp, hq']
        · simp [execOp, ho, e1, e2, eqGuard, binOp, hq', bne]
      · cases hx
    · cases hx
  · cases hok

omit h hl in
theorem eqC_inv {k : Nat} {ks : List Nat} {cs ds : List AV} {b : Bool} (he : eqC (k :: ks) cs ds = some b) :
    (∃ k1 a1 cs1 b1 ds1 r, k = 0 ∧ cs = .int k1 a1 :: cs1 ∧ ds = .int k1 b1 :: ds1 ∧ eqC ks cs1 ds1 = some r ∧ b = (a1 == b1 && r)) ∨
    (∃ a1 cs1 b1 ds1 r, k = 1 ∧ cs = .bool a1 :: cs1 ∧ ds = .bool b1 :: ds1 ∧ eqC ks cs1 ds1 = some r ∧ b = (a1 == b1 && r)) ∨
    (∃ a1 cs1 b1 ds1 r, k = 2 ∧ cs = .str a1 :: cs1 ∧ ds = .str b1 :: ds1 ∧ eqC ks cs1 ds1 = some r ∧ b = (a1 == b1 && r)) := by
  generalize hk : k :: ks = kk at he
  unfold eqC at he
  split at he
  · cases hk
  · obtain ⟨rfl, rfl⟩ := List.cons.inj hk
    split at he
    · rename_i hkk
      subst hkk
      split at he
      · rename_i r hr
        cases he
        exact .inl ⟨_, _, _, _, _, r, rfl, rfl, rfl, hr, rfl⟩
      · cases he
    · cases he
  · obtain ⟨rfl, rfl⟩ := List.cons.inj hk
    split at he
    · rename_i r hr
      cases he
      exact .inr (.inl ⟨_, _, _, _, r, rfl, rfl, rfl, hr, rfl⟩)
    · cases he
  · obtain ⟨rfl, rfl⟩ := List.cons.inj hk
    split at he
    · rename_i r hr
      cases he
      exact .inr (.inr ⟨_, _, _, _, r, rfl, rfl, rfl, hr, rfl⟩)
    · cases he
  · cases he
omit h hl in
theorem eqF_run (d : Nat) (xs ys : Array Value) : ∀ (ks : List Nat) (fs : List Field) (i : Nat) (cs ds : List AV) (b : Bool) (f1 f2 : Cnt), okFlat P ks fs i = true → CR P w Φ σ ρ cs (xs.toList.drop i) f1 → CR P w Φ σ ρ ds (ys.toList.drop i) f2 → eqC ks cs ds = some b →
    (Op.eqFields (d + 1) xs ys fs).run P w = .ok b w
  | [], [], i, cs, ds, b, f1, f2, _, h1, h2, he => by
    cases cs <;> cases ds <;> simp [eqC] at he
    subst he; simp [Op.eqFields]
  | k :: ks, f :: fs, i, cs, ds, b, f1, f2, hok, h1, h2, he => by
    simp only [okFlat, Bool.and_eq_true, bne_iff_ne, beq_iff_eq] at hok
    obtain ⟨⟨⟨hn, ho⟩, hk⟩, hrest⟩ := hok
    subst ho
    have step : ∀ {c : AV} {cs' : List AV} {zs : Array Value} {g : Cnt}, CR P w Φ σ ρ (c :: cs') (zs.toList.drop f.offset) g → ∃ v g1 g2, zs[f.offset]? = some v ∧ VR P w Φ σ ρ c v g1 ∧ CR P w Φ σ ρ cs' (zs.toList.drop (f.offset + 1)) g2 := by
      intro c cs' zs g hc
      simp only [CR] at hc
      obtain ⟨v, vs', g1, g2, e1, hv, hr, _⟩ := hc
      refine ⟨v, g1, g2, ?_, hv, ?_⟩
      · have := congrArg (fun l => l[0]?) e1
        simpa [List.getElem?_drop] using this
      · have := congrArg List.tail e1
        rw [List.tail_drop] at this
        rw [this]; exact hr
    have hn' : f.name ≠ "_" := by simpa using hn
    have run : ∀ {u v : Value} {r r' : Bool}, xs[f.offset]? = some u → ys[f.offset]? = some v → P.plainKey f.type = true → (Op.equalIn (d + 1) f.type u v).run P w = .ok r w → (Op.eqFields (d + 1) xs ys fs).run P w = .ok r' w → (Op.eqFields (d + 1) xs ys (f :: fs)).run P w = .ok (r && r') w := by
      intro u v r r' hu hv ha hr hr'
      simp only [Op.eqFields, if_pos hn', Sem.run_bind, run_part_plain w ha hu, run_part_plain w ha hv, hr, Result.andThen_ok]
      cases r
      · rfl
      · simpa using hr'
    rcases eqC_inv he with ⟨k1, a1, cs1, b1, ds1, r, rfl, rfl, rfl, hr, rfl⟩ | ⟨a1, cs1, b1, ds1, r, rfl, rfl, rfl, hr, rfl⟩ | ⟨a1, cs1, b1, ds1, r, rfl, rfl, rfl, hr, rfl⟩
    all_goals
      obtain ⟨u1, g1, g2, hu1, hv1, hr1⟩ := step h1
      obtain ⟨u2, g3, g4, hu2, hv2, hr2⟩ := step h2
      simp only [VR] at hv1 hv2
      obtain ⟨rfl, _⟩ := hv1
      obtain ⟨rfl, _⟩ := hv2
      have hR := eqF_run d xs ys ks fs _ _ _ _ _ _ hrest hr1 hr2 hr
      cases hkt : P.underlying f.type with
      | none => simp [hkt] at hk
      | some q =>
        cases q <;> simp [hkt] at hk
        first
        | exact run hu1 hu2 (by unfold Program.plainKey; rw [hkt]) (show (Op.equalIn (d + 1) f.type (.int k1 a1) (.int k1 b1)).run P w = .ok (a1 == b1) w by simp [Op.equalIn, run_underlying hkt]) hR
        | exact run hu1 hu2 (by unfold Program.plainKey; rw [hkt]) (run_equalIn_bool' w d f.type a1 b1 hkt) hR
        | (have := run_equalIn_string w d f.type ⟨a1.toArray⟩ ⟨b1.toArray⟩ hkt
           rw [ByteArray.toList_eq, ByteArray.toList_eq] at this
           exact run hu1 hu2 (by unfold Program.plainKey; rw [hkt]) this hR)
  | [], _ :: _, i, cs, ds, b, f1, f2, hok, h1, h2, he => by simp [okFlat] at hok
  | _ :: _, [], i, cs, ds, b, f1, f2, hok, h1, h2, he => by simp [okFlat] at hok
theorem p_sbeq {ne : Bool} {ks : List Nat} {x y : Opd} {v : AV} {e' : Env} (hok : okOp P ν o.op (.sbeq ne ks x y) = true) (hx : opx e (.sbeq ne ks x y) = some (v, e')) : e' = e ∧ PureRes P w Φ σ ρ a o v := by
  simp only [opx] at hx
  simp only [okOp] at hok
  split at hok
  · rename_i op t x' y' t' ho
    simp only [Bool.and_eq_true, beq_iff_eq, Bool.not_eq_true'] at hok
    obtain ⟨⟨⟨⟨⟨⟨hx1, hy1⟩, hop⟩, ht⟩, hh⟩, hg⟩, hf⟩ := hok
    split at hx
    · rename_i cs ds h1 h2
      split at hx
      · rename_i b hb
        simp at hx
        obtain ⟨rfl, rfl⟩ := hx
        have e1 := ev_rel h hl hx1 h1 (fun _ => 0) (fun _ => rfl)
        have e2 := ev_rel h hl hy1 h2 (fun _ => 0) (fun _ => rfl)
        simp only [VR] at e1 e2
        obtain ⟨xs, e1, c1⟩ := e1
        obtain ⟨ys, e2, c2⟩ := e2
        have hq : (Op.equalIn 10000 t (.agg xs) (.agg ys)).run P w = .ok b w := by
          have ht' : P.underlying t = some (.struct (P.fieldsOf t)) := by
            split at ht
            · rename_i fs h; rw [Program.fieldsOf, h]
            · cases ht
          rw [run_equalIn_struct w 9999 t xs ys ht' hh]
          exact eqF_run 9998 xs ys ks _ 0 cs ds b _ _ hf (by simpa using c1) (by simpa using c2) hb
        refine ⟨rfl, .bool (if ne then !b else b), ?_, mk_bool⟩
        unfold Yields
        cases op <;> simp at hop <;> subst hop
        · simp [execOp, ho, e1, e2, run_eqGuard_agg w _ t x' y' xs ys hg, run_eql_struct w t xs ys, hq]
        · simp [execOp, ho, e1, e2, run_eqGuard_agg w _ t x' y' xs ys hg, run_neq_struct w t xs ys, hq]
      · cases hx
    · cases hx
  · cases hok

theorem p_b2s {y : Opd} {v : AV} {e' : Env} (hok : okOp P ν o.op (.b2s y) = true) (hsep : ∀ b, f b ≤ 1) (hx : opx e (.b2s y) = some (v, e')) : e' = e ∧ PureRes P w Φ σ ρ a o v := by
  simp only [opx] at hx
  simp only [okOp] at hok
  split at hok
  · rename_i s t x ho
    simp only [Bool.and_eq_true] at hok
    obtain ⟨⟨hx1, hs⟩, ht⟩ := hok
    split at hs
    · rename_i el hus
      split at hs
      · rename_i hue
        split at ht
        · rename_i hut
          have fin : ∀ (ao : Option Addr) (n cap : Nat) (cs : List AV) (l : List UInt8) (us : List Value) (g : Cnt), a.eval x = .slice ao n cap → bytesOf cs = some l → cs.length = n → CR P w Φ σ ρ cs us g →
              (∀ i u, us[i]? = some u → ∃ ad, ao = some ad ∧ w.cell? (ad.add i) = some u) → (ao = none → n = 0) → PureRes P w Φ σ ρ a o (.str l) := by
            intro ao n cap cs l us g e1 hb hn hc hcell h0
            obtain ⟨ns, rfl, rfl⟩ := bytesOf_rel hb hc
            have hln : ns.length = n := by rw [← hn, CR_length hc]; simp
            refine ⟨.string ⟨(ns.map (fun n => UInt8.ofNat n.toNat)).toArray⟩, ?_, mk_str⟩
            have hcv : (convert s t (a.eval x)).run P w = .ok (.string ⟨(ns.map (fun n => UInt8.ofNat n.toNat)).toArray⟩) w := by
              rw [e1, run_convert_bytes_string w s t el _ _ _ hus hue hut]
              cases ao with
              | none =>
                have : ns = [] := List.eq_nil_of_length_eq_zero (by rw [hln]; exact h0 rfl)
                subst this
                simp [Conv.bytesToString]
                rfl
              | some ad =>
                have hl2 : (loadCells ad n).run P w = .ok (ns.map (Value.int .u8)).toArray w := by
                  have := run_loadCells_list (P := P) w ad (ns.map (Value.int .u8)) (fun i u hi => by
                    obtain ⟨ad', h1, h2⟩ := hcell i u hi
                    cases h1; exact h2)
                  simpa [hln] using this
                rw [run_bytesToString w ad n cap ns hl2, foldl_push]
                have : ByteArray.empty.data ++ (ns.map (fun n => UInt8.ofNat n.toNat)).toArray = (ns.map (fun n => UInt8.ofNat n.toNat)).toArray := by
                  show #[] ++ _ = _; simp
                rw [this]
            simp [Yields, execOp, ho, hcv]
          split at hx
          · rename_i n cs hv
            split at hx
            · rename_i l hb
              split at hx
              · rename_i hn
                simp at hx
                obtain ⟨rfl, rfl⟩ := hx
                have c1 := ev_rel h hl hx1 hv (fun _ => 0) (fun _ => rfl)
                simp only [VR] at c1
                obtain ⟨⟨ao, cap, e1, hcap, hne, hfc⟩, _⟩ := c1
                cases ao with
                | none =>
                  have h0 := (hne rfl).1
                  have : cs = [] := List.eq_nil_of_length_eq_zero (by rw [hn, h0])
                  subst this
                  exact ⟨rfl, fin none n cap [] l [] (fun _ => 0) e1 hb hn CR_nil (fun i u hi => by simp at hi) (fun _ => h0)⟩
                | some ad =>
                  obtain ⟨us, h1, h2⟩ := FC_cells hfc
                  exact ⟨rfl, fin (some ad) n cap cs l us _ e1 hb hn h1 (fun i u hi => ⟨ad, rfl, by have := h2 i u hi; rwa [Nat.zero_add] at this⟩) (fun h => by cases h)⟩
              · cases hx
            · cases hx
          · rename_i r p o0 hv
            split at hx
            · rename_i row hrow
              split at hx
              · rename_i et st n cs hro
                split at hx
                · rename_i l hb
                  split at hx
                  · rename_i hn
                    simp at hx
                    obtain ⟨rfl, rfl⟩ := hx
                    have c1 := ev_rel h hl hx1 hv (fun _ => 0) (fun _ => rfl)
                    simp only [VR] at c1
                    obtain ⟨⟨bo, row0, ao, n0, c0, hw, hv0, e1⟩, _⟩ := c1
                    obtain ⟨bo', cvs, f1, f2, hw', hcr, hf, _, _⟩ := env_focus h hsep hrow
                    rw [hw] at hw'
                    obtain ⟨rfl, rfl⟩ : bo = bo' ∧ row0 = cvs := by simpa using hw'
                    obtain ⟨cv, g1, g2, hcv, hvr, hff, _⟩ := CR_get o0 hcr hro
                    obtain ⟨hcv0, _⟩ := get_take_lt hcv
                    rw [hv0] at hcv0
                    obtain rfl := Option.some.inj hcv0
                    simp only [VR] at hvr
                    obtain ⟨_, _, xs, f1', ho1, hcs, _⟩ := hvr
                    obtain ⟨a2, c2, e2, _, h6, h7⟩ := ownsRow_slice ho1
                    exact ⟨rfl, fin a2 n c2 cs l xs _ e2 hb hn hcs (fun i u hi => by obtain ⟨ad, h8, _, h9⟩ := h7 i u hi; exact ⟨ad, h8, h9⟩) (fun h => (h6 h).1)⟩
                  · cases hx
                · cases hx
              · cases hx
            · cases hx
          · cases hx
        · cases ht
      · cases hs
    · cases hs
  · cases hok
end
end
end Go.AM
