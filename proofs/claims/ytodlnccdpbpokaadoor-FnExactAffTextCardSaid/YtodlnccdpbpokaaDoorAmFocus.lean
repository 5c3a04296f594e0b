/- A place inside the slots: what stands there, and what becomes of the whole when it is turned. -/
import Derived.Test.YtodlnccdpbpokaaDoorAmRel2
set_option linter.unusedSimpArgs false
set_option linter.unusedVariables false
namespace Go.AM
open Go
section
variable {P : Program} {w : World} {Φ : Nat → Prop} {σ : Nat → Value} {ρ : List Value}

theorem take_set_len {α : Type} (vs : List α) (n i : Nat) (v : α) : (vs.take n).set i v = (vs.set i v).take n := by
  rw [List.take_set]

theorem get_take_lt {α : Type} {vs : List α} {n i : Nat} {v : α} (h : (vs.take n)[i]? = some v) : vs[i]? = some v ∧ i < n := by
  rw [List.getElem?_take] at h
  split at h
  · exact ⟨h, by assumption⟩
  · cases h

theorem set_same {α : Type} {vs : List α} {i : Nat} {v : α} (h : vs[i]? = some v) : vs.set i v = vs := by
  apply List.ext_getElem?
  intro j
  rw [List.getElem?_set]
  split
  · subst_vars
    split
    · exact h.symm
    · rename_i h2; rw [List.getElem?_eq_none (by omega)] at h; cases h
  · rfl

theorem CR_stab (w' : World) (Φ' : Nat → Prop) (ρ' : List Value) (hΦ : ∀ b, Φ b → w'.heap[b]? = w.heap[b]?) (hsub : ∀ b, Φ b → Φ' b) :
    ∀ (cs : List AV) (vs : List Value) (f : Cnt), hrs cs = false → (∀ b, 1 ≤ f b → w'.heap[b]? = w.heap[b]?) → CR P w Φ σ ρ cs vs f → CR P w' Φ' σ ρ' cs vs f
  | [], vs, f, _, _, h => by simpa only [CR] using h
  | c :: cs, vs, f, hh, hf, h => by
    simp only [hrs, Bool.or_eq_false_iff] at hh
    simp only [CR] at h ⊢
    obtain ⟨v, vs', f1, f2, e, h1, h2, hb⟩ := h
    exact ⟨v, vs', f1, f2, e, stab w' Φ' ρ' hΦ hsub _ _ _ hh.1 (fun b hb1 => hf b (by have := hb b; omega)) h1,
      CR_stab w' Φ' ρ' hΦ hsub _ _ _ hh.2 (fun b hb1 => hf b (by have := hb b; omega)) h2, hb⟩

/-- One cell out of a row; what is put back may stand in a later world. -/
theorem CR_get2 : ∀ {cs : List AV} {vs : List Value} {f : Cnt} (i : Nat) {c : AV}, CR P w Φ σ ρ cs vs f → cs[i]? = some c →
    ∃ (v : Value) (f1 f2 : Cnt), vs[i]? = some v ∧ VR P w Φ σ ρ c v f1 ∧ (∀ b, f b = f1 b + f2 b) ∧
      (∀ c' v' f', VR P w Φ σ ρ c' v' f' → CR P w Φ σ ρ (cs.set i c') (vs.set i v') (fun b => f' b + f2 b)) ∧
      ∀ (w' : World) (Φ' : Nat → Prop) (ρ' : List Value), hrs cs = false → (∀ b, 1 ≤ f2 b → w'.heap[b]? = w.heap[b]?) → (∀ b, Φ b → w'.heap[b]? = w.heap[b]?) → (∀ b, Φ b → Φ' b) →
        ∀ c' v' f', VR P w' Φ' σ ρ' c' v' f' → CR P w' Φ' σ ρ' (cs.set i c') (vs.set i v') (fun b => f' b + f2 b)
  | [], _, _, i, _, _, hi => by simp at hi
  | c0 :: cs, vs, f, 0, c, h, hi => by
    simp only [CR] at h
    obtain ⟨v, vs', f1, f2, rfl, h1, h2, hf⟩ := h
    simp at hi; subst hi
    refine ⟨v, f1, f2, rfl, h1, hf, fun c' v' f' h' => ?_, fun w' Φ' ρ' hh hk hΦ hsub c' v' f' h' => ?_⟩
    · simp only [List.set_cons_zero]
      exact CR_cons h' h2
    · simp only [List.set_cons_zero]
      simp only [hrs, Bool.or_eq_false_iff] at hh
      exact CR_cons h' (CR_stab w' Φ' ρ' hΦ hsub _ _ _ hh.2 hk h2)
  | c0 :: cs, vs, f, i + 1, c, h, hi => by
    simp only [CR] at h
    obtain ⟨v0, vs', f1, f2, rfl, h1, h2, hf⟩ := h
    simp at hi
    obtain ⟨v, g1, g2, hv, hc, hg, hset, hset2⟩ := CR_get2 i h2 hi
    refine ⟨v, g1, fun b => f1 b + g2 b, by simpa using hv, hc, fun b => by show f b = g1 b + (f1 b + g2 b); have := hf b; have := hg b; omega, fun c' v' f' h' => ?_, fun w' Φ' ρ' hh hk hΦ hsub c' v' f' h' => ?_⟩
    · simp only [List.set_cons_succ]
      have := CR_cons h1 (hset c' v' f' h')
      have e : (fun b => f1 b + (f' b + g2 b)) = (fun b => f' b + (f1 b + g2 b)) := funext fun b => by omega
      rw [e] at this; exact this
    · simp only [List.set_cons_succ]
      simp only [hrs, Bool.or_eq_false_iff] at hh
      have := CR_cons (stab w' Φ' ρ' hΦ hsub _ _ _ hh.1 (fun b hb => hk b (by show 1 ≤ f1 b + g2 b; omega)) h1)
        (hset2 w' Φ' ρ' hh.2 (fun b hb => hk b (by show 1 ≤ f1 b + g2 b; omega)) hΦ hsub c' v' f' h')
      have e : (fun b => f1 b + (f' b + g2 b)) = (fun b => f' b + (f1 b + g2 b)) := funext fun b => by omega
      rw [e] at this; exact this

/-- The row behind an owned cell: the block that holds it. -/
theorem inner_rel {v : AV} {ics : List AV} {cv : Value} {g : Cnt} (hi : inner v = some ics) (h : VR P w Φ σ ρ v cv g) :
    ∃ (b t : Nat) (arr : Array Value) (h1 : Cnt), hblk cv = some b ∧ w.heap[b]? = some (.cells arr t (0, 0)) ∧ CR P w Φ σ ρ ics (arr.toList.take ics.length) h1 ∧ (∀ x, g x = (if x = b then 1 else 0) + h1 x) ∧ hrs ics = false ∧
      (∀ (w' : World) (Φ' : Nat → Prop) (ρ' : List Value) (arr' : Array Value) (ics' : List AV) (h1' : Cnt), w'.heap[b]? = some (.cells arr' t (0, 0)) → arr'.size = arr.size → ics'.length = ics.length → hrs ics' = false →
        CR P w' Φ' σ ρ' ics' (arr'.toList.take ics.length) h1' → VR P w' Φ' σ ρ' (withInner v ics') cv (fun x => h1' x + (if x = b then 1 else 0))) := by
  cases v <;> simp only [inner] at hi <;> try (cases hi; done)
  case osl s e n cs =>
    cases cs with
    | nil => cases hi
    | cons c0 cs0 =>
      obtain rfl := Option.some.inj hi
      simp only [VR] at h
      obtain ⟨hst, hx, xs, f1, ho, hr1, hb⟩ := h
      rcases ho.2 with ⟨rfl, rfl⟩ | ⟨b, cap, cur, rfl, h0, hg, hn, hm, hs, ht⟩
      · have hx0 : xs = [] := List.eq_nil_of_length_eq_zero (by simpa using ho.1)
        subst hx0
        simp [CR] at hr1
      · have hl := CR_length hr1
        have hlen : (c0 :: cs0).length = n * P.cellsOf e := hl.trans ho.1
        refine ⟨b, e, cur, f1, rfl, hg, ?_, fun x => by rw [hb x]; simp [own1, Value.ownBlock, eq_comm], hx, ?_⟩
        · rw [hlen, ht]; exact hr1
        · intro w' Φ' ρ' arr' ics' h1' hg' hsz hlen' hx' hr'
          simp only [withInner, VR]
          refine ⟨hst, hx', _, h1', ⟨?_, .inr ⟨b, cap, arr', rfl, Nat.zero_le _, hg', hn, hm, by rw [hsz, hs], rfl⟩⟩, ?_, fun x => by simp [own1, Value.ownBlock, eq_comm]; omega⟩
          · rw [List.length_take, Array.length_toList, hsz, hs]
            exact Nat.min_eq_left (Nat.mul_le_mul_right _ hn)
          · rw [← hlen]; exact hr'
  case bx s t cs =>
    obtain rfl := Option.some.inj hi
    simp only [VR] at h
    obtain ⟨hst, hx, b, arr, f1, rfl, hg, hr1, hb⟩ := h
    have hl := CR_length hr1
    refine ⟨b, t, arr, f1, rfl, hg, ?_, hb, hx, ?_⟩
    · rw [hl, List.take_length]; exact hr1
    · intro w' Φ' ρ' arr' ics' h1' hg' hsz hlen' hx' hr'
      simp only [withInner, VR]
      refine ⟨hst, hx', b, arr', h1', rfl, hg', ?_, fun x => by omega⟩
      rw [hl] at hr'
      rwa [List.take_of_length_le (by simp [hsz])] at hr'

theorem hrs_append (a b : List AV) : hrs (a ++ b) = (hrs a || hrs b) := by
  induction a with
  | nil => simp [hrs]
  | cons c a ih => simp [hrs, ih, Bool.or_assoc]
theorem hrs_mem {cs : List AV} (h : hrs cs = false) : ∀ c ∈ cs, hr c = false := by
  induction cs with
  | nil => simp
  | cons c cs ih =>
    simp only [hrs, Bool.or_eq_false_iff] at h
    simpa using ⟨h.1, ih h.2⟩
theorem hrs_of {cs : List AV} (h : ∀ c ∈ cs, hr c = false) : hrs cs = false := by
  induction cs with
  | nil => simp [hrs]
  | cons c cs ih =>
    simp only [hrs, Bool.or_eq_false_iff]
    exact ⟨h c (by simp), ih fun x hx => h x (by simp [hx])⟩
theorem hrs_set {cs : List AV} (h : hrs cs = false) (i : Nat) {c : AV} (hc : hr c = false) : hrs (cs.set i c) = false :=
  hrs_of fun x hx => by
    rcases List.mem_or_eq_of_mem_set hx with h1 | h1
    · exact hrs_mem h x h1
    · exact h1 ▸ hc
theorem hr_withInner {v : AV} {cs : List AV} (hv : hr v = false) (h : hrs cs = false) : hr (withInner v cs) = false := by
  cases v <;> simp_all [withInner, hr]
theorem setRow_hrs : ∀ (p : List Nat) {cs row : List AV}, hrs cs = false → hrs row = false → hrs (setRow cs p row) = false
  | [], cs, row, _, h => by simpa [setRow] using h
  | o :: p, cs, row, hc, h => by
    simp only [setRow]
    cases hv : cs[o]? with
    | none => exact hc
    | some v =>
      cases hi : inner v with
      | none => simp [hi]; exact hc
      | some ics =>
        simp only [hi]
        have hrv := hrs_mem hc v (List.mem_of_getElem? hv)
        refine hrs_set hc o (hr_withInner hrv (setRow_hrs p ?_ h))
        revert hi hrv
        cases v <;> simp [inner, hr]
        · rename_i e n cs1; cases cs1 <;> simp
          rintro rfl h; exact h
        · rintro rfl h; exact h
theorem setRow_length : ∀ (p : List Nat) {cs row r : List AV}, rowAt cs p = some r → row.length = r.length → (setRow cs p row).length = cs.length
  | [], cs, row, r, h, hl => by simp [rowAt] at h; subst h; simpa [setRow] using hl
  | o :: p, cs, row, r, h, hl => by
    simp only [setRow]
    cases hv : cs[o]? with
    | none => rfl
    | some v =>
      cases hi : inner v with
      | none => simp [hi]
      | some ics => simp [hi]

theorem focus : ∀ (p : List Nat) (cs : List AV) (vs : List Value) (f : Cnt) (bo : Option Nat) (row : List AV),
    CR P w Φ σ ρ cs (vs.take cs.length) f → (∀ b, f b ≤ 1) → rowAt cs p = some row →
    ∃ (bo' : Option Nat) (cvs : List Value) (f1 f2 : Cnt), walk w bo vs p = some (bo', cvs) ∧ CR P w Φ σ ρ row (cvs.take row.length) f1 ∧ (∀ b, f b = f1 b + f2 b) ∧
      (p = [] → bo' = bo ∧ cvs = vs ∧ row = cs ∧ ∀ b, f2 b = 0) ∧
      (∀ row' f1', row'.length = row.length → (p ≠ [] → hrs row' = false) → CR P w Φ σ ρ row' (cvs.take row.length) f1' →
        CR P w Φ σ ρ (setRow cs p row') (vs.take cs.length) (fun b => f1' b + f2 b)) ∧
      (p ≠ [] → ∃ b t arr, bo' = some b ∧ w.heap[b]? = some (.cells arr t (0, 0)) ∧ cvs = arr.toList ∧ 1 ≤ f2 b ∧ hrs row = false ∧
        ∀ (w' : World) (Φ' : Nat → Prop) (ρ' : List Value) (row' : List AV) (arr' : Array Value) (f1' : Cnt), hrs cs = false →
          w'.heap[b]? = some (.cells arr' t (0, 0)) → arr'.size = arr.size → (∀ x, x ≠ b → 1 ≤ f2 x → w'.heap[x]? = w.heap[x]?) →
          (∀ x, Φ x → w'.heap[x]? = w.heap[x]?) → (∀ x, Φ x → Φ' x) →
          row'.length = row.length → hrs row' = false → CR P w' Φ' σ ρ' row' (arr'.toList.take row.length) f1' →
          CR P w' Φ' σ ρ' (setRow cs p row') (vs.take cs.length) (fun b => f1' b + f2 b))
  | [], cs, vs, f, bo, row, h, hsep, hp => by
    simp [rowAt] at hp; subst hp
    refine ⟨bo, vs, f, fun _ => 0, by simp [walk], h, fun b => by simp, fun _ => ⟨rfl, rfl, rfl, fun _ => rfl⟩, ?_, fun hne => absurd rfl hne⟩
    intro row' f1' _ _ h'
    simpa [setRow] using h'
  | o :: p, cs, vs, f, bo, row, h, hsep, hp => by
    simp only [rowAt] at hp
    cases hv : cs[o]? with
    | none => simp [hv] at hp
    | some v =>
      cases hi : inner v with
      | none => simp [hv, hi] at hp
      | some ics =>
        simp only [hv, hi] at hp
        obtain ⟨cv, g1, g2, hcv, hvr, hg, hset, hset2⟩ := CR_get2 o h hv
        obtain ⟨hcv0, holt⟩ := get_take_lt hcv
        obtain ⟨b, t, arr, h1, hbk, hheap, hcr, hcnt, hhr, hupd⟩ := inner_rel hi hvr
        have hsep1 : ∀ x, h1 x ≤ 1 := fun x => by have := hsep x; have := hg x; have := hcnt x; omega
        obtain ⟨bo', cvs, f1, f2, hw, hrow, hf, hnil, hu1, hu2⟩ := focus p ics arr.toList h1 (some b) row hcr hsep1 hp
        have hwalk : walk w bo vs (o :: p) = some (bo', cvs) := by
          simp only [walk, hcv0, hbk, brow, hheap]; exact hw
        refine ⟨bo', cvs, f1, fun x => f2 x + (if x = b then 1 else 0) + g2 x, hwalk, hrow, fun x => by show f x = f1 x + (f2 x + (if x = b then 1 else 0) + g2 x); rw [hg x, hcnt x, hf x]; omega, fun hne => by simp at hne, ?_, fun _ => ?_⟩
        · intro row' f1' hl hh h'
          have hrow0 : hrs row' = false := hh (by simp)
          have k1 := hu1 row' f1' hl (fun _ => hrow0) h'
          have k2 := hupd w Φ ρ arr (setRow ics p row') _ hheap rfl (setRow_length p hp hl) (setRow_hrs p hhr hrow0) k1
          have k3 := hset _ cv _ k2
          simp only [setRow, hv, hi]
          rw [set_same (α := Value) hcv] at k3
          refine Eq.mp (congrArg (fun F => CR P w Φ σ ρ _ _ F) (funext fun x => ?_)) k3
          omega
        · cases p with
          | nil =>
            simp [rowAt] at hp; subst hp
            obtain ⟨rfl, rfl, _, hf0⟩ := hnil rfl
            refine ⟨b, t, arr, rfl, hheap, rfl, by simp; omega, hhr, ?_⟩
            intro w' Φ' ρ' row' arr' f1' hcs hheap' hsz hoth hΦ hsub hl hrow' hcr'
            have k2 := hupd w' Φ' ρ' arr' row' f1' hheap' hsz hl hrow' hcr'
            simp only [setRow, hv, hi]
            have hz : ∀ x, f2 x = 0 := hf0
            have k3 := hset2 w' Φ' ρ' hcs (fun x h2 => hoth x (by intro e; have := hsep x; have := hg x; have := hcnt x; subst e; simp at *; omega) (by simp; omega)) hΦ hsub _ cv _ k2
            rw [set_same (α := Value) hcv] at k3
            refine Eq.mp (congrArg (fun F => CR P w' Φ' σ ρ' _ _ F) (funext fun x => ?_)) k3
            have := hz x
            omega
          | cons o2 p2 =>
            obtain ⟨b2, t2, arr2, rfl, hheap2, rfl, hb2, hrr, hupd2⟩ := hu2 (by simp)
            have hne : b ≠ b2 := by
              intro e
              have := hsep b2; have := hg b2; have := hcnt b2; have := hf b2
              subst e; simp at *; omega
            refine ⟨b2, t2, arr2, rfl, hheap2, rfl, by simp; omega, hrr, ?_⟩
            intro w' Φ' ρ' row' arr' f1' hcs hheap' hsz hoth hΦ hsub hl hrow' hcr'
            have k1 := hupd2 w' Φ' ρ' row' arr' f1' hhr hheap' hsz (fun x hx h2 => hoth x hx (by simp; omega)) hΦ hsub hl hrow' hcr'
            have hb' : w'.heap[b]? = some (.cells arr t (0, 0)) := by
              rw [hoth b hne (by simp; omega)]; exact hheap
            have k2 := hupd w' Φ' ρ' arr (setRow ics (o2 :: p2) row') _ hb' rfl (setRow_length _ hp hl) (setRow_hrs _ hhr hrow') k1
            have k3 := hset2 w' Φ' ρ' hcs (fun x h2 => hoth x (by intro e; have := hsep x; have := hg x; have := hcnt x; have := hf x; subst e; simp at *; omega) (by simp; omega)) hΦ hsub _ cv _ k2
            rw [set_same (α := Value) hcv] at k3
            rw [show setRow cs (o :: o2 :: p2) row' = cs.set o (withInner v (setRow ics (o2 :: p2) row')) by simp only [setRow, hv, hi]]
            refine Eq.mp (congrArg (fun F => CR P w' Φ' σ ρ' _ _ F) (funext fun x => ?_)) k3
            show f1' x + f2 x + (if x = b then 1 else 0) + g2 x = f1' x + (f2 x + (if x = b then 1 else 0) + g2 x)
            omega
end
end Go.AM
