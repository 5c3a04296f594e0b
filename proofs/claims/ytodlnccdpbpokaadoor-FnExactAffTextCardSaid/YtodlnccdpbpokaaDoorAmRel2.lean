/- Freezing; what holds whatever is frozen. -/
import Derived.Test.YtodlnccdpbpokaaDoorAmRel
set_option linter.unusedSimpArgs false
set_option linter.unusedVariables false
namespace Go.AM
open Go
section
variable {P : Program} {w : World} {Φ : Nat → Prop} {σ : Nat → Value} {ρ : List Value}

theorem noFrz_any (Φ' : Nat → Prop) : ∀ (v : AV) (cv : Value) (f : Cnt), noFrz v = true → VR P w Φ σ ρ v cv f → VR P w Φ' σ ρ v cv f := by
  intro v
  induction v using AV.rec (motive_2 := fun cs => ∀ (vs : List Value) (f : Cnt), noFrzs cs = true → CR P w Φ σ ρ cs vs f → CR P w Φ' σ ρ cs vs f) with
  | dead => intro cv f _ h; simpa only [VR] using h
  | gone => intro cv f _ h; simpa only [VR] using h
  | int k n => intro cv f _ h; simpa only [VR] using h
  | bool t => intro cv f _ h; simpa only [VR] using h
  | str s => intro cv f _ h; simpa only [VR] using h
  | nilf => intro cv f _ h; simpa only [VR] using h
  | nsl t => intro cv f _ h; simpa only [VR] using h
  | fn g cs ih =>
    intro cv f hh h
    simp only [VR] at h ⊢
    obtain ⟨vs, e, hq, h⟩ := h
    exact ⟨vs, e, hq, ih _ _ (by simpa [noFrz] using hh) h⟩
  | rsl n cs ih =>
    intro cv f hh h
    cases cs with
    | cons c cs => simp [noFrz] at hh
    | nil =>
      simp only [VR] at h ⊢
      obtain ⟨⟨a, c, e, h1, h2, _⟩, hz⟩ := h
      exact ⟨⟨a, c, e, h1, h2, by simp only [FC]⟩, hz⟩
  | rp cs ih => intro cv f hh; simp [noFrz] at hh
  | osl s t n cs ih =>
    intro cv f hh h
    simp only [VR] at h ⊢
    obtain ⟨hst, hx, xs, f1, ho, h, hb⟩ := h
    exact ⟨hst, hx, xs, f1, ho, ih _ _ (by simpa [noFrz] using hh) h, hb⟩
  | bx s t cs ih =>
    intro cv f hh h
    simp only [VR] at h ⊢
    obtain ⟨hst, hx, b0, arr, f1, e, hg, h, hb⟩ := h
    exact ⟨hst, hx, b0, arr, f1, e, hg, ih _ _ (by simpa [noFrz] using hh) h, hb⟩
  | agg cs ih =>
    intro cv f hh h
    simp only [VR] at h ⊢
    obtain ⟨arr, e, h⟩ := h
    exact ⟨arr, e, ih _ _ (by simpa [noFrz] using hh) h⟩
  | tup sh cs ih =>
    intro cv f hh h
    simp only [VR] at h ⊢
    obtain ⟨arr, e, hs, h⟩ := h
    exact ⟨arr, e, hs, ih _ _ (by simpa [noFrz] using hh) h⟩
  | ps r p o => intro cv f hh h; simpa only [VR] using h
  | pp r p o => intro cv f hh h; simpa only [VR] using h
  | pf r p o => intro cv f hh h; simpa only [VR] using h
  | nil => rename_i vs f _ h; simpa only [CR] using h
  | cons c cs ihc ihs =>
    rename_i vs f hh h
    simp only [noFrzs, Bool.and_eq_true] at hh
    simp only [CR] at h ⊢
    obtain ⟨v, vs', f1, f2, e, h1, h2, hb⟩ := h
    exact ⟨v, vs', f1, f2, e, ihc _ _ hh.1 h1, ihs _ _ hh.2 h2, hb⟩

theorem isFz_hr {c : AV} (h : isFz c = true) : hr c = false := by
  revert h; cases c <;> simp [isFz, hr]
  rename_i g cs; cases cs <;> simp [hrs]

theorem add_block (a : Addr) (j : Nat) : (a.add j).block = a.block := by unfold Addr.add; split <;> rfl
theorem add_add (a : Addr) (i j : Nat) : (a.add i).add j = a.add (i + j) := by
  unfold Addr.add
  by_cases hi : i = 0 <;> by_cases hj : j = 0 <;> simp [hi, hj] <;> omega
theorem add_lit (b o j : Nat) : (⟨b, o, none⟩ : Addr).add j = ⟨b, o + j, none⟩ := by
  unfold Addr.add; split <;> simp_all

theorem FC_get : ∀ {cs : List AV} {a : Option Addr} {j : Nat} (i : Nat) {c : AV}, FC P w Φ σ ρ cs a j → cs[i]? = some c →
    ∃ ad u, a = some ad ∧ Φ ad.block ∧ w.cell? (ad.add (j + i)) = some u ∧ isFz c = true ∧ ∀ f, (∀ b, f b = 0) → VR P w Φ σ ρ c u f
  | [], _, _, i, _, _, h => by simp at h
  | c0 :: cs, a, j, 0, c, h, hi => by
    simp only [FC] at h; simp at hi; subst hi
    exact h.1
  | c0 :: cs, a, j, i + 1, c, h, hi => by
    simp only [FC] at h; simp at hi
    have := FC_get i h.2 hi
    rwa [show j + 1 + i = j + (i + 1) by omega] at this
theorem FC_of : ∀ (cs : List AV) (a : Option Addr) (j : Nat), (∀ i c, cs[i]? = some c →
    ∃ ad u, a = some ad ∧ Φ ad.block ∧ w.cell? (ad.add (j + i)) = some u ∧ isFz c = true ∧ ∀ f, (∀ b, f b = 0) → VR P w Φ σ ρ c u f) → FC P w Φ σ ρ cs a j
  | [], _, _, _ => by simp only [FC]
  | c0 :: cs, a, j, h => by
    simp only [FC]
    refine ⟨h 0 c0 rfl, FC_of cs a (j + 1) fun i c hi => ?_⟩
    rw [show j + 1 + i = j + (i + 1) by omega]
    exact h (i + 1) c (by simpa using hi)
theorem FC_drop {cs : List AV} {ad : Addr} {j : Nat} (n : Nat) (h : FC P w Φ σ ρ cs (some ad) j) : FC P w Φ σ ρ (cs.drop n) (some (ad.add (j + n))) 0 :=
  FC_of _ _ _ fun i c hi => by
    rw [List.getElem?_drop] at hi
    obtain ⟨ad', u, e, hp, hc, hz, hv⟩ := FC_get (n + i) h hi
    obtain rfl := Option.some.inj e
    exact ⟨_, u, rfl, by rw [add_block]; exact hp, by rw [Nat.zero_add, add_add, Nat.add_assoc]; exact hc, hz, hv⟩
theorem FC_take {cs : List AV} {a : Option Addr} {j : Nat} (n : Nat) (h : FC P w Φ σ ρ cs a j) : FC P w Φ σ ρ (cs.take n) a j :=
  FC_of _ _ _ fun i c hi => by
    rw [List.getElem?_take] at hi
    split at hi
    · exact FC_get i h hi
    · cases hi

/-- The cells that a frozen row holds. -/
theorem FC_cells {cs : List AV} {ad : Addr} {j : Nat} (h : FC P w Φ σ ρ cs (some ad) j) :
    ∃ us, CR P w Φ σ ρ cs us (fun _ => 0) ∧ ∀ i u, us[i]? = some u → w.cell? (ad.add (j + i)) = some u := by
  induction cs generalizing j with
  | nil => exact ⟨[], CR_nil, fun i u h => by simp at h⟩
  | cons c cs ih =>
    simp only [FC] at h
    obtain ⟨⟨ad', u, e, hp, hc, hz, hv⟩, h⟩ := h
    obtain rfl := Option.some.inj e
    obtain ⟨us, h1, h2⟩ := ih h
    refine ⟨u :: us, ?_, fun i x hi => ?_⟩
    · have := CR_cons (hv (fun _ => 0) (fun _ => rfl)) h1
      simpa using this
    · cases i with
      | zero => simp at hi; subst hi; exact hc
      | succ i => simp at hi; have := h2 i x hi; rwa [show j + 1 + i = j + (i + 1) by omega] at this

theorem ownsRow_slice {w : World} {b0 e s n : Nat} {v : Value} {xs : List Value} (h : w.ownsRow b0 e s v n xs) :
    ∃ a c, v = .slice a n c ∧ n ≤ c ∧ (a = none → n = 0 ∧ c = 0) ∧ (∀ j u, xs[j]? = some u → ∃ ad, a = some ad ∧ own1 v ad.block = 1 ∧ w.cell? (ad.add j) = some u) := by
  rcases h.2 with ⟨rfl, rfl⟩ | ⟨g, cap, cur, rfl, h0, hg, hn, hm, hs, ht⟩
  · refine ⟨none, 0, rfl, Nat.le_refl _, fun _ => ⟨rfl, rfl⟩, fun j u hj => ?_⟩
    have : xs = [] := List.eq_nil_of_length_eq_zero (by simpa using h.1)
    subst this; simp at hj
  · refine ⟨some ⟨g, 0, none⟩, cap, rfl, hn, fun h => by simp at h, fun j u hj => ⟨_, rfl, by simp [own1, Value.ownBlock], ?_⟩⟩
    exact h.cells (g := g) rfl j u hj

theorem frz_rel (Φ' : Nat → Prop) (hsub : ∀ b, Φ b → Φ' b) :
    ∀ (v : AV) (v' : AV) (cv : Value) (f : Cnt), frzC v = some v' → (∀ b, 1 ≤ f b → Φ' b) → VR P w Φ σ ρ v cv f →
      isFz v' = true ∧ ∀ g, (∀ b, g b = 0) → VR P w Φ' σ ρ v' cv g := by
  intro v
  have mono : ∀ (v : AV) cv f, isFz v = true → VR P w Φ σ ρ v cv f → ∀ g, (∀ b, g b = 0) → VR P w Φ' σ ρ v cv g := by
    intro v cv f hv h g hg
    have hz : ∀ b, f b = 0 := by
      revert h; revert hv
      cases v <;> simp only [isFz, VR] <;> intro hv h
      all_goals first | (cases hv; done) | exact h.2 | skip
      rename_i g0 cs
      cases cs with
      | nil => obtain ⟨vs, _, _, h⟩ := h; simp only [CR] at h; exact h.2
      | cons c cs => simp [isFz] at hv
    have e : f = g := funext fun b => by rw [hz b, hg b]
    subst e
    exact stab w Φ' ρ (fun _ _ => rfl) hsub v cv f (isFz_hr hv) (fun _ _ => rfl) h
  induction v using AV.rec (motive_2 := fun cs => ∀ (cs' : List AV) (xs : List Value) (f : Cnt), frzs cs = some cs' → (∀ b, 1 ≤ f b → Φ' b) → CR P w Φ σ ρ cs xs f →
      (∀ c ∈ cs', isFz c = true) ∧ ∀ g, (∀ b, g b = 0) → CR P w Φ' σ ρ cs' xs g) with
  | dead => intro v' cv f h; simp [frzC] at h
  | gone => intro v' cv f h; simp [frzC] at h
  | int k n => intro v' cv f h _ hv; simp [frzC] at h; subst h; exact ⟨rfl, mono _ _ _ rfl hv⟩
  | bool t => intro v' cv f h _ hv; simp [frzC] at h; subst h; exact ⟨rfl, mono _ _ _ rfl hv⟩
  | str s => intro v' cv f h _ hv; simp [frzC] at h; subst h; exact ⟨rfl, mono _ _ _ rfl hv⟩
  | nilf => intro v' cv f h _ hv; simp [frzC] at h; subst h; exact ⟨rfl, mono _ _ _ rfl hv⟩
  | nsl t => intro v' cv f h _ hv; simp [frzC] at h; subst h; exact ⟨rfl, mono _ _ _ rfl hv⟩
  | fn g cs ih =>
    intro v' cv f h _ hv
    cases cs with
    | nil => simp [frzC] at h; subst h; exact ⟨rfl, mono _ _ _ rfl hv⟩
    | cons c cs => simp [frzC] at h
  | rsl n cs ih => intro v' cv f h _ hv; simp [frzC] at h; subst h; exact ⟨rfl, mono _ _ _ rfl hv⟩
  | rp cs ih => intro v' cv f h _ hv; simp [frzC] at h; subst h; exact ⟨rfl, mono _ _ _ rfl hv⟩
  | osl s t n cs ih =>
    intro v' cv f h hf hv
    simp only [frzC] at h
    cases hc : frzs cs with
    | none => simp [hc] at h
    | some cs' =>
      simp [hc] at h; subst h
      simp only [VR] at hv
      obtain ⟨hst, hx, xs, f1, ho, hr1, hb⟩ := hv
      obtain ⟨hz, hall⟩ := ih cs' xs f1 hc (fun b h1 => hf b (by have := hb b; omega)) hr1
      refine ⟨rfl, fun g hg => ?_⟩
      simp only [VR]
      obtain ⟨a, c, e, hn, h0n, hcells⟩ := ownsRow_slice ho
      refine ⟨⟨a, c, e, hn, h0n, FC_of _ _ _ fun i x hi => ?_⟩, hg⟩
      obtain ⟨u, f1', f2', hu, hvr, hff, _⟩ := CR_get i (hall (fun _ => 0) (fun _ => rfl)) hi
      obtain ⟨ad, ea, hown, hcell⟩ := hcells i u hu
      refine ⟨ad, u, ea, hf _ (by have := hb ad.block; omega), by rw [Nat.zero_add]; exact hcell, hz x (List.mem_of_getElem? hi), fun f0 hf0 => ?_⟩
      have e : f1' = f0 := funext fun b => by have this : 0 = f1' b + f2' b := hff b; rw [hf0 b]; omega
      exact e ▸ hvr
  | bx s t cs ih =>
    intro v' cv f h hf hv
    simp only [frzC] at h
    cases hc : frzs cs with
    | none => simp [hc] at h
    | some cs' =>
      simp [hc] at h; subst h
      simp only [VR] at hv
      obtain ⟨hst, hx, b0, arr, f1, e, hg0, hr1, hb⟩ := hv
      obtain ⟨hz, hall⟩ := ih cs' _ f1 hc (fun b h1 => hf b (by have := hb b; omega)) hr1
      refine ⟨rfl, fun g hg => ?_⟩
      simp only [VR]
      refine ⟨⟨_, e, FC_of _ _ _ fun i x hi => ?_⟩, hg⟩
      obtain ⟨u, f1', f2', hu, hvr, hff, _⟩ := CR_get i (hall (fun _ => 0) (fun _ => rfl)) hi
      refine ⟨_, u, rfl, hf _ (by have := hb b0; simp at this; show 1 ≤ f b0; omega), ?_, hz x (List.mem_of_getElem? hi), fun f0 hf0 => ?_⟩
      · rw [Nat.zero_add, add_lit, cell_of_row w b0 _ arr t (0, 0) hg0]
        simpa using hu
      · have e : f1' = f0 := funext fun b => by have this : 0 = f1' b + f2' b := hff b; rw [hf0 b]; omega
        exact e ▸ hvr
  | agg cs ih => intro v' cv f h; simp [frzC] at h
  | tup sh cs ih => intro v' cv f h; simp [frzC] at h
  | ps r p o => intro v' cv f h; simp [frzC] at h
  | pp r p o => intro v' cv f h; simp [frzC] at h
  | pf r p o => intro v' cv f h; simp [frzC] at h
  | nil =>
    rename_i cs' xs f h _ hv
    simp [frzs] at h; subst h
    simp only [CR] at hv ⊢
    exact ⟨by simp, fun g hg => ⟨hv.1, hg⟩⟩
  | cons c cs ihc ihs =>
    rename_i cs' xs f h hf hv
    simp only [frzs] at h
    cases hc : frzC c with
    | none => simp [hc] at h
    | some c' =>
      cases hcs : frzs cs with
      | none => simp [hc, hcs] at h
      | some cs1 =>
        simp [hc, hcs] at h; subst h
        simp only [CR] at hv
        obtain ⟨v, vs', f1, f2, rfl, h1, h2, hb⟩ := hv
        obtain ⟨z1, k1⟩ := ihc c' v f1 hc (fun b hb1 => hf b (by have := hb b; omega)) h1
        obtain ⟨z2, k2⟩ := ihs cs1 vs' f2 hcs (fun b hb1 => hf b (by have := hb b; omega)) h2
        refine ⟨by simpa using ⟨z1, z2⟩, fun g hg => ?_⟩
        simp only [CR]
        exact ⟨v, vs', g, fun _ => 0, rfl, k1 g hg, k2 _ (fun _ => rfl), fun b => by simp⟩
end
end Go.AM
