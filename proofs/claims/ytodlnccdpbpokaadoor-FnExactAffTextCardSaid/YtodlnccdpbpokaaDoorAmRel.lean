/- How abstract values stand to Go's values in a memory. -/
import Derived.Test.YtodlnccdpbpokaaDoorAmDefs
namespace Go.AM
open Go

abbrev Cnt := Nat → Nat
/-- A slot of which nothing is known. -/
abbrev unk : Value := .nilIface

def shp : Value → Option Nat
  | .agg a => some a.size
  | _ => none
def flatV (vs : List Value) : List Value := vs.flatMap fun v => v.cells.toList
def cellsV : Value → List Value
  | .agg a => a.toList
  | .tuple a => flatV a.toList
  | v => [v]
def hblk : Value → Option Nat
  | .slice (some ⟨b, 0, none⟩) _ _ => some b
  | .pointer (some ⟨b, 0, none⟩) => some b
  | _ => none
def brow (w : World) (b : Nat) : Option (List Value) :=
  match w.heap[b]? with
  | some (.cells arr _ _) => some arr.toList
  | _ => none
def walk (w : World) : Option Nat → List Value → List Nat → Option (Option Nat × List Value)
  | b, vs, [] => some (b, vs)
  | _, vs, o :: p => match vs[o]? with
    | none => none
    | some v => match hblk v with
      | none => none
      | some b => match brow w b with
        | none => none
        | some row => walk w (some b) row p
def rowOf (ρ : List Value) (r : Nat) : List Value :=
  match ρ[r]? with
  | some v => cellsV v
  | none => []
def own1 (v : Value) (b : Nat) : Nat := if v.ownBlock = some b then 1 else 0

mutual
def VR (P : Program) (w : World) (Φ : Nat → Prop) (σ : Nat → Value) (ρ : List Value) : AV → Value → Cnt → Prop
  | .dead, _, f => ∀ b, f b = 0
  | .gone, _, f => ∀ b, f b = 0
  | .int k n, v, f => v = .int k n ∧ ∀ b, f b = 0
  | .bool t, v, f => v = .bool t ∧ ∀ b, f b = 0
  | .str s, v, f => v = .string ⟨s.toArray⟩ ∧ ∀ b, f b = 0
  | .fn g cs, v, f => ∃ vs : Array Value, v = .func (.func g) #[] vs ∧ (∀ c ∈ cs, isRef1 c = true ∨ hr c = false) ∧ CR P w Φ σ ρ cs vs.toList f
  | .nilf, v, f => v = .nilFunc ∧ ∀ b, f b = 0
  | .nsl t, v, f => (∃ a c, v = .slice a 0 c ∧ a.isNone = t ∧ (a = none → c = 0)) ∧ ∀ b, f b = 0
  | .rsl n cs, v, f => (∃ a c, v = .slice a n c ∧ n ≤ c ∧ (a = none → n = 0 ∧ c = 0) ∧ FC P w Φ σ ρ cs a 0) ∧ ∀ b, f b = 0
  | .rp cs, v, f => (∃ a, v = .pointer (some a) ∧ FC P w Φ σ ρ cs (some a) 0) ∧ ∀ b, f b = 0
  | .osl s e n cs, v, f => (s ≠ 0 → σ s = v) ∧ hrs cs = false ∧ ∃ xs f1, w.ownsRow 0 e (P.cellsOf e) v n xs ∧ CR P w Φ σ ρ cs xs f1 ∧ ∀ b, f b = own1 v b + f1 b
  | .bx s t cs, v, f => (s ≠ 0 → σ s = v) ∧ hrs cs = false ∧ ∃ b0 arr f1, v = .pointer (some ⟨b0, 0, none⟩) ∧ w.heap[b0]? = some (.cells arr t (0, 0)) ∧ CR P w Φ σ ρ cs arr.toList f1 ∧
      ∀ b, f b = (if b = b0 then 1 else 0) + f1 b
  | .agg cs, v, f => ∃ arr : Array Value, v = .agg arr ∧ CR P w Φ σ ρ cs arr.toList f
  | .tup sh cs, v, f => ∃ arr : Array Value, v = .tuple arr ∧ arr.toList.map shp = sh ∧ CR P w Φ σ ρ cs (flatV arr.toList) f
  | .ps r p o, v, f => (∃ bo row a n c, walk w none (rowOf ρ r) p = some (bo, row) ∧ row[o]? = some v ∧ v = .slice a n c) ∧ ∀ b, f b = 0
  | .pp r p o, v, f => (∃ b0 row, walk w none (rowOf ρ r) p = some (some b0, row) ∧ v = .pointer (some ⟨b0, o, none⟩)) ∧ ∀ b, f b = 0
  | .pf r p o, v, f => (∃ bo row g fs cs, walk w none (rowOf ρ r) p = some (bo, row) ∧ row[o]? = some v ∧ v = .func g fs cs) ∧ ∀ b, f b = 0
def CR (P : Program) (w : World) (Φ : Nat → Prop) (σ : Nat → Value) (ρ : List Value) : List AV → List Value → Cnt → Prop
  | [], vs, f => vs = [] ∧ ∀ b, f b = 0
  | c :: cs, vs, f => ∃ v vs' f1 f2, vs = v :: vs' ∧ VR P w Φ σ ρ c v f1 ∧ CR P w Φ σ ρ cs vs' f2 ∧ ∀ b, f b = f1 b + f2 b
def FC (P : Program) (w : World) (Φ : Nat → Prop) (σ : Nat → Value) (ρ : List Value) : List AV → Option Addr → Nat → Prop
  | [], _, _ => True
  | c :: cs, a, j => (∃ ad u, a = some ad ∧ Φ ad.block ∧ w.cell? (ad.add j) = some u ∧ isFz c = true ∧ ∀ f, (∀ b, f b = 0) → VR P w Φ σ ρ c u f) ∧ FC P w Φ σ ρ cs a (j + 1)
end

section
variable {P : Program} {w : World} {Φ : Nat → Prop} {σ : Nat → Value} {ρ : List Value}

theorem CR_length : ∀ {cs : List AV} {vs : List Value} {f : Cnt}, CR P w Φ σ ρ cs vs f → cs.length = vs.length
  | [], vs, f, h => by simp only [CR] at h; simp [h.1]
  | c :: cs, vs, f, h => by
    simp only [CR] at h
    obtain ⟨v, vs', f1, f2, rfl, h1, h2, _⟩ := h
    simp [CR_length h2]

theorem VR_ext {f g : Cnt} (hfg : ∀ b, f b = g b) : f = g := funext hfg

theorem CR_nil : CR P w Φ σ ρ [] [] (fun _ => 0) := by simp [CR]
theorem CR_cons {c : AV} {cs : List AV} {v : Value} {vs : List Value} {f1 f2 : Cnt} (h1 : VR P w Φ σ ρ c v f1) (h2 : CR P w Φ σ ρ cs vs f2) :
    CR P w Φ σ ρ (c :: cs) (v :: vs) (fun b => f1 b + f2 b) := by
  simp only [CR]; exact ⟨v, vs, f1, f2, rfl, h1, h2, fun _ => rfl⟩

/-- One cell out of a row. -/
theorem CR_get : ∀ {cs : List AV} {vs : List Value} {f : Cnt} (i : Nat) {c : AV}, CR P w Φ σ ρ cs vs f → cs[i]? = some c →
    ∃ (v : Value) (f1 f2 : Cnt), vs[i]? = some v ∧ VR P w Φ σ ρ c v f1 ∧ (∀ b, f b = f1 b + f2 b) ∧
      ∀ c' v' f', VR P w Φ σ ρ c' v' f' → CR P w Φ σ ρ (cs.set i c') (vs.set i v') (fun b => f' b + f2 b)
  | [], _, _, i, _, _, hi => by simp at hi
  | c0 :: cs, vs, f, 0, c, h, hi => by
    simp only [CR] at h
    obtain ⟨v, vs', f1, f2, rfl, h1, h2, hf⟩ := h
    simp at hi; subst hi
    refine ⟨v, f1, f2, rfl, h1, hf, fun c' v' f' h' => ?_⟩
    simp only [List.set_cons_zero]
    exact CR_cons h' h2
  | c0 :: cs, vs, f, i + 1, c, h, hi => by
    simp only [CR] at h
    obtain ⟨v0, vs', f1, f2, rfl, h1, h2, hf⟩ := h
    simp at hi
    obtain ⟨v, g1, g2, hv, hc, hg, hset⟩ := CR_get i h2 hi
    refine ⟨v, g1, fun b => f1 b + g2 b, by simpa using hv, hc, fun b => by show f b = g1 b + (f1 b + g2 b); have := hf b; have := hg b; omega, fun c' v' f' h' => ?_⟩
    simp only [List.set_cons_succ]
    have := CR_cons h1 (hset c' v' f' h')
    have e : (fun b => f1 b + (f' b + g2 b)) = (fun b => f' b + (f1 b + g2 b)) := funext fun b => by omega
    rw [e] at this; exact this

theorem CR_append : ∀ {cs ds : List AV} {vs us : List Value} {f g : Cnt}, CR P w Φ σ ρ cs vs f → CR P w Φ σ ρ ds us g →
    CR P w Φ σ ρ (cs ++ ds) (vs ++ us) (fun b => f b + g b)
  | [], ds, vs, us, f, g, h, h' => by
    simp only [CR] at h
    obtain ⟨rfl, hf⟩ := h
    have e : (fun b => f b + g b) = g := funext fun b => by simp [hf b]
    simpa [e] using h'
  | c :: cs, ds, vs, us, f, g, h, h' => by
    simp only [CR] at h
    obtain ⟨v, vs', f1, f2, rfl, h1, h2, hf⟩ := h
    have := CR_cons h1 (CR_append h2 h')
    have e : (fun b => f1 b + (f2 b + g b)) = (fun b => f b + g b) := funext fun b => by have := hf b; omega
    rw [e] at this; simpa using this

theorem CR_split : ∀ {cs ds : List AV} {vs : List Value} {f : Cnt}, CR P w Φ σ ρ (cs ++ ds) vs f →
    ∃ f1 f2, CR P w Φ σ ρ cs (vs.take cs.length) f1 ∧ CR P w Φ σ ρ ds (vs.drop cs.length) f2 ∧ ∀ b, f b = f1 b + f2 b
  | [], ds, vs, f, h => ⟨fun _ => 0, f, by simp [CR], by simpa using h, fun b => by simp⟩
  | c :: cs, ds, vs, f, h => by
    simp only [List.cons_append, CR] at h
    obtain ⟨v, vs', f1, f2, rfl, h1, h2, hf⟩ := h
    obtain ⟨g1, g2, k1, k2, hg⟩ := CR_split h2
    refine ⟨fun b => f1 b + g1 b, g2, ?_, by simpa using k2, fun b => by show f b = f1 b + g1 b + g2 b; have := hf b; have := hg b; omega⟩
    simpa using CR_cons h1 k1

theorem CR_take_drop {cs : List AV} {vs : List Value} {f : Cnt} (n : Nat) (h : CR P w Φ σ ρ cs vs f) :
    ∃ f1 f2, CR P w Φ σ ρ (cs.take n) (vs.take n) f1 ∧ CR P w Φ σ ρ (cs.drop n) (vs.drop n) f2 ∧ ∀ b, f b = f1 b + f2 b := by
  have hl := CR_length h
  rw [← List.take_append_drop n cs] at h
  obtain ⟨f1, f2, h1, h2, hf⟩ := CR_split h
  simp only [List.length_take] at h1 h2
  rcases Nat.le_total n cs.length with hn | hn
  · rw [Nat.min_eq_left hn] at h1 h2; exact ⟨f1, f2, h1, h2, hf⟩
  · rw [Nat.min_eq_right hn, hl] at h1 h2
    rw [List.take_of_length_le (Nat.le_refl _)] at h1
    rw [List.drop_of_length_le (Nat.le_refl _)] at h2
    refine ⟨f1, f2, ?_, ?_, hf⟩
    · rw [List.take_of_length_le hn] at h1 ⊢; rw [List.take_of_length_le (by omega)]; exact h1
    · rw [List.drop_of_length_le (by omega : vs.length ≤ n)]; exact h2

/-- What a step leaves alone. -/
theorem stab (w' : World) (Φ' : Nat → Prop) (ρ' : List Value) (hΦ : ∀ b, Φ b → w'.heap[b]? = w.heap[b]?) (hsub : ∀ b, Φ b → Φ' b) :
    (∀ (v : AV) (cv : Value) (f : Cnt), hr v = false → (∀ b, 1 ≤ f b → w'.heap[b]? = w.heap[b]?) → VR P w Φ σ ρ v cv f → VR P w' Φ' σ ρ' v cv f) := by
  intro v
  induction v using AV.rec (motive_2 := fun cs => (∀ (vs : List Value) (f : Cnt), hrs cs = false → (∀ b, 1 ≤ f b → w'.heap[b]? = w.heap[b]?) → CR P w Φ σ ρ cs vs f → CR P w' Φ' σ ρ' cs vs f) ∧
      (∀ a j, FC P w Φ σ ρ cs a j → FC P w' Φ' σ ρ' cs a j)) with
  | dead => intro cv f _ _ h; simpa only [VR] using h
  | gone => intro cv f _ _ h; simpa only [VR] using h
  | int k n => intro cv f _ _ h; simpa only [VR] using h
  | bool t => intro cv f _ _ h; simpa only [VR] using h
  | str s => intro cv f _ _ h; simpa only [VR] using h
  | nilf => intro cv f _ _ h; simpa only [VR] using h
  | nsl t => intro cv f _ _ h; simpa only [VR] using h
  | fn g cs ih =>
    intro cv f hh hf h
    simp only [VR] at h ⊢
    obtain ⟨vs, e, hq, h⟩ := h
    exact ⟨vs, e, hq, ih.1 _ _ (by simpa [hr] using hh) hf h⟩
  | rsl n cs ih =>
    intro cv f hh hf h
    simp only [VR] at h ⊢
    obtain ⟨⟨a, c, e, hn, h0, h⟩, hz⟩ := h
    exact ⟨⟨a, c, e, hn, h0, ih.2 _ _ h⟩, hz⟩
  | rp cs ih =>
    intro cv f hh hf h
    simp only [VR] at h ⊢
    obtain ⟨⟨a, e, h⟩, hz⟩ := h
    exact ⟨⟨a, e, ih.2 _ _ h⟩, hz⟩
  | osl s t n cs ih =>
    intro cv f hh hf h
    simp only [VR] at h ⊢
    obtain ⟨hst, hx, xs, f1, ho, h, hb⟩ := h
    refine ⟨hst, hx, xs, f1, ?_, ih.1 _ _ hx (fun b hb1 => hf b (by have := hb b; omega)) h, hb⟩
    refine ⟨ho.1, ?_⟩
    rcases ho.2 with hn | ⟨g, cap, cur, e, h0, hg, rest⟩
    · exact .inl hn
    · refine .inr ⟨g, cap, cur, e, h0, ?_, rest⟩
      rw [hf g (by have := hb g; subst e; simp [own1, Value.ownBlock] at this; omega)]
      exact hg
  | bx s t cs ih =>
    intro cv f hh hf h
    simp only [VR] at h ⊢
    obtain ⟨hst, hx, b0, arr, f1, e, hg, h, hb⟩ := h
    refine ⟨hst, hx, b0, arr, f1, e, ?_, ih.1 _ _ hx (fun b hb1 => hf b (by have := hb b; omega)) h, hb⟩
    rw [hf b0 (by have := hb b0; simp at this; omega)]
    exact hg
  | agg cs ih =>
    intro cv f hh hf h
    simp only [VR] at h ⊢
    obtain ⟨arr, e, h⟩ := h
    exact ⟨arr, e, ih.1 _ _ (by simpa [hr] using hh) hf h⟩
  | tup sh cs ih =>
    intro cv f hh hf h
    simp only [VR] at h ⊢
    obtain ⟨arr, e, hs, h⟩ := h
    exact ⟨arr, e, hs, ih.1 _ _ (by simpa [hr] using hh) hf h⟩
  | ps r p o => intro cv f hh; simp [hr] at hh
  | pp r p o => intro cv f hh; simp [hr] at hh
  | pf r p o => intro cv f hh; simp [hr] at hh
  | nil =>
    refine ⟨fun vs f _ _ h => by simpa only [CR] using h, fun a j _ => by simp only [FC]⟩
  | cons c cs ihc ihs =>
    refine ⟨fun vs f hh hf h => ?_, fun a j h => ?_⟩
    · simp only [hrs, Bool.or_eq_false_iff] at hh
      simp only [CR] at h ⊢
      obtain ⟨v, vs', f1, f2, e, h1, h2, hb⟩ := h
      exact ⟨v, vs', f1, f2, e, ihc _ _ hh.1 (fun b hb1 => hf b (by have := hb b; omega)) h1, ihs.1 _ _ hh.2 (fun b hb1 => hf b (by have := hb b; omega)) h2, hb⟩
    · simp only [FC] at h ⊢
      obtain ⟨⟨ad, u, e, hp, hc, hz, hv⟩, h⟩ := h
      refine ⟨⟨ad, u, e, hsub _ hp, ?_, hz, fun f hf => ?_⟩, ihs.2 _ _ h⟩
      · rw [World.cell?_of_block (w := w)]; exact hc
        have : (ad.add j).block = ad.block := by unfold Addr.add; split <;> rfl
        rw [this]; exact hΦ _ hp
      · refine ihc _ _ ?_ (fun b hb => by have := hf b; omega) (hv f hf)
        revert hz; cases c <;> simp [isFz, hr]
        rename_i g cs; cases cs <;> simp [hrs]

/-- What a step leaves alone, references and all. -/
theorem stab2 (w' : World) (Φ' : Nat → Prop) (ρ' : List Value) (hΦ : ∀ b, Φ b → w'.heap[b]? = w.heap[b]?) (hsub : ∀ b, Φ b → Φ' b)
    (hps : ∀ r p o cv f, VR P w Φ σ ρ (.ps r p o) cv f → VR P w' Φ' σ ρ' (.ps r p o) cv f)
    (hpp : ∀ r p o cv f, VR P w Φ σ ρ (.pp r p o) cv f → VR P w' Φ' σ ρ' (.pp r p o) cv f)
    (hpf : ∀ r p o cv f, VR P w Φ σ ρ (.pf r p o) cv f → VR P w' Φ' σ ρ' (.pf r p o) cv f) :
    (∀ (v : AV) (cv : Value) (f : Cnt), (∀ b, 1 ≤ f b → w'.heap[b]? = w.heap[b]?) → VR P w Φ σ ρ v cv f → VR P w' Φ' σ ρ' v cv f) := by
  intro v
  induction v using AV.rec (motive_2 := fun cs => (∀ (vs : List Value) (f : Cnt), (∀ b, 1 ≤ f b → w'.heap[b]? = w.heap[b]?) → CR P w Φ σ ρ cs vs f → CR P w' Φ' σ ρ' cs vs f) ∧
      (∀ a j, FC P w Φ σ ρ cs a j → FC P w' Φ' σ ρ' cs a j)) with
  | dead => intro cv f _ h; simpa only [VR] using h
  | gone => intro cv f _ h; simpa only [VR] using h
  | int k n => intro cv f _ h; simpa only [VR] using h
  | bool t => intro cv f _ h; simpa only [VR] using h
  | str s => intro cv f _ h; simpa only [VR] using h
  | nilf => intro cv f _ h; simpa only [VR] using h
  | nsl t => intro cv f _ h; simpa only [VR] using h
  | fn g cs ih =>
    intro cv f hf h
    simp only [VR] at h ⊢
    obtain ⟨vs, e, hq, h⟩ := h
    exact ⟨vs, e, hq, ih.1 _ _ hf h⟩
  | rsl n cs ih =>
    intro cv f hf h
    simp only [VR] at h ⊢
    obtain ⟨⟨a, c, e, hn, h0, h⟩, hz⟩ := h
    exact ⟨⟨a, c, e, hn, h0, ih.2 _ _ h⟩, hz⟩
  | rp cs ih =>
    intro cv f hf h
    simp only [VR] at h ⊢
    obtain ⟨⟨a, e, h⟩, hz⟩ := h
    exact ⟨⟨a, e, ih.2 _ _ h⟩, hz⟩
  | osl s t n cs ih =>
    intro cv f hf h
    simp only [VR] at h ⊢
    obtain ⟨hst, hx, xs, f1, ho, h, hb⟩ := h
    refine ⟨hst, hx, xs, f1, ?_, ih.1 _ _ (fun b hb1 => hf b (by have := hb b; omega)) h, hb⟩
    refine ⟨ho.1, ?_⟩
    rcases ho.2 with hn | ⟨g, cap, cur, e, h0, hg, rest⟩
    · exact .inl hn
    · refine .inr ⟨g, cap, cur, e, h0, ?_, rest⟩
      rw [hf g (by have := hb g; subst e; simp [own1, Value.ownBlock] at this; omega)]
      exact hg
  | bx s t cs ih =>
    intro cv f hf h
    simp only [VR] at h ⊢
    obtain ⟨hst, hx, b0, arr, f1, e, hg, h, hb⟩ := h
    refine ⟨hst, hx, b0, arr, f1, e, ?_, ih.1 _ _ (fun b hb1 => hf b (by have := hb b; omega)) h, hb⟩
    rw [hf b0 (by have := hb b0; simp at this; omega)]
    exact hg
  | agg cs ih =>
    intro cv f hf h
    simp only [VR] at h ⊢
    obtain ⟨arr, e, h⟩ := h
    exact ⟨arr, e, ih.1 _ _ hf h⟩
  | tup sh cs ih =>
    intro cv f hf h
    simp only [VR] at h ⊢
    obtain ⟨arr, e, hs, h⟩ := h
    exact ⟨arr, e, hs, ih.1 _ _ hf h⟩
  | ps r p o => intro cv f _ h; exact hps _ _ _ _ _ h
  | pp r p o => intro cv f _ h; exact hpp _ _ _ _ _ h
  | pf r p o => intro cv f _ h; exact hpf _ _ _ _ _ h
  | nil =>
    refine ⟨fun vs f _ h => by simpa only [CR] using h, fun a j _ => by simp only [FC]⟩
  | cons c cs ihc ihs =>
    refine ⟨fun vs f hf h => ?_, fun a j h => ?_⟩
    · simp only [CR] at h ⊢
      obtain ⟨v, vs', f1, f2, e, h1, h2, hb⟩ := h
      exact ⟨v, vs', f1, f2, e, ihc _ _ (fun b hb1 => hf b (by have := hb b; omega)) h1, ihs.1 _ _ (fun b hb1 => hf b (by have := hb b; omega)) h2, hb⟩
    · simp only [FC] at h ⊢
      obtain ⟨⟨ad, u, e, hp, hc, hz, hv⟩, h⟩ := h
      refine ⟨⟨ad, u, e, hsub _ hp, ?_, hz, fun f hf => ?_⟩, ihs.2 _ _ h⟩
      · rw [World.cell?_of_block (w := w)]; exact hc
        have : (ad.add j).block = ad.block := by unfold Addr.add; split <;> rfl
        rw [this]; exact hΦ _ hp
      · exact ihc _ _ (fun b hb => by have := hf b; omega) (hv f hf)
end
end Go.AM
