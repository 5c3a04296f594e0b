/- From a function's contract to the row of a law that hands back true and leaves its arguments. -/
import Derived.Test.YtodlnccdpbpokaaDoorAmRead
import Derived.ProofKit
import Derived.ChangeStays
import Derived.OpenShut
set_option linter.unusedSimpArgs false
set_option linter.unusedVariables false
set_option linter.unusedSectionVars false
namespace Go.AM
open Go Go.ChangeShapes Go.WideShapes Go.ChangeAt Go.RowKit

/-- Elements of slices are no empty rows. -/
def slicesRowed (P : Program) : Bool := (List.range P.types.size).all fun t => match P.underlying t with
  | some (.slice e) => decide (0 < P.cellsOf e)
  | _ => true

section
variable {H : Type} {enc : TypeId × Value → H} {P : Program}

theorem keptBut_ext {W W' : World} (h : Ext W W' (fun _ => 0)) (may : MemPlace → Prop) : W.keptBut W' may := by
  refine ⟨h.os, h.output, fun i hi => ?_⟩
  rw [h.block i hi rfl]
  exact (World.keptBut_refl W may).2.2 i hi

theorem frozen_ext {W W' : World} (h : Ext W W' (fun _ => 0)) {a : Addr} (ha : a.block < W.heap.size) : W'.frozen? a = W.frozen? a := by
  simp only [World.frozen?, h.block a.block ha rfl]
theorem sameAt_ext {W W' : World} (h : Ext W W' (fun _ => 0)) {p : MemPlace} (hp : p.block < W.heap.size) : W.sameAt W' p := by
  cases p with
  | cell b off =>
    simp only [MemPlace.block] at hp
    simp only [World.sameAt, World.cell?, h.block b hp rfl]
  | map b =>
    simp only [MemPlace.block] at hp
    simp only [World.sameAt, h.block b hp rfl]

theorem trodAll_ext {W W' : World} (hl : laidOutB P = true) (hm : mapsRowed P = true) (hz : slicesRowed P = true) (hext : Ext W W' (fun _ => 0)) {sp : Nat → Bool} : ∀ {ts : List TypeId} {vs : List Value} {ds : List (DataW H)} {ps : List MemPlace},
    (∀ t ∈ ts, t < P.types.size) → DataW.TrodAll enc P W 0 (fun _ => true) true ts vs ds ps → (∀ p ∈ ps, sp p.block = true) → DataW.TrodAll enc P W' 0 sp true ts vs ds ps
  | [], vs, ds, ps, _, h, _ => by
    obtain ⟨rfl, rfl, rfl⟩ := trodAll_nil h
    exact trodAll_mk0
  | t :: ts, vs, ds, ps, ht, h, hs => by
    obtain ⟨v, vs1, d, ds1, a, b, rfl, rfl, rfl, ⟨n, h1⟩, h2⟩ := trodAll_cons h
    refine trodAll_cons_mk ⟨n, ?_⟩ (trodAll_ext hl hm hz hext (fun t h => ht t (by simp [h])) h2 (fun p hp => hs p (by simp [hp])))
    refine DataW.trod_stays (T := (· < P.types.size)) (kids_rows hl hm) (fun {t e} hT hu => ?_) (fun h => by cases h) (ht t (by simp)) h1 (fun p hp => sameAt_ext hext (DataW.trod_lt _ _ _ _ h1 p hp)) (fun p hp => hs p (by simp [hp]))
    have := List.all_eq_true.1 hz t (List.mem_range.2 hT)
    rw [hu] at this
    simpa using this

theorem tabs_of {w : World} (h : Lib.TabIs P w "internal/strconv.uint64pow10" .u64 Lib.pow10Tab) : Tabs P w (fun b => b < w.heap.size) := by
  intro p hp g hg
  simp only [tabList, List.mem_singleton] at hp
  subst hp
  refine ⟨?_, h⟩
  unfold Lib.TabIs World.var? at h
  rw [hg] at h
  simp only [Option.bind_some] at h
  show g < w.heap.size
  rcases Nat.lt_or_ge g w.heap.size with h' | h'
  · exact h'
  · rw [Array.getElem?_eq_none h'] at h; cases h

/-- The row's step. -/
theorem law_of_says {f : Nat} {fn : Func} {s : ChangeSpec} {apart fresh handsOn again : Bool} {tb : TypeId} {W : World} {args : Array Value} {ds gs : List (DataW H)} {before : List MemPlace} {avs : List AV}
    (hl : laidOutB P = true) (hm : mapsRowed P = true) (hz : slicesRowed P = true) (hts : ∀ t ∈ fn.params.toList, t < P.types.size) (hvars : s.vars = []) (hrt : fn.resultTypes = #[tb]) (htb : P.underlying tb = some .bool)
    (hW : DataW.Whole enc P fn.params.toList s.vars apart W args.toList ds gs before) (hfn : s.fn H (ds ++ []) = { results := [.lit (.bool true)], args := ds })
    (htab : Tabs P W (fun b => b < W.heap.size)) (hcr : CR P W (fun b => b < W.heap.size) (fun _ => undef) [] avs args.toList (fun _ => 0)) (hhr : hrs avs = false) (hsay : Says P f avs (.bool true) []) :
    Calls P f args W fun e W' => ∃ v, e = .returned v ∧ s.post enc P fn apart fresh handsOn again W args v W' := by
  refine (hsay W _ _ args _ hcr hhr ⟨fun b => by simp, fun b h => by simp at h, fun b h => h, fun b _ => rfl, htab⟩).mono ?_
  rintro en W' ⟨cv, Φ', f1, f2, rfl, hext, _, _, hv, _⟩
  obtain rfl := VR_bool hv
  have hW0 := hW
  obtain ⟨p, q, hA, hV, rfl, hfz, hnd⟩ := hW
  rw [hvars] at hV
  obtain ⟨rfl, rfl⟩ := trodVars_none hV
  have hold : ∀ x ∈ p ++ [], (fun b => decide (b < W.heap.size)) x.block = true := fun x hx => by simpa using hW0.lt x hx
  have hargs : ∀ sp : Nat → Bool, (∀ x ∈ p ++ [], sp x.block = true) → DataW.TrodAll enc P W' 0 sp true fn.params.toList args.toList (s.fn H (ds ++ [])).args (p ++ []) := fun sp hs => by
    rw [hfn]
    simp only [List.append_nil] at hs ⊢
    exact trodAll_ext hl hm hz hext hts hA hs
  have hres : ∀ (b : Nat) (sp : Nat → Bool) (hd : Bool), DataW.TrodAll enc P W' b sp hd fn.resultTypes.toList ((Value.bool true).resultList fn.resultTypes.size) (s.fn H (ds ++ [])).results [] := fun b sp hd => by
    rw [hfn, hrt]
    exact trodAll_cons_mk (shut_bool htb _) trodAll_mk0
  have hvs : ∀ sp : Nat → Bool, DataW.TrodVars enc P W' sp s.vars (s.fn H (ds ++ [])).vars [] := fun sp => by
    rw [hvars, hfn]; rfl
  refine ⟨_, rfl, ds, [], p ++ [], [], p ++ [], [], hW0, hres _ _ _, hargs _ hold, hvs _, World.keptBut_mono (fun x hx => ⟨hx, .inr (.inl hx)⟩) (keptBut_ext hext _), fun _ => ?_⟩
  refine ⟨ok_one hrt rfl (okWide_bool_mk htb _), _, _, ([] ++ (p ++ [])) ++ [], ⟨[] ++ (p ++ []), [], trodAll_append (hargs _ (fun _ _ => rfl)) (hres _ _ _), hvs _, rfl, ?_, ?_⟩, ?_⟩
  · intro b off hp
    rw [frozen_ext hext (by have := hW0.lt (.cell b off) (by simpa using hp); simpa [MemPlace.block] using this)]
    exact hfz b off (by simpa using hp)
  · intro ha
    simpa using hnd ha
  · intro x hx _
    simpa using hx
/-- A struct that reads so. -/
theorem agg_of_rd {w : World} {ds : List D} {v : Value} (h : Rd P w ds v.cells.toList) (hne : ds.length ≠ 1) {Φ : Nat → Prop} {σ : Nat → Value} {ρ : List Value} (hΦ : ∀ b, b < w.heap.size → Φ b) : VR P w Φ σ ρ (.agg (Cs ds)) v (fun _ => 0) := by
  have hl := Rd_length h
  cases v with
  | agg arr => simp only [VR]; exact ⟨arr, rfl, h Φ σ ρ hΦ⟩
  | _ => simp [Value.cells] at hl; exact absurd hl hne
theorem hr_Cs {ds : List D} : hrs (Cs ds) = false := by
  induction ds with
  | nil => rfl
  | cons d ds ih => cases d <;> simp [hrs, hr, ih]
end
end Go.AM
