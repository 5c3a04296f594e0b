import Derived.Test.YtafglhcclmbnbaaGreatAmMem
set_option linter.unusedSimpArgs false
set_option linter.unusedVariables false
set_option linter.unusedSectionVars false
namespace Go.AM
open Go
section
variable {P : Program} {w : World} {Φ : Nat → Prop} {σ : Nat → Value} {ρ : List Value}
theorem wG {c:AV} {cv:Value} {f:Cnt} (h:VR P w Φ σ ρ c cv f) (hr0:pz c=false):hr c=false:=by
 cases c<;>simp[pz,eU] at hr0<;>try rfl
 ·rename_i g cs
  simp only[VR] at h
  obtain⟨vs,_,hq,_⟩:=h
  simp only[hr]
  refine Qa fun c hc=>?_
  rcases hq c hc with h1|h1
  ·have:eU c=false:=hr0 c hc
   rw[this] at h1;cases h1
  ·exact h1
 ·exact IP h
 ·exact acj h
theorem kP {v:AV} {cv:Value} {f:Cnt} (h:VR P w Φ σ ρ v cv f) (h0:iQ v=false):hr v=false:=by
 have all:∀ (cs:List AV) (vs:List Value) (f:Cnt),CR P w Φ σ ρ cs vs f→cs.any pz=false→hrs cs=false:=by
  intro cs
  induction cs with
  | nil=>intro _ _ _ _;rfl
  | cons c cs ih =>
   intro vs f hc ha
   simp only[List.any_cons,Bool.or_eq_false_iff] at ha
   simp only[CR] at hc
   obtain⟨v,vs',f1,f2,rfl,h1,h2,_⟩:=hc
   simp only[hrs,Bool.or_eq_false_iff]
   exact⟨wG h1 ha.1,ih _ _ h2 ha.2⟩
 cases v with
 | agg cs=>simp only[VR] at h;obtain⟨arr,_,h⟩:=h;simp only[hr];exact all _ _ _ h (by simpa [iQ] using h0)
 | tup sh cs=>simp only[VR] at h;obtain⟨arr,_,_,h⟩:=h;simp only[hr];exact all _ _ _ h (by simpa [iQ] using h0)
 | _=>exact wG h (by simpa only[iQ] using h0)
theorem xE:∀ {e:List AV} {vs:List Value} {f:Cnt},CR P w Φ σ ρ e vs f→∃ f',CR P w Φ σ ρ (nH e) vs f'∧(∀ b,f' b≤f b)∧hrs (nH e)=false
 | [],vs,f,h=>⟨f,by simpa [nH] using h,fun b=>Nat.le_refl _,rfl⟩
 | v::e,vs,f,h=>by
  simp only[CR] at h
  obtain⟨cv,vs',f1,f2,rfl,h1,h2,hf⟩:=h
  obtain⟨f',k1,k2,k3⟩:=xE h2
  simp only[nH,List.map_cons]
  by_cases hr0:iQ v=true
  ·rw[if_pos hr0]
   refine⟨_,CR_cons (f1:=fun _=>0) (by unfold VR;exact fun _=>rfl) k1,fun b=>by show 0+f' b≤f b;have:=hf b;have:=k2 b;omega,?_⟩
   simp only[hrs,Bool.or_eq_false_iff];exact⟨rfl,k3⟩
  ·rw[if_neg hr0]
   refine⟨_,CR_cons h1 k1,fun b=>by show f1 b+f' b≤f b;have:=hf b;have:=k2 b;omega,?_⟩
   simp only[hrs,Bool.or_eq_false_iff];exact⟨kP h1 (by simpa using hr0),k3⟩
theorem Dh {w':World} {e:Env} {f:Cnt} (h:CR P w Φ σ ρ e ρ f) (hk:∀ b,1≤f b→w'.heap[b]?=w.heap[b]?) (hΦ:∀ b,Φ b→w'.heap[b]?=w.heap[b]?) {c:AV} {v:Value} {g:Cnt} (hc:VR P w Φ σ ρ c v g) (hg:∀ b,1≤g b→w'.heap[b]?=w.heap[b]?) (hl:rH e c=true):VR P w' Φ σ ρ c v g:=by
 have other:pz c=false→VR P w' Φ σ ρ c v g:=fun hr=>uM w' Φ ρ hΦ (fun _ h=>h) c v g (wG hc hr) hg hc
 cases c with
 | ps r p o =>
  simp only[rH,Option.isSome_iff_exists] at hl
  obtain⟨row,hrow⟩:=hl
  simp only[VR] at hc ⊢
  rw[sV h hrow hk];exact hc
 | pp r p o =>
  simp only[rH,Option.isSome_iff_exists] at hl
  obtain⟨row,hrow⟩:=hl
  simp only[VR] at hc ⊢
  rw[sV h hrow hk];exact hc
 | pf r p o =>
  simp only[rH,Option.isSome_iff_exists] at hl
  obtain⟨row,hrow⟩:=hl
  simp only[VR] at hc ⊢
  rw[sV h hrow hk];exact hc
 | pw r p o lo m sz =>
  simp only[rH,Option.isSome_iff_exists] at hl
  obtain⟨row,hrow⟩:=hl
  simp only[VR] at hc ⊢
  rw[sV h hrow hk];exact hc
 | _=>exact other (by simpa [rH] using hl)
theorem ve {w':World} {e:Env} {f:Cnt} (h:CR P w Φ σ ρ e ρ f) (hk:∀ b,1≤f b→w'.heap[b]?=w.heap[b]?) (hΦ:∀ b,Φ b→w'.heap[b]?=w.heap[b]?):∀ {cs:List AV} {vs:List Value} {g:Cnt},CR P w Φ σ ρ cs vs g→(∀ b,1≤g b→w'.heap[b]?=w.heap[b]?)→cs.all (rH e)=true→CR P w' Φ σ ρ cs vs g
 | [],vs,g,hc,_,_=>by simpa only[CR] using hc
 | c::cs,vs,g,hc,hg,ha=>by
  simp only[List.all_cons,Bool.and_eq_true] at ha
  simp only[CR] at hc ⊢
  obtain⟨v,vs',f1,f2,e1,h1,h2,hb⟩:=hc
  exact⟨v,vs',f1,f2,e1,Dh h hk hΦ h1 (fun b hb1=>hg b (by have:=hb b;omega)) ha.1,ve h hk hΦ h2 (fun b hb1=>hg b (by have:=hb b;omega)) ha.2,hb⟩
theorem NS {w':World} {e:Env} {f:Cnt} (h:CR P w Φ σ ρ e ρ f) (hk:∀ b,1≤f b→w'.heap[b]?=w.heap[b]?) (hΦ:∀ b,Φ b→w'.heap[b]?=w.heap[b]?) {c:AV} {v:Value} {g:Cnt} (hc:VR P w Φ σ ρ c v g) (hg:∀ b,1≤g b→w'.heap[b]?=w.heap[b]?) (hl:kW e c=true):VR P w' Φ σ ρ c v g:=by
 cases c with
 | agg cs=>simp only[VR] at hc ⊢;obtain⟨arr,e1,hc⟩:=hc;exact⟨arr,e1,ve h hk hΦ hc hg hl⟩
 | tup sh cs=>simp only[VR] at hc ⊢;obtain⟨arr,e1,hs,hc⟩:=hc;exact⟨arr,e1,hs,ve h hk hΦ hc hg hl⟩
 | _=>exact Dh h hk hΦ hc hg hl
theorem zZ {w':World} {e:Env} {f:Cnt} (h:CR P w Φ σ ρ e ρ f) (hk:∀ b,1≤f b→w'.heap[b]?=w.heap[b]?) (hΦ:∀ b,Φ b→w'.heap[b]?=w.heap[b]?):∀ {cs:List AV} {vs:List Value} {g:Cnt},CR P w Φ σ ρ cs vs g→(∀ b,1≤g b→w'.heap[b]?=w.heap[b]?) →
  ∃ g',CR P w' Φ σ ρ (cs.map fun v=>if kW e v then v else .dead) vs g'∧∀ b,g' b≤g b
 | [],vs,g,hc,_=>⟨g,by simpa [CR] using hc,fun _=>Nat.le_refl _⟩
 | c::cs,vs,g,hc,hg=>by
  simp only[CR] at hc
  obtain⟨v,vs',f1,f2,rfl,h1,h2,hb⟩:=hc
  obtain⟨g',k1,k2⟩:=zZ h hk hΦ h2 (fun b hb1=>hg b (by have:=hb b;omega))
  simp only[List.map_cons]
  by_cases hl:kW e c=true
  ·rw[if_pos hl]
   exact⟨_,CR_cons (NS h hk hΦ h1 (fun b hb1=>hg b (by have:=hb b;omega)) hl) k1,fun b=>by show f1 b+g' b≤g b;have:=hb b;have:=k2 b;omega⟩
  ·rw[if_neg hl]
   exact⟨_,CR_cons (f1:=fun _=>0) (by unfold VR;exact fun _=>rfl) k1,fun b=>by show 0+g' b≤g b;have:=hb b;have:=k2 b;omega⟩
theorem RU (e:Env):(nH e).length=e.length:=by simp[nH]
theorem JW {e e':Env} {c c':AV} {cv:Value} {f:Cnt} (ht:takeC e c=some (c',e')) (hv:VR P w Φ σ ρ c' cv f):cv.oneCell'=true:=by
 have ko:∀ {s t n cs},VR P w Φ σ ρ (.osl s t n cs) cv f→cv.oneCell'=true:=fun hv=>by
  simp only[VR] at hv;obtain⟨_,_,xs,f1,ho,_⟩:=hv;obtain⟨a,c,rfl,_⟩:=dF ho;rfl
 have kb:∀ {s t cs},VR P w Φ σ ρ (.bx s t cs) cv f→cv.oneCell'=true:=fun hv=>by
  simp only[VR] at hv;obtain⟨_,_,b0,arr,f1,rfl,_⟩:=hv;rfl
 cases c with
 | ps r p o =>
  simp only[takeC] at ht
  split at ht
  ·split at ht
   ·simp at ht;obtain⟨rfl,_⟩:=ht;exact ko hv
   ·cases ht
  ·cases ht
 | pp r p o =>
  simp only[takeC] at ht
  split at ht
  ·split at ht
   ·split at ht
    ·split at ht
     ·simp at ht;obtain⟨rfl,_⟩:=ht;exact kb hv
     ·cases ht
    ·cases ht
   ·cases ht
  ·cases ht
 | osl s t n cs =>
  cases n with
  | succ n=>simp[takeC] at ht
  | zero=>cases cs with
   | nil=>simp[takeC] at ht;obtain⟨rfl,_⟩:=ht;exact ko hv
   | cons c cs=>simp[takeC] at ht
 | fn g0 cs=>cases cs with
  | nil=>simp[takeC] at ht;obtain⟨rfl,_⟩:=ht;simp only[VR] at hv;obtain⟨vs,rfl,_⟩:=hv;rfl
  | cons c cs=>simp[takeC] at ht
 | int k n=>simp[takeC] at ht;obtain⟨rfl,_⟩:=ht;simp only[VR] at hv;rw[hv.1];rfl
 | bool b=>simp[takeC] at ht;obtain⟨rfl,_⟩:=ht;simp only[VR] at hv;rw[hv.1];rfl
 | str s=>simp[takeC] at ht;obtain⟨rfl,_⟩:=ht;simp only[VR] at hv;rw[hv.1];rfl
 | nilf=>simp[takeC] at ht;obtain⟨rfl,_⟩:=ht;simp only[VR] at hv;rw[hv.1];rfl
 | nilp=>simp[takeC] at ht;obtain⟨rfl,_⟩:=ht;simp only[VR] at hv;rw[hv.1];rfl
 | nsl t=>simp[takeC] at ht;obtain⟨rfl,_⟩:=ht;simp only[VR] at hv;obtain⟨⟨a,c,rfl,_⟩,_⟩:=hv;rfl
 | rsl n cs=>simp[takeC] at ht;obtain⟨rfl,_⟩:=ht;simp only[VR] at hv;obtain⟨⟨a,c,rfl,_⟩,_⟩:=hv;rfl
 | rp cs=>simp[takeC] at ht;obtain⟨rfl,_⟩:=ht;simp only[VR] at hv;obtain⟨⟨a,rfl,_⟩,_⟩:=hv;rfl
 | _=>simp[takeC] at ht
theorem qI:∀ {cs cs':List AV} {e e':Env} {vs:List Value} {f:Cnt},dQ e cs=some (cs',e')→CR P w Φ σ ρ cs' vs f→∀ v∈vs,v.oneCell'=true
 | [],cs',e,e',vs,f,ht,hv=>by simp[dQ] at ht;obtain⟨rfl,_⟩:=ht;simp only[CR] at hv;simp[hv.1]
 | c::cs,cs',e,e',vs,f,ht,hv=>by
  simp only[dQ] at ht
  cases ht1:takeC e c with
  | none=>simp[ht1] at ht
  | some x =>
   obtain⟨c1,e1⟩:=x
   cases ht2:dQ e1 cs with
   | none=>simp[ht1,ht2] at ht
   | some y =>
    obtain⟨cs1,e2⟩:=y
    simp[ht1,ht2] at ht
    obtain⟨rfl,rfl⟩:=ht
    simp only[CR] at hv
    obtain⟨v,vs',f1,f2,rfl,h1,h2,_⟩:=hv
    intro u hu
    rcases List.mem_cons.1 hu with rfl|hu
    ·exact JW ht1 h1
    ·exact qI ht2 h2 u hu
def uG:Value→Bool
 | .int _ _=>true
 | .bool _=>true
 | .string _=>true
 | _=>false
theorem EY {c:AV} {cv:Value} {f:Cnt} (hs:dR c=true) (h:VR P w Φ σ ρ c cv f):uG cv=true:=by
 cases c<;>simp[dR] at hs<;>(simp only[VR] at h;rw[h.1];rfl)
theorem KF {v:Value} {b:Nat} (h:hblk v=some b):uG v=false:=by
 cases v<;>first|rfl|(simp[hblk] at h)
theorem rU {w':World} {b:Nat} {arr arr':Array Value} {t:TypeId} (hb:w.heap[b]?=some (.cells arr t (0,0))) (hb':w'.heap[b]?=some (.cells arr' t (0,0)))
  (hother:∀ x,x≠b→w'.heap[x]?=w.heap[x]?) (hs:∀ (i:Nat) v,arr[i]?=some v→uG v=false→arr'[i]?=some v) :
  ∀ (p:List Nat) (bo:Option Nat) (vs vs':List Value) (bo':Option Nat) (row:List Value),(∀ (i:Nat) v,vs[i]?=some v→uG v=false→vs'[i]?=some v)→walk w bo vs p=some (bo',row) →
   ∃ row',walk w' bo vs' p=some (bo',row')∧(∀ (i:Nat) v,row[i]?=some v→uG v=false→row'[i]?=some v)
 | [],bo,vs,vs',bo',row,hv,h=>by
  simp[walk] at h;obtain⟨rfl,rfl⟩:=h
  exact⟨vs',by simp[walk],hv⟩
 | o::p,bo,vs,vs',bo',row,hv,h=>by
  simp only[walk] at h ⊢
  cases h1:vs[o]? with
  | none=>simp[h1] at h
  | some u =>
   cases h2:hblk u with
   | none=>simp[h1,h2] at h
   | some b1 =>
    cases h3:jQ w b1 with
    | none=>simp[h1,h2,h3] at h
    | some r1 =>
     simp only[h1,h2,h3] at h
     have e1:=hv o u h1 (KF h2)
     simp only[e1,h2]
     by_cases hbb:b1=b
     ·subst hbb
      have h4:jQ w' b1=some arr'.toList:=by simp[jQ,hb']
      have h5:r1=arr.toList:=by simp[jQ,hb] at h3;exact h3.symm
      subst h5
      simp only[h4]
      exact rU hb hb' hother hs p (some b1) arr.toList arr'.toList bo' row (fun i v hi hn=>by simpa using hs i v (by simpa using hi) hn) h
     ·have h4:jQ w' b1=some r1:=by unfold jQ at h3 ⊢;rw[hother b1 hbb];exact h3
      simp only[h4]
      exact rU hb hb' hother hs p (some b1) r1 r1 bo' row (fun i v hi _=>hi) h
theorem GX {A V:List Value} {o n:Nat} (h1:o+V.length≤n) (h2:n≤A.length) :
  (A.take o++V++A.drop (o+V.length)).take n=A.take o++V++(A.drop (o+V.length)).take (n-(o+V.length)):=by
 rw[List.take_append]
 have e1:(A.take o++V).length=o+V.length:=by simp;omega
 rw[e1,List.take_of_length_le (by omega)]
theorem uK:∀ {cs:List AV} {vs:List Value} {f:Cnt},CR P w Φ σ ρ cs vs f→cs.all dR=true→∀ v∈vs,uG v=true
 | [],vs,f,h,_=>by simp only[CR] at h;simp[h.1]
 | c::cs,vs,f,h,ha=>by
  simp only[List.all_cons,Bool.and_eq_true] at ha
  simp only[CR] at h
  obtain⟨v,vs',f1,f2,rfl,h1,h2,_⟩:=h
  intro u hu
  rcases List.mem_cons.1 hu with rfl|hu
  ·exact EY ha.1 h1
  ·exact uK h2 ha.2 u hu
theorem sK {w':World} {b:Nat} {arr arr':Array Value} {t:TypeId} {o sz:Nat} (hb:w.heap[b]?=some (.cells arr t (0,0))) (hb':w'.heap[b]?=some (.cells arr' t (0,0)))
  (hother:∀ x,x≠b→w'.heap[x]?=w.heap[x]?) (hs:∀ (i:Nat) v,arr[i]?=some v→(i<o∨o+sz≤i)→arr'[i]?=some v) :
  ∀ (p:List Nat) (bo:Option Nat) (vs vs':List Value) (bo':Option Nat) (row:List Value),(∀ (i:Nat) v,vs[i]?=some v→(i<o∨o+sz≤i)→vs'[i]?=some v)→(∀ k∈p,k<o∨o+sz≤k)→walk w bo vs p=some (bo',row) →
   ∃ row',walk w' bo vs' p=some (bo',row')
 | [],bo,vs,vs',bo',row,hv,_,h=>by
  simp[walk] at h;obtain⟨rfl,rfl⟩:=h
  exact⟨vs',by simp[walk]⟩
 | k::p,bo,vs,vs',bo',row,hv,hk,h=>by
  simp only[walk] at h ⊢
  cases h1:vs[k]? with
  | none=>simp[h1] at h
  | some u =>
   cases h2:hblk u with
   | none=>simp[h1,h2] at h
   | some b1 =>
    cases h3:jQ w b1 with
    | none=>simp[h1,h2,h3] at h
    | some r1 =>
     simp only[h1,h2,h3] at h
     simp only[hv k u h1 (hk k (by simp)),h2]
     by_cases hbb:b1=b
     ·subst hbb
      have h4:jQ w' b1=some arr'.toList:=by simp[jQ,hb']
      have h5:r1=arr.toList:=by simp[jQ,hb] at h3;exact h3.symm
      subst h5
      simp only[h4]
      exact sK hb hb' hother hs p (some b1) arr.toList arr'.toList bo' row (fun i v hi hn=>by simpa using hs i v (by simpa using hi) hn) (fun k hk1=>hk k (by simp[hk1])) h
     ·have h4:jQ w' b1=some r1:=by unfold jQ at h3 ⊢;rw[hother b1 hbb];exact h3
      simp only[h4]
      exact sK hb hb' hother hs p (some b1) r1 r1 bo' row (fun i v hi _=>hi) (fun k hk1=>hk k (by simp[hk1])) h
theorem NU {w':World} {b:Nat} {arr arr':Array Value} {t:TypeId} {o sz:Nat} (hb:w.heap[b]?=some (.cells arr t (0,0))) (hb':w'.heap[b]?=some (.cells arr' t (0,0)))
  (hother:∀ x,x≠b→w'.heap[x]?=w.heap[x]?) (hs:∀ (i:Nat) v,arr[i]?=some v→(i<o∨o+sz≤i)→arr'[i]?=some v) {v:AV} {cv:Value} {f:Cnt} (hk:vS o sz v=true) (h:VR P w Φ σ ρ v cv f):VR P w' Φ σ ρ v cv f:=by
 cases v<;>simp only[vS] at hk<;>try (cases hk;done)
 rename_i r p q
 simp only[VR] at h ⊢
 obtain⟨⟨b0,row,hw,e⟩,hz⟩:=h
 have hq:∀ k∈p.tail,k<o∨o+sz≤k:=fun k hk1=>by have:=List.all_eq_true.1 hk k hk1;simpa using this
 cases p with
 | nil=>simp[walk] at hw
 | cons k p =>
  simp only[walk] at hw ⊢
  cases h1:(rowOf ρ r)[k]? with
  | none=>simp[h1] at hw
  | some u =>
   cases h2:hblk u with
   | none=>simp[h1,h2] at hw
   | some b1 =>
    cases h3:jQ w b1 with
    | none=>simp[h1,h2,h3] at hw
    | some r1 =>
     simp only[h1,h2,h3] at hw
     simp only[h2]
     by_cases hbb:b1=b
     ·subst hbb
      have h4:jQ w' b1=some arr'.toList:=by simp[jQ,hb']
      have h5:r1=arr.toList:=by simp[jQ,hb] at h3;exact h3.symm
      subst h5
      obtain⟨row',q1⟩:=sK hb hb' hother hs p (some b1) arr.toList arr'.toList (some b0) row (fun i v hi hn=>by simpa using hs i v (by simpa using hi) hn) hq hw
      exact⟨⟨b0,row',by simp only[h4];exact q1,e⟩,hz⟩
     ·have h4:jQ w' b1=some r1:=by unfold jQ at h3 ⊢;rw[hother b1 hbb];exact h3
      obtain⟨row',q1⟩:=sK hb hb' hother hs p (some b1) r1 r1 (some b0) row (fun i v hi _=>hi) hq hw
      exact⟨⟨b0,row',by simp only[h4];exact q1,e⟩,hz⟩
theorem Dj {o sz:Nat}:∀ {e:List AV} {vs:List Value} {f:Cnt},CR P w Φ σ ρ e vs f→∃ f',CR P w Φ σ ρ (BR o sz e) vs f'∧(∀ b,f' b≤f b)∧∀ v∈BR o sz e,hr v=false∨vS o sz v=true
 | [],vs,f,h=>⟨f,by simpa [BR] using h,fun b=>Nat.le_refl _,by simp[BR]⟩
 | v::e,vs,f,h=>by
  simp only[CR] at h
  obtain⟨cv,vs',f1,f2,rfl,h1,h2,hf⟩:=h
  obtain⟨f',k1,k2,k3⟩:=Dj (o:=o) (sz:=sz) h2
  simp only[BR,List.map_cons]
  by_cases hr0:(iQ v&&!vS o sz v)=true
  ·rw[if_pos hr0]
   exact⟨_,CR_cons (f1:=fun _=>0) (by unfold VR;exact fun _=>rfl) k1,fun b=>by show 0+f' b≤f b;have:=hf b;have:=k2 b;omega,fun u hu=>(List.mem_cons.1 hu).elim (fun h=>.inl (by rw[h];rfl)) (k3 u)⟩
  ·rw[if_neg hr0]
   refine⟨_,CR_cons h1 k1,fun b=>by show f1 b+f' b≤f b;have:=hf b;have:=k2 b;omega,fun u hu=>(List.mem_cons.1 hu).elim (fun h=>?_) (k3 u)⟩
   subst h
   by_cases h3:iQ u=true
   ·right;simpa [h3] using hr0
   ·exact .inl (kP h1 (by simpa using h3))
theorem Cj {v:AV} {cv:Value} {f:Cnt} (hs:nY v≠0) (h:VR P w Φ σ ρ v cv f):σ (nY v)=cv:=by
 cases v<;>simp only[nY] at hs ⊢<;>first|exact absurd rfl hs|(simp only[VR] at h;exact h.1 hs)
theorem tX {cs:List AV} {o:Nat} {p ss:List Nat} (h:kF cs (o::p)=some ss):∃ v ics ss',cs[o]?=some v∧nY v≠0∧inner v=some ics∧kF ics p=some ss'∧ss=nY v::ss':=by
 simp only[kF] at h
 cases h1:cs[o]? with
 | none=>simp[h1] at h
 | some v =>
  simp only[h1] at h
  by_cases h2:nY v=0
  ·rw[if_pos h2] at h;cases h
  ·rw[if_neg h2] at h
   cases h3:inner v with
   | none=>simp[h3] at h
   | some ics =>
    simp only[h3] at h
    cases h4:kF ics p with
    | none=>simp[h4] at h
    | some ss' =>
     simp only[h4,Option.some.injEq] at h
     exact⟨v,ics,ss',rfl,h2,h3,h4,h.symm⟩
theorem Fq {w':World} {Φ':Nat→Prop} {ρ':List Value}:∀ (p:List Nat) (cs cs3:List AV) (vs vs3:List Value) (f f3:Cnt) (bo bo3:Option Nat) (b:Nat) (row:List Value) (ss:List Nat),
  CR P w Φ σ ρ cs (vs.take cs.length) f→CR P w' Φ' σ ρ' cs3 (vs3.take cs3.length) f3→kF cs p=some ss→kF cs3 p=some ss→walk w bo vs p=some (some b,row)→p≠[]→∃ row',walk w' bo3 vs3 p=some (some b,row')
 | [],cs,cs3,vs,vs3,f,f3,bo,bo3,b,row,ss,_,_,_,_,_,hp=>absurd rfl hp
 | o::p,cs,cs3,vs,vs3,f,f3,bo,bo3,b,row,ss,h,h3,hs,hs3,hw,_=>by
  obtain⟨v,ics,ss',a1,a2,a3,a4,a5⟩:=tX hs
  obtain⟨v3,ics3,ss3,b1,b2,b3,b4,b5⟩:=tX hs3
  rw[a5] at b5
  simp only[List.cons.injEq] at b5
  obtain⟨e1,rfl⟩:=b5
  obtain⟨cv,g1,g2,hcv,hvr,_,_⟩:=dO o h a1
  obtain⟨cv3,k1,k2,hcv3,hvr3,_,_⟩:=dO o h3 b1
  have hc:=(dS hcv).1
  have hc3:=(dS hcv3).1
  have e2:cv=cv3:=by rw[←Cj a2 hvr,←Cj b2 hvr3,e1]
  subst e2
  obtain⟨bb,t,arr,h1,hbk,hheap,hcr,_,_,_⟩:=pM a3 hvr
  obtain⟨bb3,t3,arr3,h13,hbk3,hheap3,hcr3,_,_,_⟩:=pM b3 hvr3
  rw[hbk] at hbk3
  obtain rfl:=Option.some.inj hbk3
  have hr1:jQ w bb=some arr.toList:=by simp[jQ,hheap]
  have hr3:jQ w' bb=some arr3.toList:=by simp[jQ,hheap3]
  simp only[walk,hc,hbk,hr1] at hw
  simp only[walk,hc3,hbk,hr3]
  cases p with
  | nil =>
   simp only[walk,Option.some.injEq,Prod.mk.injEq] at hw ⊢
   exact⟨arr3.toList,hw.1,rfl⟩
  | cons o2 p2=>exact Fq (o2::p2) ics ics3 arr.toList arr3.toList h1 h13 (some bb) (some bb) b row ss' hcr hcr3 a4 b4 hw (by simp)
theorem yV {e:Env} {r:Nat} {p ss:List Nat} (h:GL e r p=some ss):∃ v,e[r]?=some v∧v≠.dead∧(∀ s,v≠.gone s)∧kF (cellsOf v) p=some ss:=by
 unfold GL at h
 split at h
 ·cases h
 ·cases h
 ·rename_i v h1 h2 hv;exact⟨v,hv,h1,h2,h⟩
 ·cases h
theorem RX {w':World} {Φ':Nat→Prop} {e e3:Env} {f f3:Cnt} (h:CR P w Φ σ ρ e ρ f) (h3:CR P w' Φ' σ ρ e3 ρ f3) {r:Nat} {p:List Nat} {o:Nat} {cv:Value} {g:Cnt} (hp:p≠[]) (hs:rq e e3 r p=true) (hv:VR P w Φ σ ρ (.pp r p o) cv g):VR P w' Φ' σ ρ (.pp r p o) cv (fun _=>0):=by
 simp only[VR] at hv ⊢
 obtain⟨⟨b0,row,hw,rfl⟩,_⟩:=hv
 unfold rq at hs
 split at hs
 ·rename_i a c ha hc
  have hac:a=c:=by simpa using hs
  subst hac
  obtain⟨v,v1,v2,v3,v4⟩:=yV ha
  obtain⟨u,u1,u2,u3,u4⟩:=yV hc
  obtain⟨x,x1,x2,hx,hxv,_,_⟩:=dO r h v1
  obtain⟨y,y1,y2,hy,hyv,_,_⟩:=dO r h3 u1
  rw[hx] at hy
  obtain rfl:=Option.some.inj hy
  have c1:=jA v2 v3 hxv
  have c2:=jA u2 u3 hyv
  have l1:=dm c1
  have l2:=dm c2
  have hro:rowOf ρ r=gB x:=by simp[rowOf,hx]
  rw[hro] at hw ⊢
  obtain⟨row',hw'⟩:=Fq p (cellsOf v) (cellsOf u) (gB x) (gB x) x1 y1 none none b0 row a (by rw[l1,List.take_length];exact c1) (by rw[l2,List.take_length];exact c2) v4 u4 hw hp
  exact⟨⟨b0,row',hw',rfl⟩,fun _=>trivial⟩
 ·cases hs
theorem uP {w':World} {Φ':Nat→Prop} {e e3:Env} {f f3:Cnt} (h:CR P w Φ σ ρ e ρ f) (h3:CR P w' Φ' σ ρ e3 ρ f3):CR P w' Φ' σ ρ (oU e e3) ρ f3:=by
 have key:∀ (es es3:List AV) (vs:List Value) (g g3:Cnt),CR P w Φ σ ρ es vs g→CR P w' Φ' σ ρ es3 vs g3→CR P w' Φ' σ ρ (List.zipWith (bz e e3) es es3) vs g3:=by
  intro es
  induction es with
  | nil=>intro es3 vs g g3 h1 h2;simp only[CR] at h1;obtain⟨rfl,_⟩:=h1;cases es3 with
   | nil=>simpa using h2
   | cons c cs=>simp only[CR] at h2;obtain⟨v,vs',f1,f2,hv,_⟩:=h2;cases hv
  | cons v es ih =>
   intro es3 vs g g3 h1 h2
   simp only[CR] at h1
   obtain⟨cv,vs',f1,f2,rfl,a1,a2,_⟩:=h1
   cases es3 with
   | nil=>simp only[CR] at h2;cases h2.1
   | cons v3 es3 =>
    simp only[CR] at h2
    obtain⟨cv3,vs3,k1,k2,he,b1,b2,hb⟩:=h2
    simp only[List.cons.injEq] at he
    obtain⟨rfl,rfl⟩:=he
    simp only[List.zipWith_cons_cons,CR]
    refine⟨cv,vs',k1,k2,rfl,?_,ih es3 vs' f2 k2 a2 b2,hb⟩
    unfold bz
    split
    ·rename_i r p o
     split
     ·rename_i hc
      have hz:k1=fun _=>0:=funext (by simpa only[VR] using b1)
      rw[hz]
      exact RX h h3 hc.1 hc.2 a1
     ·exact b1
    ·exact b1
 exact key e e3 ρ f f3 h h3
theorem NC {e e0:Env} {f:Cnt} {st:Sm} (h:CR P w Φ σ ρ e ρ f) (hsep:∀ b,f b≤1) (hp:Jj e st=some e0):∃ f0,CR P w Φ σ ρ e0 ρ f0∧∀ b,f0 b≤f b:=by
 cases st with
 | sc=>simp[Jj] at hp;subst hp;exact⟨f,h,fun _=>Nat.le_refl _⟩
 | al=>simp[Jj] at hp;subst hp;exact⟨f,h,fun _=>Nat.le_refl _⟩
 | kp k =>
  cases k with
  | none=>simp[Jj] at hp;subst hp;exact⟨f,h,fun _=>Nat.le_refl _⟩
  | some k =>
  simp only[Jj] at hp
  split at hp
  ·rename_i u hu
   split at hp
   ·rename_i hpl
    split at hp
    ·rename_i u' e1 ht
     simp at hp;subst hp
     obtain⟨cv,g1,g2,hcv,hvr,hg,_⟩:=dO k h hu
     have one:∀ (c:AV) cv (g:Cnt),(dR c||eU c)=true→VR P w Φ σ ρ c cv g→∀ b,g b=0:=by
      intro c cv g hc hv
      cases c<;>simp[dR,eU] at hc<;>(simp only[VR] at hv;exact hv.2)
     have all:∀ (cs:List AV) vs (g:Cnt),(cs.all fun c=>dR c||eU c)=true→CR P w Φ σ ρ cs vs g→∀ b,g b=0:=by
      intro cs
      induction cs with
      | nil=>intro vs g _ hc;simp only[CR] at hc;exact hc.2
      | cons c cs ih =>
       intro vs g ha hc
       simp only[List.all_cons,Bool.and_eq_true] at ha
       simp only[CR] at hc
       obtain⟨v,vs',f1,f2,_,h1,h2,hb⟩:=hc
       intro b
       have:=one c v f1 ha.1 h1 b
       have:=ih vs' f2 ha.2 h2 b
       have:=hb b;omega
     have key:∃ (f1 f2:Cnt),VR P w Φ σ ρ u' cv f1∧CR P w Φ σ ρ e1 ρ f2∧(∀ b,f b=f1 b+f2 b)∧e1.length=e.length:=by
      cases u with
      | agg cs =>
       simp only[yB] at ht
       split at ht
       ·rename_i cs' e2 ht2
        simp at ht;obtain⟨rfl,rfl⟩:=ht
        simp only[VR] at hvr;obtain⟨arr,rfl,hc⟩:=hvr
        obtain⟨f1,f2,k1,k2,k3,k4⟩:=ji h hsep hc (all _ _ _ (by simpa only[wB] using hpl) hc) ht2
        exact⟨f1,f2,by simp only[VR];exact⟨arr,rfl,k1⟩,k2,k3,k4⟩
       ·cases ht
      | tup sh cs=>simp[yB] at ht
      | _ =>
       simp only[wB] at hpl
       simp only[yB] at ht
       obtain⟨f1,f2,k1,k2,k3,k4⟩:=lK h hsep hvr ht
       exact⟨f1,f2,k1,k2,fun b=>by have:=k3 b;have:=one _ _ _ (by rw[hpl,Bool.or_true]) hvr b;omega,k4⟩
     obtain⟨f1,f2,k1,k2,k3,k4⟩:=key
     have hk:k<e1.length:=by rw[k4];exact (List.getElem?_eq_some_iff.1 hu).1
     obtain⟨v2,m1,m2,hv2,hm2,hm,hset⟩:=dO k k2 (List.getElem?_eq_getElem hk)
     rw[hcv] at hv2;obtain rfl:=Option.some.inj hv2
     have:=hset u' cv f1 k1
     rw[gW (α:=Value) hcv] at this
     exact⟨_,this,fun b=>by show f1 b+m2 b≤f b;have:=k3 b;have:=hm b;omega⟩
    ·cases hp
   ·cases hp
  ·cases hp
section
variable {e : Env} {f : Cnt} {ν : List Nat} {a : Act} {o : Oper} (h : CR P w Φ σ ρ e ρ f) (hl : LK ν ρ e a.tmps) (hi : Inv P w Φ f)
include h hl hi
theorem Nq {sz:Nat} {st:Sm} {y z:Opd} {v:AV} {e':Env} (hok:gz P ν o.op (.store sz st y z)=true) (hx:Td e sz st y z=some (v,e')) :
  ∃ w',(execOp a.eval o).run P w=.ok .skip w'∧kH P w w' Φ σ ρ f v unk e'∧v=.dead:=by
 simp only[Td] at hx
 simp only[gz] at hok
 split at hok
 ·rename_i t x xv ho
  simp only[Bool.and_eq_true,beq_iff_eq] at hok
  obtain⟨⟨hx1,hx2⟩,hsz⟩:=hok
  simp only[mi,Option.map_eq_some_iff] at hsz
  obtain⟨inf,hinf,hsz⟩:=hsz
  split at hx
  ·rename_i r p o0 u hv1 hv2
   split at hx
   ·rename_i hlen
    obtain⟨hlen,hp⟩:=hlen
    split at hx
    ·rename_i cs e1 ht
     generalize hek:zY st o0 sz e1=ek at hx
     split at hx
     ·rename_i row hrow
      split at hx
      ·rename_i hcond
       obtain⟨hle,hroot,hsc⟩:=hcond
       simp only[Option.some.injEq,Prod.mk.injEq] at hx
       obtain⟨rfl,rfl⟩:=hx
       have c1:=dC h hl hx1 hv1 (fun _=>0) (fun _=>rfl)
       simp only[VR] at c1
       obtain⟨⟨b0,row0,hw,e0⟩,_⟩:=c1
       have c2:=dC h hl hx2 hv2 (fun _=>0) (fun _=>rfl)
       have hd:u≠.dead:=by rintro rfl;simp[cellsOf,dQ,takeC] at ht
       have hg:∀ s,u≠.gone s:=by rintro s rfl;simp[cellsOf,dQ,takeC] at ht
       have htup:∀ sh cs,u≠.tup sh cs:=A7 hv2 (by rintro sh cs rfl;cases xv<;>simp[okX] at hx2;rename_i u;cases u<;>simp[yE] at hx2)
       have hcu:=jA hd hg c2
       rw[←Bf c2 hd hg htup] at hcu
       have hvl:=dm hcu
       obtain⟨f1,f2,hcs,he1,hf,_⟩:=ji h hi.sep hcu (fun _=>rfl) ht
       have hhr:=nK ht hcs
       have hone:=qI ht hcs
       have hcl:=dm hcs
       -- the slots,references struck where need be
       obtain⟨f2',he2,hf2,hkill⟩:∃ f2',CR P w Φ σ ρ ek ρ f2'∧(∀ b,f2' b≤f2 b)∧(ach st=false→∀ v∈ek,hr v=false∨vS o0 sz v=true):=by
        cases st with
        | al=>obtain⟨f',k1,k2,k3⟩:=xE he1;simp[zY] at hek;subst hek;exact⟨f',k1,k2,fun _ v hv=>.inl (uz k3 v hv)⟩
        | sc=>simp[zY] at hek;subst hek;exact⟨f2,he1,fun b=>Nat.le_refl _,fun h=>by cases h⟩
        | kp k=>obtain⟨f',k1,k2,k3⟩:=Dj (o:=o0) (sz:=sz) he1;simp[zY] at hek;subst hek;exact⟨f',k1,k2,fun _=>k3⟩
       have hsep2:∀ b,f2' b≤1:=fun b=>by have:=hi.sep b;have:=hf b;have:=hf2 b;omega
       obtain⟨b,tb,arr,g1,g2,uu,huu,hw2,hheap,hrowcr,hrr,hff,hb2,hup⟩:=Ii he2 hsep2 hrow hp
       rw[hw] at hw2
       obtain⟨rfl,rfl⟩:b0=b∧row0=arr.toList:=by simpa using hw2
       have hbf:∀ x,f x≤1:=hi.sep
       have hb0f:1≤f b0:=by have:=hf b0;have:=hf2 b0;have:=hff b0;omega
       have hrlen:row.length≤arr.size:=by have:=dm hrowcr;simp at this;omega
       let vs:=(a.eval xv).cells.toList
       have hvs:vs.length=sz:=by show (a.eval xv).cells.toList.length=sz;omega
       let arr':Array Value:=(arr.toList.take o0++vs++arr.toList.drop (o0+vs.length)).toArray
       have harr':arr'.size=arr.size:=by simp[arr',hvs];omega
       let w':=w.setRow b0 arr'
       have hheap':w'.heap[b0]?=some (.cells arr' tb (0,0)):=setRow_heap w b0 arr arr' tb (0,0) hheap
       have hoth:∀ x,x≠b0→w'.heap[x]?=w.heap[x]?:=fun x hx=>setRow_other w b0 x arr' hx
       refine⟨w',?_,⟨⟨rfl,rfl,rfl,by simp[w',World.setRow],fun x _ hx0=>hoth x (by rintro rfl;omega)⟩,fun _=>0,?_⟩,rfl⟩
       ·have hs:(storeCells ⟨b0,o0,none⟩ vs 0).run P w=.ok () w':=by
         have:=run_storeCells_at P b0 o0 tb vs 0 arr w hheap (by show o0+0+vs.length≤arr.size;omega) hone
         exact this
        have hsize:(a.eval xv).cells.size=inf.size:=by rw[hsz,←Array.length_toList];exact hvs
        simp only[execOp,ho,e0,Instr.storeAt,Instr.sureAddr,storeVar]
        simp only[pure_bind,Sem.run_bind,show (sizeOf t).run P w=.ok inf.size w by simp[sizeOf,typeInfo,hinf],Result.andThen_ok,hsize]
        simp only[ne_eq,not_true_eq_false,if_false]
        simp only[vs] at hs
        simp[hs]
       ·-- the relation
        have hΦ:∀ x,Φ x→w'.heap[x]?=w.heap[x]?:=fun x hx=>hoth x (by rintro rfl;have:=hi.apart x hx;omega)
        obtain⟨k1,k2,hr1,hr2,hk⟩:=dM o0 hrowcr
        obtain⟨n1,n2,hn1,hn2,hn⟩:=dM sz hr2
        rw[List.drop_drop,List.drop_drop] at hn2
        have hnb:∀ x,x=b0→f1 x=0∧k1 x=0∧n2 x=0:=by
         rintro x rfl
         have:=hf x;have:=hf2 x;have:=hff x;have:=hk x;have:=hn x;have:=hbf x
         omega
        have st1:=iC w' Φ ρ hΦ (fun _ h=>h) _ _ _ (by rw[←List.take_append_drop o0 row,ah,Bool.or_eq_false_iff] at hrr;exact hrr.1) (fun x h1=>hoth x (fun e=>by have:=hnb x e;omega)) hr1
        have st2:=iC w' Φ ρ hΦ (fun _ h=>h) _ _ _ hhr (fun x h1=>hoth x (fun e=>by have:=hnb x e;omega)) hcs
        have st3:=iC w' Φ ρ hΦ (fun _ h=>h) _ _ _ (by rw[←List.take_append_drop (o0+sz) row,ah,Bool.or_eq_false_iff] at hrr;exact hrr.2) (fun x h1=>hoth x (fun e=>by have:=hnb x e;omega)) hn2
        have hnew:CR P w' Φ σ ρ (splice row o0 cs) (arr'.toList.take row.length) (fun x=>k1 x+f1 x+n2 x):=by
         have:=iJ (iJ st1 st2) st3
         have e1:splice row o0 cs=row.take o0++cs++row.drop (o0+sz):=by simp only[splice];rw[hcl];show row.take o0++cs++row.drop (o0+vs.length)=_;rw[hvs]
         rw[e1]
         refine Eq.mp (congrArg (fun L=>CR P w' Φ σ ρ _ L _) ?_) this
         have ht1:(arr.toList.take row.length).take o0=arr.toList.take o0:=by rw[List.take_take];congr 1;omega
         have ht2:(arr.toList.take row.length).drop (o0+sz)=(arr.toList.drop (o0+sz)).take (row.length-(o0+sz)):=by rw[List.drop_take]
         rw[ht1,ht2]
         have:=GX (A:=arr.toList) (V:=vs) (o:=o0) (n:=row.length) (by omega) (by simpa using hrlen)
         rw[hvs] at this
         have e2:arr'.toList=arr.toList.take o0++vs++arr.toList.drop (o0+sz):=by simp only[arr',hvs]
         rw[e2];exact this.symm
        have hrow':hrs (splice row o0 cs)=false:=by
         simp only[splice,ah,Bool.or_eq_false_iff]
         have h1:=hrr
         rw[←List.take_append_drop o0 row,ah,Bool.or_eq_false_iff] at h1
         have h2:=hrr
         rw[←List.take_append_drop (o0+cs.length) row,ah,Bool.or_eq_false_iff] at h2
         exact⟨⟨h1.1,hhr⟩,h2.2⟩
        have hroot2:hrs (cellsOf uu)=false:=by
         obtain⟨cv,q1,q2,_,hq,_⟩:=dO r he2 huu
         have h0:iQ uu=false:=by simpa [II,huu] using hroot
         have:=kP hq h0
         cases uu<;>simp_all[cellsOf,hr,hrs]
        have hall:∀ (v:AV) cv g,v∈ek→(∀ x,1≤g x→w'.heap[x]?=w.heap[x]?)→VR P w Φ σ ρ v cv g→VR P w' Φ σ ρ v cv g:=by
         intro v cv g hv hgx hvr
         have hout:∀ (i:Nat) v,arr[i]?=some v→(i<o0∨o0+sz≤i)→arr'[i]?=some v:=by
          intro i v hi0 hio
          have hlt:=(Array.getElem?_eq_some_iff.1 hi0).1
          simp only[arr',List.getElem?_toArray]
          rcases hio with h1|h2
          ·rw[List.append_assoc,List.getElem?_append_left (by simp;omega),List.getElem?_take,if_pos h1]
           simpa using hi0
          ·rw[List.getElem?_append_right (by simp[hvs];omega),List.getElem?_drop]
           rw[←hi0,←Array.getElem?_toList]
           congr 1
           simp[hvs];omega
         cases hstc:ach st with
         | false =>
          rcases hkill hstc v hv with h0|h0
          ·exact uM w' Φ ρ hΦ (fun _ h=>h) v cv g h0 hgx hvr
          ·exact NU hheap hheap' hoth hout h0 hvr
         | true =>
          obtain⟨hsc1,hsc2⟩:=hsc hstc
          have hws:∀ (i:Nat) v,arr[i]?=some v→uG v=false→arr'[i]?=some v:=by
           intro i v hi0 hvs0
           have hmid:=uK hn1 (by simpa using hsc2)
           by_cases h1:i<o0∨o0+sz≤i
           ·exact hout i v hi0 h1
           ·exfalso
            have hmem:v∈((arr.toList.take row.length).drop o0).take sz:=by
             rw[List.mem_iff_getElem?]
             refine⟨i-o0,?_⟩
             rw[List.getElem?_take,if_pos (by omega),List.getElem?_drop,List.getElem?_take,if_pos (by omega)]
             rw[show o0+(i-o0)=i by omega];simpa using hi0
            have:=hmid v hmem
            rw[hvs0] at this;cases this
          have hwk:∀ r p bo row,walk w none (rowOf ρ r) p=some (bo,row)→∃ row',walk w' none (rowOf ρ r) p=some (bo,row')∧(∀ (i:Nat) v,row[i]?=some v→uG v=false→row'[i]?=some v) :=
           fun r p bo row hw=>rU hheap hheap' hoth hws p none (rowOf ρ r) (rowOf ρ r) bo row (fun i v h _=>h) hw
          refine BP w' Φ ρ hΦ (fun _ h=>h) ?_ ?_ ?_ v cv g hgx hvr
          ·intro r p o cv f hh
           simp only[VR] at hh ⊢
           obtain⟨⟨bo,row,a,n,c,hw,hv1,rfl⟩,hz⟩:=hh
           obtain⟨row',q1,q2⟩:=hwk _ _ _ _ hw
           exact⟨⟨bo,row',a,n,c,q1,q2 _ _ hv1 rfl,rfl⟩,hz⟩
          ·intro r p o cv f hh
           simp only[VR] at hh ⊢
           obtain⟨⟨b0,row,hw,hv1⟩,hz⟩:=hh
           obtain⟨row',q1,q2⟩:=hwk _ _ _ _ hw
           exact⟨⟨b0,row',q1,hv1⟩,hz⟩
          ·intro r p o cv f hh
           simp only[VR] at hh ⊢
           obtain⟨⟨bo,row,g,fs,cs,hw,hv1,rfl⟩,hz⟩:=hh
           obtain⟨row',q1,q2⟩:=hwk _ _ _ _ hw
           exact⟨⟨bo,row',g,fs,cs,q1,q2 _ _ hv1 rfl,rfl⟩,hz⟩
        have hfin:=hup w' Φ (splice row o0 cs) arr' _ hroot2 hheap' harr' (fun x hx _=>hoth x hx) hΦ (fun _ h=>h) (zh (by rw[hcl];show o0+vs.length≤_;omega)) hrow' hnew hall
        refine⟨_,by unfold VR;exact fun _=>rfl,hfin,fun x=>?_,fun x hx=>?_⟩
        ·show 0+(k1 x+f1 x+n2 x+g2 x)≤1
         have:=hf x;have:=hf2 x;have:=hff x;have:=hk x;have:=hn x;have:=hbf x
         omega
        ·have hx':1≤0+(k1 x+f1 x+n2 x+g2 x):=hx
         have h1:1≤f x:=by
          have:=hf x;have:=hf2 x;have:=hff x;have:=hk x;have:=hn x
          omega
         exact⟨.inl h1,by have:=hi.lt x h1;simpa [w',World.setRow] using this⟩
      ·cases hx
     ·cases hx
    ·cases hx
   ·cases hx
  ·cases hx
 ·cases hok
theorem Je {sz:Nat} {st:Sm} {y z:Opd} {v:AV} {e':Env} (hok:gz P ν o.op (.store sz st y z)=true) (hx:opx e (.store sz st y z)=some (v,e')) :
  ∃ w',(execOp a.eval o).run P w=.ok .skip w'∧kH P w w' Φ σ ρ f v unk e'∧v=.dead:=by
 simp only[opx] at hx
 cases hp:Jj e st with
 | none=>simp[hp] at hx
 | some e0 =>
  simp only[hp] at hx
  obtain⟨f0,h0,hf0⟩:=NC h hi.sep hp
  cases hsx:Td e0 sz st y z with
  | none=>simp[hsx] at hx
  | some r =>
  obtain⟨v1,e1⟩:=r
  simp only[hsx,Option.some.injEq,Prod.mk.injEq] at hx
  obtain⟨rfl,rfl⟩:=hx
  obtain⟨w',h1,h2,h3⟩:=Nq h0 hl ⟨fun b=>Nat.le_trans (hf0 b) (hi.sep b),fun b hb=>hi.lt b (Nat.le_trans hb (hf0 b)),hi.fz,fun b hb=>by have:=hi.apart b hb;have:=hf0 b;omega,hi.tab⟩ hok hsx
  obtain⟨g1,g2,k1,k2,k3,k4⟩:=h2.rel
  have k2':CR P w' Φ σ ρ (abp st e0 e1) ρ g2:=by
   cases st<;>simp only[abp]<;>first|exact k2|exact uP h0 k2
  refine⟨w',h1,⟨⟨h2.ext.os,h2.ext.tape,h2.ext.output,h2.ext.size,fun b hb hz=>h2.ext.block b hb (by have:=hf0 b;omega)⟩,g1,g2,k1,k2',k3,fun b hb=>?_⟩,h3⟩
  obtain⟨q1,q2⟩:=k4 b hb
  exact⟨q1.imp (fun h=>Nat.le_trans h (hf0 b)) id,q2⟩
omit h hl hi in
theorem aa0 (t ty el:TypeId) (i:TypeInfo) (z:Value) (size:Nat) (ht:P.underlying t=some (.slice el)) (hinf:P.info? el=some i) (hz:i.zero=some z)
  (hsize:i.size=size) (hzs:z.cells.size=size) (hsz:0<size) (hby:i.bytes≤32768)
  (v:Value) (n:Nat) (xs:List Value) (hown:w.ownsRow 0 el size v n xs)
  (ao:Option Addr) (m c:Nat) (hao:ao=none→m=0∧c=0) (news:List Value) (hl1:news.length=m*size) (hnews:∀ ad,ao=some ad→∀ j u,news[j]?=some u→w.cell? (ad.add j)=some u) (h1:∀ u∈news,u.oneCell'=true)
  (hb:n+m≤bnd) :
  ∃ v' w',(Builtin.append_ #[t,t] ty #[v,.slice ao m c]).run P w=.ok v' w'∧w'.ownsRow 0 el size v' (n+m) (xs++news)∧w.grownBy w' v.ownBlock∧(v'.ownBlock=v.ownBlock∨v'.ownBlock=some w.heap.size):=by
 have hb':n+m≤4294967296:=hb
 have h63:n+m≤maxLen:=by simp only[maxLen];omega
 have hbytes:(n+m)*i.bytes≤140737488355328:=by
  have:=Nat.mul_le_mul hb' hby
  omega
 cases ao with
 | none =>
  obtain⟨rfl,rfl⟩:=hao rfl
  have hn0:news=[]:=List.eq_nil_of_length_eq_zero (by simpa using hl1)
  subst hn0
  have hr:=run_append_owned_none (P:=P) (w:=w) 0 t ty el i size ht hinf v n xs hown
  exact⟨v,w,hr,by simpa using hown,World.grownBy.refl _ _,.inl rfl⟩
 | some ad =>
  have hn:=hnews ad rfl
  obtain⟨v',w',hr,h2,h3,_⟩:=run_append_own (P:=P) w 0 t ty el i z size i.bytes ht hinf hz hsize rfl hzs hsz v n xs hown ad m c news hl1 hn h1 h63 hbytes (Nat.zero_le _)
  refine⟨v',w',hr,h2,h3,?_⟩
  rcases hown.2 with ⟨rfl,rfl⟩|⟨g,cap,cur,rfl,hbg,hg,hnc,hcm,hcs,htake⟩
  ·by_cases hm:m=0
   ·subst hm
    rcases h2.2 with ⟨rfl,_⟩|⟨g,cap,cur,rfl,_,hg,_⟩
    ·exact .inl rfl
    ·right
     have hk:=h3.block g
     by_cases hlt:g<w.heap.size
     ·exfalso
      have hn0:news=[]:=List.eq_nil_of_length_eq_zero (by simpa using hl1)
      subst hn0
      have:(Builtin.append_ #[t,t] ty #[.slice none 0 0,.slice (some ad) 0 c]).run P w=.ok (.slice none 0 0) w:=by
       simp[Builtin.append_,run_underlying ht,sizeOf,typeInfo,hinf,Builtin.lenOf,Builtin.firstCells,loadCells,loadCellsFrom]
      rw[this] at hr
      simp at hr
     ·exfalso
      have hn0:news=[]:=List.eq_nil_of_length_eq_zero (by simpa using hl1)
      subst hn0
      have:(Builtin.append_ #[t,t] ty #[.slice none 0 0,.slice (some ad) 0 c]).run P w=.ok (.slice none 0 0) w:=by
       simp[Builtin.append_,run_underlying ht,sizeOf,typeInfo,hinf,Builtin.lenOf,Builtin.firstCells,loadCells,loadCellsFrom]
      rw[this] at hr
      simp at hr
   ·have hr2:=run_append_nil (P:=P) (w:=w) t ty el i z ht hinf hz ad m c news (by rw[hsize];exact hl1) hn (by omega) (by omega) (by rw[Nat.zero_add] at hbytes;omega)
    rw[hr2] at hr
    cases hr
    exact .inr rfl
  ·by_cases hroom:n+m≤cap
   ·have hr2:=run_append_room (P:=P) (w:=w) t ty el i ht hinf g n cap cur hg ad m c news (by rw[hsize];exact hl1) hn h1 hroom (by rw[hsize,hl1,hcs,←Nat.add_mul];exact Nat.mul_le_mul_right _ hroom)
    rw[hr2] at hr
    cases hr
    exact .inl rfl
   ·have hr2:=run_append_grow (P:=P) (w:=w) t ty el i z ht hinf hz ⟨g,0,none⟩ n cap xs (by rw[hsize];exact hown.1) (hown.cells (g:=g) rfl) ad m c news (by rw[hsize];exact hl1) hn (by omega) (by omega) (growslice_fits (by omega) hbytes)
    rw[hr2] at hr
    cases hr
    exact .inr rfl
omit h hl hi in
theorem adG {c:AV} {u:Value} {g:Cnt} (hz:gY c=true) (hv:VR P w Φ σ ρ c u g):u.oneCell'=true:=by
 cases c<;>simp[gY] at hz
 ·simp only[VR] at hv;rw[hv.1];rfl
 ·simp only[VR] at hv;rw[hv.1];rfl
 ·simp only[VR] at hv;rw[hv.1];rfl
 ·simp only[VR] at hv;obtain⟨vs,rfl,_⟩:=hv;rfl
 ·simp only[VR] at hv;rw[hv.1];rfl
 ·simp only[VR] at hv;rw[hv.1];rfl
 ·simp only[VR] at hv;obtain⟨⟨a,c,rfl,_⟩,_⟩:=hv;rfl
 ·simp only[VR] at hv;obtain⟨⟨a,c,rfl,_⟩,_⟩:=hv;rfl
 ·simp only[VR] at hv;obtain⟨⟨a,rfl,_⟩,_⟩:=hv;rfl
omit h hl hi in
theorem Rk:∀ {cs:List AV} {ad:Addr} {j:Nat},FC P w Φ σ ρ cs (some ad) j →
  ∃ us,CR P w Φ σ ρ cs us (fun _=>0)∧(∀ i u,us[i]?=some u→w.cell? (ad.add (j+i))=some u)∧(∀ u∈us,u.oneCell'=true)∧hrs cs=false
 | [],ad,j,_=>⟨[],CR_nil,fun i u h=>by simp at h,by simp,rfl⟩
 | c::cs,ad,j,h=>by
  simp only[FC] at h
  obtain⟨⟨ad',u,e,hp,hc,hz,hv⟩,h⟩:=h
  obtain rfl:=Option.some.inj e
  obtain⟨us,h1,h2,h3,h4⟩:=Rk h
  refine⟨u::us,by have:=CR_cons (hv (fun _=>0) (fun _=>rfl)) h1;simpa using this,fun i x hi=>?_,fun x hx=>?_,by simp only[hrs,Bool.or_eq_false_iff];exact⟨jY hz,h4⟩⟩
  ·cases i with
   | zero=>simp at hi;subst hi;exact hc
   | succ i=>simp at hi;have:=h2 i x hi;rwa [show j+1+i=j+(i+1) by omega] at this
  ·rcases List.mem_cons.1 hx with rfl|hx
   ·exact adG hz (hv (fun _=>0) (fun _=>rfl))
   ·exact h3 x hx
omit hl in
theorem KQ {xv:AV} {cv:Value} {m:Nat} {new:List AV} {e1:Env} {el sz:Nat} (hco:P.cellsOf el=sz) (hc:VR P w Φ σ ρ xv cv (fun _=>0)) (hx:uC e el sz xv=some (m,new,e1)) :
  ∃ (ao:Option Addr) (c:Nat) (news:List Value) (f1 f2:Cnt),cv=.slice ao m c∧(ao=none→m=0∧c=0)∧news.length=m*sz∧(∀ ad,ao=some ad→∀ j u,news[j]?=some u→w.cell? (ad.add j)=some u)∧(∀ u∈news,u.oneCell'=true) ∧
   CR P w Φ σ ρ new news f1∧CR P w Φ σ ρ e1 ρ f2∧(∀ b,f b=f1 b+f2 b)∧hrs new=false:=by
 cases xv<;>simp only[uC] at hx<;>try (cases hx;done)
 ·simp only[Option.some.injEq,Prod.mk.injEq] at hx
  obtain⟨rfl,rfl,rfl⟩:=hx
  simp only[VR] at hc
  obtain⟨⟨ao,c,rfl,_,hne⟩,_⟩:=hc
  refine⟨ao,c,([]:List Value),fun _=>0,f,rfl,fun h=>⟨rfl,hne h⟩,by simp,fun ad _ j u hj=>by simp at hj,by simp,CR_nil,h,fun b=>by simp,rfl⟩
 ·rename_i n cs
  split at hx
  ·rename_i hlen
   simp only[Option.some.injEq,Prod.mk.injEq] at hx
   obtain⟨rfl,rfl,rfl⟩:=hx
   simp only[VR] at hc
   obtain⟨⟨ao,c,rfl,hcap,hne,hfc⟩,_⟩:=hc
   cases ao with
   | none =>
    obtain⟨rfl,rfl⟩:=hne rfl
    have:cs=[]:=List.eq_nil_of_length_eq_zero (by simpa using hlen)
    subst this
    refine⟨none,0,([]:List Value),fun _=>0,f,rfl,fun _=>⟨rfl,rfl⟩,by simp,?_,by simp,CR_nil,h,fun b=>by simp,rfl⟩
    intro ad h1;cases h1
   | some ad =>
    obtain⟨us,h1,h2,h3,h4⟩:=Rk hfc
    refine⟨some ad,c,us,fun _=>0,f,rfl,hne,by rw[←dm h1,hlen],fun ad' e' j u hj=>?_,h3,h1,h,fun b=>by simp,h4⟩
    obtain rfl:=Option.some.inj e'
    have:=h2 j u hj
    rwa [Nat.zero_add] at this
  ·cases hx
 ·rename_i t n cs
  cases n with
  | succ n=>simp at hx
  | zero=>cases cs with
   | cons c cs=>simp at hx
   | nil =>
    simp at hx
    obtain⟨rfl,rfl,rfl⟩:=hx
    simp only[VR] at hc
    obtain⟨_,_,xs,f1,ho,hcr,hz⟩:=hc
    obtain⟨ao,c,rfl,hcap,hne,_⟩:=dF ho
    exact⟨ao,c,[],fun _=>0,f,rfl,hne,by simp,fun ad h j u hj=>by simp at hj,by simp,CR_nil,h,fun b=>by simp,rfl⟩
 ·rename_i r p o0
  split at hx
  ·rename_i row hrow
   split at hx
   ·rename_i t n cs hro
    split at hx
    ·rename_i hte
     subst hte
     split at hx
     ·rename_i cs' e' ht
      simp only[Option.some.injEq,Prod.mk.injEq] at hx
      obtain⟨rfl,rfl,rfl⟩:=hx
      simp only[VR] at hc
      obtain⟨⟨bo,row0,ao,n0,c0,hw,hv0,rfl⟩,_⟩:=hc
      obtain⟨bo',cvs,f1,f2,hw',hcr,hf,_,_⟩:=gI h hi.sep hrow
      have hw2:=hw
      rw[hw] at hw'
      obtain⟨rfl,rfl⟩:bo=bo'∧row0=cvs:=by simpa using hw'
      obtain⟨cv,g1,g2,hcv,hvr,hff,_⟩:=dO o0 hcr hro
      obtain⟨hcv0,_⟩:=dS hcv
      rw[hv0] at hcv0
      obtain rfl:=Option.some.inj hcv0
      simp only[VR] at hvr
      obtain⟨_,_,xs,f1',ho1,hxs,_⟩:=hvr
      have hlz:CR P w Φ σ ρ (lzc r (p++[o0]) 0 cs) xs (fun _=>0):=by
       rcases ho1.2 with ⟨e2,rfl⟩|⟨b,cap,cur,e2,h0,hg,hn,hm,hs,htk⟩
       ·have:xs=[]:=List.eq_nil_of_length_eq_zero (by simpa using ho1.1)
        subst this
        have:cs=[]:=List.eq_nil_of_length_eq_zero (dm hxs)
        subst this
        exact CR_nil
       ·cases e2
        exact ru (pG _ _ _ _ _ _ _ _ _ hw2 hv0 rfl (by simp[jQ,hg];rfl)) cs 0 xs f1' (fun _=>0) hxs (fun i v hi=>by
         rw[←htk,List.getElem?_take] at hi
         split at hi
         ·simpa using hi
         ·cases hi) (fun _=>rfl)
      obtain⟨k1,k2,hcs',he',hk,_⟩:=ji h hi.sep hlz (fun _=>rfl) ht
      obtain⟨a2,c2,e2,hcap,hne,hcells⟩:=dF ho1
      cases e2
      refine⟨ao,c0,xs,k1,k2,rfl,hne,by rw[←hco];exact ho1.1,fun ad e2 j u hj=>?_,qI ht hcs',hcs',he',hk,nK ht hcs'⟩
      obtain⟨ad',e3,_,e4⟩:=hcells j u hj
      rw[e2] at e3
      obtain rfl:=Option.some.inj e3
      exact e4
     ·cases hx
    ·cases hx
   ·cases hx
  ·cases hx
 ·rename_i r p o0 lo m1 z1
  split at hx
  ·rename_i row hrow
   split at hx
   ·rename_i s0 t n cs hro
    split at hx
    ·rename_i hcond
     obtain⟨hte,rfl,hcl,hlm⟩:=hcond
     subst hte
     split at hx
     ·rename_i cs' e' ht
      simp only[Option.some.injEq,Prod.mk.injEq] at hx
      obtain⟨rfl,rfl,rfl⟩:=hx
      obtain⟨ao,n0,c0,hps,hlm0,rfl⟩:=VR_pw.1 hc
      simp only[VR] at hps
      obtain⟨⟨bo,row0,_,_,_,hw,hv0,e0⟩,_⟩:=hps
      cases e0
      obtain⟨bo',cvs,f1,f2,hw',hcr,hf,_,_⟩:=gI h hi.sep hrow
      have hw2:=hw
      rw[hw] at hw'
      obtain⟨rfl,rfl⟩:bo=bo'∧row0=cvs:=by simpa using hw'
      obtain⟨cv,g1,g2,hcv,hvr,hff,_⟩:=dO o0 hcr hro
      obtain⟨hcv0,_⟩:=dS hcv
      rw[hv0] at hcv0
      obtain rfl:=Option.some.inj hcv0
      simp only[VR] at hvr
      obtain⟨_,_,xs,f1',ho1,hxs,_⟩:=hvr
      have hxl:=dm hxs
      obtain⟨_,q2,_,hxs2,_⟩:=dM (lo*z1) hxs
      obtain⟨q3,_,hxs3,_,_⟩:=dM (m1*z1) hxs2
      have hlz:CR P w Φ σ ρ (lzc r (p++[o0]) (lo*z1) ((cs.drop (lo*z1)).take (m1*z1))) ((xs.drop (lo*z1)).take (m1*z1)) (fun _=>0):=by
       rcases ho1.2 with ⟨e2,rfl⟩|⟨b,cap,cur,e2,h0,hg,hn,hm,hs,htk⟩
       ·have:xs=[]:=List.eq_nil_of_length_eq_zero (by simpa using ho1.1)
        subst this
        have:cs=[]:=List.eq_nil_of_length_eq_zero (dm hxs)
        subst this
        simpa only[List.drop_nil,List.take_nil,lzc] using CR_nil
       ·cases e2
        exact ru (pG _ _ _ _ _ _ _ _ _ hw2 hv0 rfl (by simp[jQ,hg];rfl)) _ _ _ q3 (fun _=>0) hxs3 (fun i v hi=>by
         rw[List.getElem?_take] at hi
         split at hi
         ·rw[List.getElem?_drop,←htk,List.getElem?_take] at hi
          split at hi
          ·simpa using hi
          ·cases hi
         ·cases hi) (fun _=>rfl)
      obtain⟨k1,k2,hcs',he',hk,_⟩:=ji h hi.sep hlz (fun _=>rfl) ht
      obtain⟨a2,c2,e2,hcap,hne,hcells⟩:=dF ho1
      cases e2
      refine⟨_,_,(xs.drop (lo*z1)).take (m1*z1),k1,k2,rfl,fun hn=>?_,?_,fun ad e2 j u hj=>?_,qI ht hcs',hcs',he',hk,nK ht hcs'⟩
      ·split at hn
       ·have:=hne hn;omega
       ·cases ao with
        | none=>have:=hne rfl;omega
        | some ad=>simp at hn
      ·rw[List.length_take,List.length_drop,←hxl,hcl,←Nat.sub_mul]
       exact Nat.min_eq_left (Nat.mul_le_mul_right _ (by omega))
      ·rw[List.getElem?_take] at hj
       split at hj
       ·rename_i hjm
        rw[List.getElem?_drop] at hj
        obtain⟨ad',e3,_,e4⟩:=hcells _ u hj
        split at e2
        ·have:m1=0:=by omega
         subst this
         simp at hjm
        ·rw[e3] at e2
         simp at e2
         subst e2
         rw[add_add];exact e4
       ·cases hj
     ·cases hx
    ·cases hx
   ·cases hx
  ·cases hx
omit h hl hi in
theorem NF {b:Nat} {e:TypeId} {sz:Nat} {ao:Option Addr} {n m c:Nat} {xs:List Value} (ho:w.ownsRow b e sz (.slice ao n c) n xs) (hm:m≤n):w.ownsRow b e sz (.slice ao m c) m (xs.take (m*sz)):=by
 obtain⟨h1,h2⟩:=ho
 have hms:m*sz≤n*sz:=Nat.mul_le_mul_right _ hm
 refine⟨by rw[List.length_take];omega,?_⟩
 rcases h2 with ⟨h2,rfl⟩|⟨g,cap,cur,h2,h3,h4,h5,h6,h7,h8⟩
 ·obtain rfl:m=0:=by omega
  cases h2
  exact .inl ⟨rfl,rfl⟩
 ·cases h2
  refine .inr ⟨g,_,cur,rfl,h3,h4,by omega,h6,h7,?_⟩
  rw[←h8,List.take_take,Nat.min_eq_left hms]
theorem abo {sz:Nat} {y z:Opd} {v:AV} {e':Env} (hok:gz P ν o.op (.cut sz y z)=true) (hx:opx e (.cut sz y z)=some (v,e')) :
  ∃ cv w',(execOp a.eval o).run P w=.ok (.value cv) w'∧kH P w w' Φ σ ρ f v cv e':=by
 simp only[opx,Ut] at hx
 simp only[gz] at hok
 split at hok
 ·rename_i t x1 x2 ho
  simp only[Bool.and_eq_true] at hok
  obtain⟨⟨hx1,hx2⟩,hu⟩:=hok
  split at hx
  ·rename_i xv k m hv1 hv2
   split at hx
   ·rename_i s t' n cs e2 htk
    split at hx
    ·rename_i hcond
     obtain⟨hm0,hmn,hlen⟩:=hcond
     simp only[Option.some.injEq,Prod.mk.injEq] at hx
     obtain⟨rfl,rfl⟩:=hx
     have c1:=dC h hl hx1 hv1 (fun _=>0) (fun _=>rfl)
     have c2:=jm (dC h hl hx2 hv2 (fun _=>0) (fun _=>rfl))
     obtain⟨k1,k2,hbase,he2,hk,_⟩:=lK h hi.sep c1 htk
     have hk':∀ b,f b=k1 b+k2 b:=fun b=>by simpa using hk b
     simp only[VR] at hbase
     obtain⟨_,hhc,xs,q1,hown,hxs,hq⟩:=hbase
     obtain⟨ao,cap,e3,hcap,hne,_⟩:=dF hown
     split at hu
     ·rename_i el hu'
      simp only[mi,beq_iff_eq,Option.map_eq_some_iff] at hu
      obtain⟨inf,hinf,rfl⟩:=hu
      have hr:=qL (P:=P) (w:=w) (a:=a) true (lo:=none) (l:=0) (.inl ⟨rfl,rfl⟩) (.inr ⟨k,x2,rfl,c2⟩) (Int.le_refl 0) hm0 hmn hcap
      rw[e3] at hown
      have hmn':m.toNat≤n:=by omega
      have hcut:=NF hown hmn'
      obtain⟨q2,q3,t1,t2,hq23⟩:=dM (m.toNat*P.cellsOf t') hxs
      have hcs:cs.take (m.toNat*inf.size)=cs.take (m.toNat*P.cellsOf t'):=by
       by_cases hn0:n=0
       ·have:m.toNat=0:=by omega
        rw[this,Nat.zero_mul,Nat.zero_mul]
       ·have e5:cs.length=n*P.cellsOf t':=by rw[dm hxs];exact hown.1
        have:n*inf.size=n*P.cellsOf t':=by omega
        rw[Nat.eq_of_mul_eq_mul_left (by omega) this]
      have how:jF (.slice ao m.toNat cap)=jF (a.eval x1):=by rw[e3];funext b;simp only[jF,Value.ownBlock];cases ao<;>rfl
      have hhc2:hrs (cs.take (m.toNat*P.cellsOf t'))=false:=by
       rw[←List.take_append_drop (m.toNat*P.cellsOf t') cs,ah,Bool.or_eq_false_iff] at hhc
       exact hhc.1
      refine⟨.slice ao m.toNat cap,w,?_,⟨Ext.refl _ _,fun b=>jF (a.eval x1) b+q2 b,k2,?_,he2,fun b=>?_,fun b hb=>?_⟩⟩
      ·simp only[Option.map_none,Option.map_some] at hr
       have hao:ao.map (fun x=>x.add 0)=ao:=by cases ao<;>simp[Addr.add]
       simp[execOp,ho,e3,Instr.sliceAt,run_underlying hu',Instr.slice,hr,sizeOf,typeInfo,hinf,hao]
      ·simp only[VR]
       refine⟨fun h=>absurd rfl h,by rw[hcs];exact hhc2,_,q2,hcut,by rw[hcs];exact t1,fun b=>by rw[how]⟩
      ·have:=hi.sep b;have:=hk' b;have:=hq b;have:=hq23 b
       show jF (a.eval x1) b+q2 b+k2 b≤1
       omega
      ·have h1:1≤jF (a.eval x1) b+q2 b+k2 b:=hb
       have:=hk' b;have:=hq b;have:=hq23 b
       have h2:1≤f b:=by omega
       exact⟨.inl h2,hi.lt b h2⟩
     ·cases hu
    ·cases hx
   ·cases hx
  ·cases hx
 ·cases hok
theorem FK {el sz:Nat} {y z:Opd} {v:AV} {e':Env} (hok:gz P ν o.op (.append el sz y z)=true) (hx:opx e (.append el sz y z)=some (v,e')) :
  ∃ cv w',(execOp a.eval o).run P w=.ok (.value cv) w'∧kH P w w' Φ σ ρ f v cv e':=by
 simp only[opx] at hx
 simp only[gz] at hok
 split at hok
 ·rename_i c ho
  split at hok
  ·rename_i x1 x2 t t' hcal hargs htys
   simp only[Bool.and_eq_true,beq_iff_eq] at hok
   obtain⟨⟨⟨⟨hx1,hx2⟩,hel⟩,hok2⟩,rfl⟩:=hok
   have hu:=vC hel
   obtain⟨inf,zv,hinf,hs,hs0,hby,hzz,hzs,hco⟩:=qA hok2
   have ha:c.args.map a.eval=#[a.eval x1,a.eval x2]:=by
    have:c.args=#[x1,x2]:=by rw[←Array.toArray_toList (xs:=c.args),hargs]
    rw[this];simp
   have hty:c.argTypes=#[t,t]:=by rw[←Array.toArray_toList (xs:=c.argTypes),htys]
   split at hx
   rotate_left
   ·cases hx
   rename_i v0 ev0 hap
   simp only[Option.some.injEq,Prod.mk.injEq] at hx
   obtain⟨rfl,rfl⟩:=hx
   simp only[Es] at hap
   have hx:=hap;clear hap
   split at hx
   ·rename_i sv xv hv1 hv2
    split at hx
    ·rename_i m new e1 hel1
     split at hx
     ·rename_i t' n cs e2 htk
      split at hx
      ·rename_i hcond
       obtain⟨rfl,hb⟩:=hcond
       simp only[Option.some.injEq,Prod.mk.injEq] at hx
       obtain⟨rfl,rfl⟩:=hx
       have c1:=dC h hl hx1 hv1 (fun _=>0) (fun _=>rfl)
       have c2:=dC h hl hx2 hv2 (fun _=>0) (fun _=>rfl)
       obtain⟨ao,cc,news,f1,f2,e0,hne,hnl,hncell,hone,hnew,he1,hf,hhr⟩:=KQ h hi hco c2 hel1
       have hsep1:∀ b,f2 b≤1:=fun b=>by have:=hi.sep b;have:=hf b;omega
       obtain⟨k1,k2,hbase,he2,hk,_⟩:=lK he1 hsep1 c1 htk
       have hk':∀ b,f2 b=k1 b+k2 b:=fun b=>by simpa using hk b
       simp only[VR] at hbase
       obtain⟨_,hhc,xs,q1,hown,hxs,hq⟩:=hbase
       rw[hco] at hown
       obtain⟨v',w',hr,hown',hgr,hblk⟩:=aa0 (P:=P) t o.type t' inf zv sz hu hinf hzz hs hzs hs0 hby (a.eval x1) n xs hown ao m cc hne news hnl hncell hone hb
       have hbl:∀ b,b<w.heap.size→jF (a.eval x1) b=0→w'.heap[b]?=w.heap[b]?:=fun b hb h0=>hgr.block b hb (by
        intro e;simp[jF,←e] at h0)
       have hΦ:∀ x,Φ x→w'.heap[x]?=w.heap[x]?:=fun x hx=>hbl x (hi.fz x hx) (by have:=hi.apart x hx;have:=hf x;have:=hk' x;have:=hq x;omega)
       have keep:∀ {g:Cnt},(∀ b,g b+jF (a.eval x1) b≤1)→(∀ b,1≤g b→1≤f b)→∀ b,1≤g b→w'.heap[b]?=w.heap[b]?:=fun h1 h2 b hb=>hbl b (hi.lt b (h2 b hb)) (by have:=h1 b;omega)
       have hk2all:∀ b,1≤k2 b→w'.heap[b]?=w.heap[b]?:=keep (fun b=>by have:=hi.sep b;have:=hf b;have:=hk' b;have:=hq b;omega) (fun b hb=>by have:=hf b;have:=hk' b;omega)
       obtain⟨k2',s3,hk2⟩:=zZ he2 hk2all hΦ he2 hk2all
       refine⟨v',w',?_,⟨⟨hgr.os,hgr.tape,hgr.output,hgr.size,fun b hb0 h0=>hbl b hb0 (by have:=hf b;have:=hk' b;have:=hq b;omega)⟩,?_⟩⟩
       ·simp[execOp,ho,resolve,hcal,ha,hty,invoke,builtin,e0] at hr ⊢
        simp[hr]
       ·have s1:=iC w' Φ ρ hΦ (fun _ h=>h) _ _ _ hhc (keep (fun b=>by have:=hi.sep b;have:=hf b;have:=hk' b;have:=hq b;omega) (fun b hb=>by have:=hf b;have:=hk' b;have:=hq b;omega)) hxs
        have s2:=iC w' Φ ρ hΦ (fun _ h=>h) _ _ _ hhr (keep (fun b=>by have:=hi.sep b;have:=hf b;have:=hk' b;have:=hq b;omega) (fun b hb=>by have:=hf b;omega)) hnew
        refine⟨fun b=>jF v' b+(q1 b+f1 b),k2',?_,s3,fun b=>?_,fun b hb1=>?_⟩
        ·simp only[VR]
         refine⟨fun h=>absurd rfl h,by rw[ah,hhc,hhr];rfl,xs++news,_,by rw[hco];exact hown',iJ s1 s2,fun b=>rfl⟩
        ·show jF v' b+(q1 b+f1 b)+k2' b≤1
         have h1:=hi.sep b
         have h2:=hf b;have h3:=hk' b;have h4:=hq b;have h5:=hk2 b
         rcases hblk with e5|e5
         ·have:jF v' b=jF (a.eval x1) b:=by simp only[jF,e5]
          omega
         ·by_cases hbs:b=w.heap.size
          ·have:¬1≤f b:=fun h1=>by have:=hi.lt b h1;omega
           have:jF v' b≤1:=by simp only[jF];split<;>omega
           omega
          ·have:jF v' b=0:=by simp[jF,e5];omega
           omega
        ·have hb2:1≤jF v' b+(q1 b+f1 b)+k2' b:=hb1
         have h2:=hf b;have h3:=hk' b;have h4:=hq b;have h5:=hk2 b
         by_cases h0:jF v' b=0
         ·have h1:1≤f b:=by omega
          exact⟨.inl h1,by have:=hi.lt b h1;have:=hgr.size;omega⟩
         ·have e6:v'.ownBlock=some b:=by
           by_cases e6:v'.ownBlock=some b
           ·exact e6
           ·simp[jF,e6] at h0
          have hlt:=(hown'.lt b e6).2
          rcases hblk with e5|e5
          ·have:jF (a.eval x1) b=1:=by simp only[jF,←e5,e6,if_true]
           exact⟨.inl (by omega),hlt⟩
          ·rw[e6] at e5
           obtain rfl:=Option.some.inj e5
           exact⟨.inr (Nat.le_refl _),hlt⟩
      ·cases hx
     ·cases hx
    ·cases hx
   ·cases hx
  ·cases hok
 ·cases hok
theorem FM {w':World} {v:AV} {cv:Value} {e1:Env} (h1:kH P w w' Φ σ ρ f v cv e1):kH P w w' Φ σ ρ f v cv (oU e e1):=by
 obtain⟨g1,g2,k1,k2,k3,k4⟩:=h1.rel
 exact⟨h1.ext,g1,g2,k1,uP h k2,k3,k4⟩
theorem ado {el sz:Nat} {y z:Opd} {v:AV} {e':Env} (hok:gz P ν o.op (.appk el sz y z)=true) (hx:opx e (.appk el sz y z)=some (v,e')) :
  ∃ cv w',(execOp a.eval o).run P w=.ok (.value cv) w'∧kH P w w' Φ σ ρ f v cv e':=by
 simp only[opx] at hx
 cases ha:Es e el sz y z with
 | none=>simp[ha] at hx
 | some r =>
  obtain⟨v1,e1⟩:=r
  simp only[ha,Option.some.injEq,Prod.mk.injEq] at hx
  obtain⟨rfl,rfl⟩:=hx
  obtain⟨cv,w',h1,h2⟩:=FK h hl hi (el:=el) (sz:=sz) (y:=y) (z:=z) (by simpa only[gz] using hok) (v:=v1) (e':=BQ e1) (by simp only[opx,ha])
  exact⟨cv,w',h1,FM h hl hi h2⟩
theorem adm {sz:Nat} {y z:Opd} {v:AV} {e':Env} (hok:gz P ν o.op (.cutk sz y z)=true) (hx:opx e (.cutk sz y z)=some (v,e')) :
  ∃ cv w',(execOp a.eval o).run P w=.ok (.value cv) w'∧kH P w w' Φ σ ρ f v cv e':=by
 simp only[opx] at hx
 cases ha:Ut e sz y z with
 | none=>simp[ha] at hx
 | some r =>
  obtain⟨v1,e1⟩:=r
  simp only[ha,Option.some.injEq,Prod.mk.injEq] at hx
  obtain⟨rfl,rfl⟩:=hx
  obtain⟨cv,w',h1,h2⟩:=abo h hl hi (sz:=sz) (y:=y) (z:=z) (by simpa only[gz] using hok) (v:=v1) (e':=e1) (by simp only[opx,ha])
  exact⟨cv,w',h1,FM h hl hi h2⟩
end
end
end Go.AM
namespace Go.AM
open Go
section
variable {P : Program} {w : World} {Φ : Nat → Prop} {σ : Nat → Value} {ρ : List Value}
variable {e : Env} {f : Cnt} {ν : List Nat} {a : Act} {o : Oper}
theorem TJ (h:CR P w Φ σ ρ e ρ f) (hl:LK ν ρ e a.tmps) (hi:Inv P w Φ f) {s:SOp} {v:AV} {e':Env} (hok:gz P ν o.op s=true) (hx:opx e s=some (v,e')) :
  ∃ r cv w',(execOp a.eval o).run P w=.ok r w'∧(r=.value cv∨(r=.skip∧cv=unk∧v=.dead))∧kH P w w' Φ σ ρ f v cv e':=by
 have pure:(e'=e∧gp P w Φ σ ρ a o v)→∃ r cv w',(execOp a.eval o).run P w=.ok r w'∧(r=.value cv∨(r=.skip∧cv=unk∧v=.dead))∧kH P w w' Φ σ ρ f v cv e':=by
  rintro⟨rfl,cv,hy,hv⟩
  exact⟨_,cv,w,hy,.inl rfl,G8 h hl hi hv⟩
 have mem:(∃ cv w',(execOp a.eval o).run P w=.ok (.value cv) w'∧kH P w w' Φ σ ρ f v cv e')→∃ r cv w',(execOp a.eval o).run P w=.ok r w'∧(r=.value cv∨(r=.skip∧cv=unk∧v=.dead))∧kH P w w' Φ σ ρ f v cv e':=by
  rintro⟨cv,w',h1,h2⟩
  exact⟨_,cv,w',h1,.inl rfl,h2⟩
 cases s with
 | mv x=>exact pure (aJb h hl hok hx)
 | asg x=>exact mem (auP h hl hi hok hx)
 | pick c x y=>exact pure (adw h hl hok hx)
 | mk t z=>exact mem (aG2 h hl hi hok hx)
 | box t sz x=>exact mem (auO h hl hi hok hx)
 | build z ps=>exact pure (Jm h hl hok hx)
 | bsl t n z ps=>exact mem (auN h hl hi hok hx)
 | bldt z ps=>exact mem (adn h hl hi hok hx)
 | load sz ag x=>exact pure (adx h hl hok hi.sep hx)
 | store sz st x y =>
  obtain⟨w',h1,h2,h3⟩:=Je h hl hi hok hx
  exact⟨_,unk,w',h1,.inr ⟨rfl,rfl,h3⟩,h2⟩
 | bin op x y=>exact pure (abB h hl hok hx)
 | beq ne x y=>exact pure (au0 h hl hok hx)
 | not x=>exact pure (auR h hl hok hx)
 | neg x=>exact pure (auS h hl hok hx)
 | conv k x=>exact pure (ady h hl hok hx)
 | mkf g ys=>exact pure (auV h hl hok hx)
 | mksl t z l c=>exact mem (adl h hl hi hok hx)
 | slice st sz x lo hi'=>exact pure (TC h hl hok hi.sep hx)
 | faddr off x=>exact pure (TG h hl hok hx)
 | iaddr sz x i=>exact pure (TF h hl hok hi.sep hx)
 | idx x i=>exact pure (auX h hl hok hx)
 | len st x=>exact pure (auW h hl hok hi.sep hx)
 | minmax mx x y=>exact pure (NE h hl hok hx)
 | append t sz x y=>exact mem (FK h hl hi hok hx)
 | appk t sz x y=>exact mem (ado h hl hi hok hx)
 | cutk sz x y=>exact mem (adm h hl hi hok hx)
 | ext j ix=>exact pure (auZ h hl hok hx)
 | mvt j=>exact pure (auU h hl hok hx)
 | aidx sz ag n x i=>exact pure (adz h hl hok hx)
 | cut sz x hi'=>exact mem (abo h hl hi hok hx)
 | sbeq ne ks x y=>exact pure (adu h hl hok hx)
 | nck x=>exact pure (auT h hl hok hx)
 | fld off sz ag x=>exact pure (auY h hl hok hx)
 | isnil ne x=>exact pure (TD h hl hok hi.sep hx)
 | pnil ne x=>exact pure (adv h hl hok hx)
 | b2s x=>exact pure (au1 h hl hok hi.sep hx)
def Says (P:Program) (g:Nat) (args:List AV) (res:AV) (outs:List (Nat × AV)):Prop :=
 ∀ (w:World) (Φ:Nat→Prop) (σ:Nat→Value) (cargs:Array Value) (fa:Cnt),CR P w Φ σ [] args cargs.toList fa→hrs args=false→Inv P w Φ fa →
  Calls P g cargs w fun en w'=>∃ (cv:Value) (Φ':Nat→Prop) (f1 f2:Cnt),en=.returned cv∧Ext w w' fa∧(∀ b,Φ b→Φ' b)∧(∀ b,Φ' b→Φ b∨1≤fa b∨w.heap.size≤b) ∧
   VR P w' Φ' σ [] res cv f1∧hr res=false∧CR P w' Φ' σ [] (outs.map (·.2)) (outs.map fun p=>σ p.1) f2∧hrs (outs.map (·.2))=false ∧
   Inv P w' Φ' (fun b=>f1 b+f2 b)∧(∀ b,1≤f1 b+f2 b→1≤fa b∨w.heap.size≤b)
def kR (P:Program) (g:Nat) (args:List AV) (res:AV) (outs:List (Nat × AV)):Prop :=
 ∀ (w:World) (Φ:Nat→Prop) (σ:Nat→Value) (cargs:Array Value) (fa:Cnt),CR P w Φ σ cargs.toList args cargs.toList fa→Inv P w Φ fa →
  Calls P g cargs w fun en w'=>∃ (cv:Value) (Φ':Nat→Prop) (f1 f2:Cnt),en=.returned cv∧Ext w w' fa∧(∀ b,Φ b→Φ' b)∧(∀ b,Φ' b→Φ b∨1≤fa b∨w.heap.size≤b) ∧
   VR P w' Φ' σ [] res cv f1∧hr res=false∧CR P w' Φ' σ [] (outs.map (·.2)) (outs.map fun p=>σ p.1) f2∧hrs (outs.map (·.2))=false ∧
   Inv P w' Φ' (fun b=>f1 b+f2 b)∧(∀ b,1≤f1 b+f2 b→1≤fa b∨w.heap.size≤b)
theorem ik {g:Nat} {args:List AV} {res:AV} {outs:List (Nat × AV)} (h:Says P g args res outs) (hr0:hrs args=false):kR P g args res outs:=fun w Φ σ cargs fa hc hi =>
 h w Φ σ cargs fa (iC w Φ [] (fun _ _=>rfl) (fun _ h=>h) _ _ _ hr0 (fun _ _=>rfl) hc) hr0 hi
theorem uH {g:Nat} {args:List AV} {res:AV} {outs:List (Nat × AV)} (h:kR P g args res outs):Says P g args res outs:=fun w Φ σ cargs fa hc hr0 hi =>
 h w Φ σ cargs fa (iC w Φ cargs.toList (fun _ _=>rfl) (fun _ h=>h) _ _ _ hr0 (fun _ _=>rfl) hc) hi
theorem lM {ρ:List Value} {d r:Nat} {x:Value} (h:r≠d):rowOf (ρ.set d x) r=rowOf ρ r:=by
 simp[rowOf,List.getElem?_set_ne (Ne.symm h)]
theorem J6 {ρ:List Value} {d:Nat} (h:ρ[d]?=some unk):rowOf ρ d=[unk]:=by
 simp[rowOf,h,gB]
theorem Gu {d:Nat} {x:Value} (hd:ρ[d]?=some unk) (v:AV) (cv:Value) (g:Cnt) (h:VR P w Φ σ ρ v cv g):VR P w Φ σ (ρ.set d x) v cv g:=by
 have hne:∀ {r p bo row},walk w none (rowOf ρ r) p=some (bo,row)→((∃ (o:Nat) (v:Value),row[o]?=some v∧v≠unk)∨∃ b,bo=some b)→r≠d:=by
  rintro r p bo row hw hor rfl
  rw[J6 hd] at hw
  cases p with
  | nil =>
   simp[walk] at hw;obtain⟨rfl,rfl⟩:=hw
   rcases hor with ⟨o,v,h1,h2⟩|⟨b,h⟩
   ·cases o with
    | zero=>simp at h1;exact h2 h1.symm
    | succ o=>simp at h1
   ·simp at h
  | cons o p =>
   simp only[walk] at hw
   cases o with
   | zero=>simp[hblk] at hw
   | succ o=>simp at hw
 refine BP w Φ (ρ.set d x) (fun _ _=>rfl) (fun _ h=>h) ?_ ?_ ?_ v cv g (fun _ _=>rfl) h
 ·intro r p o cv f h
  simp only[VR] at h ⊢
  obtain⟨⟨bo,row,a,n,c,hw,h1,h2⟩,hz⟩:=h
  have:=hne hw (.inl ⟨_,_,h1,by rw[h2];simp⟩)
  exact⟨⟨bo,row,a,n,c,by rw[lM this];exact hw,h1,h2⟩,hz⟩
 ·intro r p o cv f h
  simp only[VR] at h ⊢
  obtain⟨⟨b0,row,hw,h1⟩,hz⟩:=h
  have:=hne hw (.inr ⟨b0,rfl⟩)
  exact⟨⟨b0,row,by rw[lM this];exact hw,h1⟩,hz⟩
 ·intro r p o cv f h
  simp only[VR] at h ⊢
  obtain⟨⟨bo,row,g,fs,cs,hw,h1,h2⟩,hz⟩:=h
  have:=hne hw (.inl ⟨_,_,h1,by rw[h2];simp⟩)
  exact⟨⟨bo,row,g,fs,cs,by rw[lM this];exact hw,h1,h2⟩,hz⟩
theorem GK {d:Nat} {x:Value} (hd:ρ[d]?=some unk):∀ (cs:List AV) (vs:List Value) (g:Cnt),CR P w Φ σ ρ cs vs g→CR P w Φ σ (ρ.set d x) cs vs g
 | [],vs,g,h=>by simpa only[CR] using h
 | c::cs,vs,g,h=>by
  simp only[CR] at h ⊢
  obtain⟨v,vs',f1,f2,e,h1,h2,hb⟩:=h
  exact⟨v,vs',f1,f2,e,Gu hd _ _ _ h1,GK hd _ _ _ h2,hb⟩
theorem IY {cs:List AV} {vs:List Value} {f1 f2:Cnt} {i:Nat} {c:AV} {cv:Value} (h:CR P w Φ σ ρ cs vs f2) (hv:VR P w Φ σ ρ c cv f1) (hi:i<cs.length) :
  ∃ f',CR P w Φ σ ρ (cs.set i c) (vs.set i cv) f'∧∀ b,f' b≤f1 b+f2 b:=by
 obtain⟨v,g1,g2,hv1,hv2,hf,hset⟩:=dO i h (List.getElem?_eq_getElem hi)
 exact⟨_,hset c cv f1 hv,fun b=>by show f1 b+g2 b≤f1 b+f2 b;have:=hf b;omega⟩
end
end Go.AM
namespace Go.AM
open Go
section
variable {P : Program}
theorem JC {w:World} {Φ:Nat→Prop} {σ:Nat→Value} {ρ:List Value} (Φ':Nat→Prop) (hsub:∀ b,Φ b→Φ' b):∀ {cs cs':List AV} {vs:List Value} {f:Cnt} {ad:Addr} {j:Nat},jZ cs=some cs'→CR P w Φ σ ρ cs vs f→(∀ b,1≤f b→Φ' b) →
  (∀ i u,vs[i]?=some u→w.cell? (ad.add (j+i))=some u)→Φ' ad.block→FC P w Φ' σ ρ cs' (some ad) j
 | [],cs',vs,f,ad,j,hz,_,_,_,_=>by simp[jZ] at hz;subst hz;simp only[FC]
 | c::cs,cs',vs,f,ad,j,hz,hc,hf,hcell,hb=>by
  simp only[jZ] at hz
  cases h1:jI c with
  | none=>simp[h1] at hz
  | some c' =>
   cases h2:jZ cs with
   | none=>simp[h1,h2] at hz
   | some cs1 =>
    simp[h1,h2] at hz;subst hz
    simp only[CR] at hc
    obtain⟨v,vs',f1,f2,rfl,hv,hcs,hff⟩:=hc
    obtain⟨k1,k2⟩:=uA Φ' hsub _ _ _ _ h1 (fun b hb=>hf b (by have:=hff b;omega)) hv
    simp only[FC]
    refine⟨⟨ad,v,rfl,hb,by simpa using hcell 0 v rfl,k1,k2⟩,JC Φ' hsub h2 hcs (fun b hb=>hf b (by have:=hff b;omega)) (fun i u hi=>?_) hb⟩
    have:=hcell (i+1) u (by simpa using hi)
    rwa [show j+1+i=j+(i+1) by omega]
theorem CB {w:World} {Φ:Nat→Prop} {σ:Nat→Value} {ρ:List Value} {e:Env} {f:Cnt} (h:CR P w Φ σ ρ e ρ f) (hsep:∀ b,f b≤1) {c c':AV} {live:Bool} {cv:Value} (hs:gZ e c=some (c',live))
  (hv:VR P w Φ σ ρ c cv (fun _=>0)) (Φ':Nat→Prop) (hsub:∀ b,Φ b→Φ' b) (hΦ:live=true→∀ b,1≤f b→Φ' b):gY c'=true∧∀ (ρ':List Value) (g:Cnt),(∀ b,g b=0)→VR P w Φ' σ ρ' c' cv g:=by
 have fz:∀ {c:AV},gY c=true→VR P w Φ σ ρ c cv (fun _=>0)→∀ (ρ':List Value) (g:Cnt),(∀ b,g b=0)→VR P w Φ' σ ρ' c cv g:=by
  intro c hc hv ρ' g hg
  rw[Zf hg]
  exact uM w Φ' ρ' (fun _ _=>rfl) hsub c cv _ (jY hc) (fun _ _=>rfl) hv
 cases c with
 | ps r p o =>
  simp only[gZ] at hs
  split at hs
  ·rename_i row hrow
   split at hs
   ·rename_i s t n cs hro
    split at hs
    ·rename_i v hfz
     simp at hs
     obtain⟨rfl,rfl⟩:=hs
     simp only[VR] at hv
     obtain⟨⟨bo,row0,a,n0,c0,hw,hv0,rfl⟩,_⟩:=hv
     obtain⟨bo',cvs,f1,f2,hw',hcr,hf,_,_⟩:=gI h hsep hrow
     rw[hw] at hw'
     obtain⟨rfl,rfl⟩:bo=bo'∧row0=cvs:=by simpa using hw'
     obtain⟨cv,g1,g2,hcv,hvr,hff,_⟩:=dO o hcr hro
     obtain⟨hcv0,_⟩:=dS hcv
     rw[hv0] at hcv0
     obtain rfl:=Option.some.inj hcv0
     obtain⟨k1,k2⟩:=uA Φ' hsub _ _ _ _ hfz (fun b hb=>hΦ rfl b (by have:=hf b;have:=hff b;omega)) hvr
     refine⟨k1,fun ρ' g hg=>?_⟩
     exact uM w Φ' ρ' (fun _ _=>rfl) (fun _ h=>h) _ _ _ (jY k1) (fun _ _=>rfl) (k2 g hg)
    ·cases hs
   ·cases hs
  ·cases hs
 | pp r p o =>
  simp only[gZ] at hs
  split at hs
  ·cases hs
  ·rename_i hp
   split at hs
   ·rename_i row hrow
    split at hs
    ·rename_i cs hcs
     simp at hs
     obtain⟨rfl,rfl⟩:=hs
     simp only[VR] at hv
     obtain⟨⟨b0,row0,hw,rfl⟩,_⟩:=hv
     obtain⟨bo',cvs,f1,f2,hw',hcr,hf,_,hblk⟩:=gI h hsep hrow
     rw[hw] at hw'
     obtain⟨rfl,rfl⟩:some b0=bo'∧row0=cvs:=by simpa using hw'
     obtain⟨b,tt,arr,e2,hheap,rfl,hb2,_⟩:=hblk hp
     obtain rfl:=Option.some.inj e2
     refine⟨rfl,fun ρ' g hg=>?_⟩
     have hfc:=JC (P:=P) (w:=w) (σ:=σ) (ρ:=ρ) Φ' hsub hcs hcr (fun b hb=>hΦ rfl b (by have:=hf b;omega)) (ad:=⟨b0,0,none⟩) (j:=0) (fun i u hi=>by
      rw[add_lit,cell_of_row w b0 _ arr tt (0,0) hheap]
      have:=(dS hi).1
      simpa using this) (hΦ rfl b0 (by have:=hf b0;omega))
     have hfd:=AC o hfc
     have:VR P w Φ' σ ρ (.rp (cs.drop o)) (.pointer (some ⟨b0,o,none⟩)) g:=by
      simp only[VR]
      exact⟨⟨_,rfl,by simpa [add_lit] using hfd⟩,hg⟩
     exact uM w Φ' ρ' (fun _ _=>rfl) (fun _ h=>h) _ _ _ rfl (fun _ _=>rfl) this
    ·cases hs
   ·cases hs
 | osl s t n cs =>
  cases n with
  | succ n=>simp[gZ,gY] at hs
  | zero=>cases cs with
   | cons c cs=>simp[gZ,gY] at hs
   | nil =>
    simp[gZ] at hs
    obtain⟨rfl,rfl⟩:=hs
    simp only[VR] at hv
    obtain⟨_,_,xs,f1,ho,_,_⟩:=hv
    obtain⟨a,c,rfl,h1,h2,_⟩:=dF ho
    refine⟨rfl,fun ρ' g hg=>?_⟩
    simp only[VR]
    exact⟨⟨a,c,rfl,h1,by simpa using h2,by simp only[FC]⟩,hg⟩
 | int k n=>simp[gZ,gY] at hs;obtain⟨rfl,rfl⟩:=hs;exact⟨rfl,fz rfl hv⟩
 | bool b=>simp[gZ,gY] at hs;obtain⟨rfl,rfl⟩:=hs;exact⟨rfl,fz rfl hv⟩
 | str s=>simp[gZ,gY] at hs;obtain⟨rfl,rfl⟩:=hs;exact⟨rfl,fz rfl hv⟩
 | nilf=>simp[gZ,gY] at hs;obtain⟨rfl,rfl⟩:=hs;exact⟨rfl,fz rfl hv⟩
 | nilp=>simp[gZ,gY] at hs;obtain⟨rfl,rfl⟩:=hs;exact⟨rfl,fz rfl hv⟩
 | nsl t=>simp[gZ,gY] at hs;obtain⟨rfl,rfl⟩:=hs;exact⟨rfl,fz rfl hv⟩
 | rsl n cs=>simp[gZ,gY] at hs;obtain⟨rfl,rfl⟩:=hs;exact⟨rfl,fz rfl hv⟩
 | rp cs=>simp[gZ,gY] at hs;obtain⟨rfl,rfl⟩:=hs;exact⟨rfl,fz rfl hv⟩
 | fn g cs=>cases cs with
  | nil=>simp[gZ,gY] at hs;obtain⟨rfl,rfl⟩:=hs;exact⟨rfl,fz rfl hv⟩
  | cons c cs=>simp[gZ,gY] at hs
 | _=>simp[gZ,gY] at hs
theorem uN {w:World} {Φ:Nat→Prop} {σ:Nat→Value} {ρ:List Value} {e:Env} {f:Cnt} (h:CR P w Φ σ ρ e ρ f) (hsep:∀ b,f b≤1) (Φ':Nat→Prop) (hsub:∀ b,Φ b→Φ' b) :
  ∀ {cs cs':List AV} {live:Bool} {vs:List Value},iV e cs=some (cs',live)→CR P w Φ σ ρ cs vs (fun _=>0)→(live=true→∀ b,1≤f b→Φ' b)→hrs cs'=false∧∀ (ρ':List Value),CR P w Φ' σ ρ' cs' vs (fun _=>0)
 | [],cs',live,vs,hs,hc,_=>by
  simp[iV] at hs
  obtain⟨rfl,rfl⟩:=hs
  simp only[CR] at hc
  obtain⟨rfl,_⟩:=hc
  exact⟨rfl,fun ρ'=>CR_nil⟩
 | c::cs,cs',live,vs,hs,hc,hΦ=>by
  simp only[iV] at hs
  cases h1:gZ e c with
  | none=>simp[h1] at hs
  | some x =>
   obtain⟨c1,b1⟩:=x
   cases h2:iV e cs with
   | none=>simp[h1,h2] at hs
   | some y =>
    obtain⟨cs1,b2⟩:=y
    simp[h1,h2] at hs
    obtain⟨rfl,rfl⟩:=hs
    simp only[CR] at hc
    obtain⟨v,vs',f1,f2,rfl,hv,hcs,hff⟩:=hc
    have z1:f1=fun _=>0:=funext fun b=>by have:0=f1 b+f2 b:=hff b;omega
    have z2:f2=fun _=>0:=funext fun b=>by have:0=f1 b+f2 b:=hff b;omega
    subst z1;subst z2
    obtain⟨k1,k2⟩:=CB h hsep h1 hv Φ' hsub (fun hb=>hΦ (by simp[hb]))
    obtain⟨m1,m2⟩:=uN h hsep Φ' hsub h2 hcs (fun hb=>hΦ (by simp[hb]))
    refine⟨by simp only[hrs,Bool.or_eq_false_iff];exact⟨jY k1,m1⟩,fun ρ'=>?_⟩
    have:=CR_cons (k2 ρ' (fun _=>0) (fun _=>rfl)) (m2 ρ')
    simpa using this
theorem FI {e:Env} {c c':AV} {b:Bool} (h:gZ e c=some (c',b)):gY c'=true:=by
 have frz:∀ {v v':AV},jI v=some v'→gY v'=true:=by
  intro v v' h
  cases v with
  | osl s t n cs=>simp only[jI] at h;split at h<;>simp at h;subst h;rfl
  | bx s t cs=>simp only[jI] at h;split at h<;>simp at h;subst h;rfl
  | fn g cs=>cases cs<;>simp[jI] at h;subst h;rfl
  | _=>simp[jI] at h<;>(subst h;rfl)
 cases c with
 | ps r p o =>
  simp only[gZ] at h
  split at h
  ·split at h
   ·split at h
    ·rename_i hz;simp at h;rw[←h.1];exact frz hz
    ·cases h
   ·cases h
  ·cases h
 | pp r p o =>
  simp only[gZ] at h
  split at h
  ·cases h
  ·split at h
   ·split at h
    ·simp at h;rw[←h.1];rfl
    ·cases h
   ·cases h
 | osl s t n cs =>
  cases n<;>cases cs<;>simp[gZ,gY] at h
  rw[←h.1];rfl
 | fn g cs=>cases cs<;>simp[gZ,gY] at h;rw[←h.1];rfl
 | _=>simp[gZ,gY] at h<;>(rw[←h.1];rfl)
theorem xH {c:AV} (h:gY c=true):jd c=true:=by
 cases c<;>simp[gY,jd] at h ⊢
 rename_i g cs;cases cs<;>simp[gJ] at h ⊢
theorem xg:∀ {e:Env} {cs cs':List AV} {b:Bool},iV e cs=some (cs',b)→gJ cs'=true
 | e,[],cs',b,h=>by simp[iV] at h;rw[h.1];rfl
 | e,c::cs,cs',b,h=>by
  simp only[iV] at h
  split at h
  ·rename_i h1
   split at h
   ·rename_i h2
    simp at h;rw[←h.1]
    simp[gJ,xH (FI h1),xg h2]
   ·cases h
  ·cases h
theorem He {e:Env} {v v':AV} {b:Bool} (h:ny e v=some (v',b)):jd v'=true:=by
 cases v with
 | agg cs =>
  simp only[ny] at h
  split at h
  ·rename_i h1;simp at h;rw[←h.1];simpa [jd] using xg h1
  ·cases h
 | pf r p o =>
  simp only[ny] at h
  split at h
  ·split at h
   ·split at h
    ·split at h
     ·rename_i h1;simp at h;rw[←h.1];simpa [jd] using xg h1
     ·cases h
    ·cases h
   ·cases h
  ·cases h
 | _=>exact xH (FI (by simpa only[ny] using h))
theorem Am {P:Program} {w:World} {Φ:Nat→Prop} {σ:Nat→Value} {ρ:List Value}:∀ {cs:List AV} {vs:List Value} {f1:Cnt},cs.all oz=true→CR P w Φ σ ρ cs vs f1→∀ x,f1 x=0:=by
 intro cs
 induction cs with
 | nil=>intro vs f1 _ h2 x;simp only[CR] at h2;exact h2.2 x
 | cons c cs ih =>
  intro vs f1 h1 h2 x
  simp only[List.all_cons,Bool.and_eq_true] at h1
  simp only[CR] at h2
  obtain⟨v,vs',k1,k2,rfl,hv,hcs,hff⟩:=h2
  have:=ih h1.2 hcs x
  have hc0:k1 x=0:=by
   have h0:=h1.1
   cases c with
   | fn g1 cs1=>cases cs1 with
    | nil=>simp only[VR] at hv;obtain⟨_,_,_,hv⟩:=hv;simp only[CR] at hv;exact hv.2 x
    | cons _ _=>simp[oz,eU,gY] at h0
   | osl s t n cs0=>simp[oz,eU,gY] at h0
   | bx s t cs0=>simp[oz,eU,gY] at h0
   | agg cs0=>simp[oz,eU,gY] at h0
   | tup sh cs0=>simp[oz,eU,gY] at h0
   | dead=>simp[oz,eU,gY] at h0
   | gone s=>simp[oz,eU,gY] at h0
   | _=>simp only[VR] at hv;exact hv.2 x
  have:=hff x;omega
theorem Cm {w:World} {Φ:Nat→Prop} {σ:Nat→Value} {ρ:List Value} {e:Env} {f:Cnt} (h:CR P w Φ σ ρ e ρ f) (hsep:∀ b,f b≤1) (Φ':Nat→Prop) (hsub:∀ b,Φ b→Φ' b)
  {v v':AV} {live:Bool} {cv:Value} (hs:ny e v=some (v',live)) (hv:VR P w Φ σ ρ v cv (fun _=>0)) (hΦ:live=true→∀ b,1≤f b→Φ' b):hr v'=false∧∀ (ρ':List Value),VR P w Φ' σ ρ' v' cv (fun _=>0):=by
 have one:gZ e v=some (v',live)→hr v'=false∧∀ (ρ':List Value),VR P w Φ' σ ρ' v' cv (fun _=>0):=fun hs=>by
  obtain⟨k1,k2⟩:=CB h hsep hs hv Φ' hsub hΦ
  exact⟨jY k1,fun ρ'=>k2 ρ' _ (fun _=>rfl)⟩
 cases v with
 | agg cs =>
  simp only[ny] at hs
  split at hs
  ·rename_i cs' b h1
   simp at hs
   obtain⟨rfl,rfl⟩:=hs
   simp only[VR] at hv
   obtain⟨arr,rfl,hc⟩:=hv
   obtain⟨m1,m2⟩:=uN h hsep Φ' hsub h1 hc hΦ
   refine⟨by simpa only[hr] using m1,fun ρ'=>?_⟩
   simp only[VR]
   exact⟨arr,rfl,m2 ρ'⟩
  ·cases hs
 | pf r p o =>
  simp only[ny] at hs
  split at hs
  ·rename_i hpo
   obtain⟨rfl,rfl⟩:=hpo
   split at hs
   ·rename_i g caps hr0
    split at hs
    ·rename_i hcap
     split at hs
     ·rename_i cs' b h1
      simp only[Option.some.injEq,Prod.mk.injEq] at hs
      obtain⟨rfl,rfl⟩:=hs
      obtain⟨cv',f1,f2,hcv,hvr,hf,_⟩:=dO r h hr0
      simp only[VR] at hvr
      obtain⟨vs,rfl,hq,hcr⟩:=hvr
      have hz:=Am hcap hcr
      simp only[VR] at hv
      obtain⟨⟨bo,row,g0,fs,cs,hw,hv0,rfl⟩,_⟩:=hv
      have e2:rowOf ρ r=[.func (.func g) #[] vs]:=by simp[rowOf,hcv,gB]
      rw[e2] at hw
      simp only[walk,Option.some.injEq,Prod.mk.injEq] at hw
      obtain⟨rfl,rfl⟩:=hw
      simp at hv0
      obtain⟨rfl,rfl,rfl⟩:=hv0
      obtain⟨m1,m2⟩:=uN h hsep Φ' hsub h1 (by rw[←Zf hz];exact hcr) hΦ
      refine⟨by simpa only[hr] using m1,fun ρ'=>?_⟩
      simp only[VR]
      exact⟨_,rfl,fun c hc=>.inr (uz m1 c hc),m2 ρ'⟩
     ·cases hs
    ·cases hs
   ·cases hs
  ·cases hs
 | _=>exact one (by simpa only[ny] using hs)
theorem xw {w:World} {Φ:Nat→Prop} {σ:Nat→Value} {ρ:List Value} {ν:List Nat} {e:Env} {f:Cnt} {a:Act} (h:CR P w Φ σ ρ e ρ f) (hl:LK ν ρ e a.tmps) (hsep:∀ b,f b≤1) (Φ':Nat→Prop) (hsub:∀ b,Φ b→Φ' b) :
  ∀ {xs:List Operand} {ys:List Opd} {avs:List AV} {live:Bool},nI ν xs ys=true→kU e ys=some (avs,live)→(live=true→∀ b,1≤f b→Φ' b) →
   hrs avs=false∧∀ (ρ':List Value),CR P w Φ' σ ρ' avs (xs.map a.eval) (fun _=>0)
 | [],[],avs,live,_,hp,_=>by
  simp[kU] at hp
  obtain⟨rfl,rfl⟩:=hp
  exact⟨rfl,fun ρ'=>CR_nil⟩
 | x::xs,y::ys,avs,live,hx,hp,hΦ=>by
  simp only[nI,Bool.and_eq_true] at hx
  simp only[kU] at hp
  cases h1:ev e y with
  | none=>simp[h1] at hp
  | some v =>
   cases h2:ny e v with
   | none=>simp[h1,h2] at hp
   | some z =>
    obtain⟨v',b1⟩:=z
    cases h3:kU e ys with
    | none=>simp[h1,h2,h3] at hp
    | some u =>
     obtain⟨vs,b2⟩:=u
     simp[h1,h2,h3] at hp
     obtain⟨rfl,rfl⟩:=hp
     obtain⟨k1,k2⟩:=Cm h hsep Φ' hsub h2 (dC h hl hx.1 h1 _ (fun _=>rfl)) (fun hb=>hΦ (by simp[hb]))
     obtain⟨m1,m2⟩:=xw h hl hsep Φ' hsub hx.2 h3 (fun hb=>hΦ (by simp[hb]))
     refine⟨by simp only[hrs,Bool.or_eq_false_iff];exact⟨k1,m1⟩,fun ρ'=>?_⟩
     have:=CR_cons (k2 ρ') (m2 ρ')
     simpa using this
 | [],_::_,_,_,hx,_,_=>by simp[nI] at hx
 | _::_,[],_,_,hx,_,_=>by simp[nI] at hx
def dZ (P:Program) (g:Nat):Bool :=
 match P.funcs[g]? with
 | some fn=>fn.body.isSome&&!(fn.name=="runtime.NumGoroutine")
 | none=>false
theorem xh {w:World} {a:Act} {o:Oper} {c:Call} {x:Operand} {g:Nat} {vs:Array Value} (ho:o.op=.call c) (hc:c.callee=.value x) (hv:a.eval x=.func (.func g) #[] vs) (hg:dZ P g=true) :
  (execOp a.eval o).run P w=.ok (.enter g (c.args.map a.eval++vs)) w:=by
 unfold dZ at hg
 split at hg
 ·rename_i fn hfn
  simp only[Bool.and_eq_true,Bool.not_eq_true',beq_eq_false_iff_ne] at hg
  obtain⟨hb,hn⟩:=hg
  simp[execOp,ho,resolve,hc,hv,Deferred.ofValue,invoke,callFunc,hfn,hn]
  intro h0;rw[h0] at hb;cases hb
 ·cases hg
theorem Nr {w:World} {a:Act} {o:Oper} {c:Call} {g:Nat} (ho:o.op=.call c) (hc:c.callee=.value (.func g)) (hg:dZ P g=true):(execOp a.eval o).run P w=.ok (.enter g (c.args.map a.eval)) w:=by
 unfold dZ at hg
 split at hg
 ·rename_i fn hfn
  simp only[Bool.and_eq_true,Bool.not_eq_true',beq_eq_false_iff_ne] at hg
  obtain⟨hb,hn⟩:=hg
  simp[execOp,ho,resolve,hc,Act.eval,Deferred.ofValue,invoke,callFunc,hfn,hn]
  intro h0;rw[h0] at hb;cases hb
 ·cases hg
end
end Go.AM
namespace Go.AM
open Go
section
variable {P : Program} {w : World} {Φ : Nat → Prop} {σ : Nat → Value} {ρ : List Value}
theorem sig (σ':Nat→Value):∀ (v:AV) (cv:Value) (f:Cnt),(jd v=true∨gY v=true)→VR P w Φ σ ρ v cv f→VR P w Φ σ' ρ v cv f:=by
 intro v
 induction v using AV.rec (motive_2:=fun cs=>(∀ (vs:List Value) (f:Cnt),gJ cs=true→CR P w Φ σ ρ cs vs f→CR P w Φ σ' ρ cs vs f) ∧
   (∀ a j,FC P w Φ σ ρ cs a j→FC P w Φ σ' ρ cs a j)) with
 | dead=>intro cv f _ h;simpa only[VR] using h
 | gone s =>
  intro cv f hn h
  rcases hn with hn|hn
  ·simp only[jd,beq_iff_eq] at hn
   simp only[VR] at h ⊢
   exact⟨fun h0=>absurd hn h0,h.2⟩
  ·simp[gY] at hn
 | int k n=>intro cv f _ h;simpa only[VR] using h
 | bool t=>intro cv f _ h;simpa only[VR] using h
 | str s=>intro cv f _ h;simpa only[VR] using h
 | nilf=>intro cv f _ h;simpa only[VR] using h
 | nilp=>intro cv f _ h;simpa only[VR] using h
 | nsl t=>intro cv f _ h;simpa only[VR] using h
 | ps r p o=>intro cv f _ h;simpa only[VR] using h
 | pp r p o=>intro cv f _ h;simpa only[VR] using h
 | pf r p o=>intro cv f _ h;simpa only[VR] using h
 | pw r p o lo m sz=>intro cv f _ h;simpa only[VR] using h
 | fn g cs ih =>
  intro cv f hn h
  simp only[VR] at h ⊢
  obtain⟨vs,e,hq,h⟩:=h
  refine⟨vs,e,hq,?_⟩
  rcases hn with hn|hn
  ·exact ih.1 _ _ (by simpa [jd] using hn) h
  ·cases cs with
   | nil=>simpa only[CR] using h
   | cons c cs=>simp[gY] at hn
 | rsl n cs ih =>
  intro cv f hn h
  simp only[VR] at h ⊢
  obtain⟨⟨a,c,e,h1,h0,h⟩,hz⟩:=h
  exact⟨⟨a,c,e,h1,h0,ih.2 _ _ h⟩,hz⟩
 | rp cs ih =>
  intro cv f hn h
  simp only[VR] at h ⊢
  obtain⟨⟨a,e,h⟩,hz⟩:=h
  exact⟨⟨a,e,ih.2 _ _ h⟩,hz⟩
 | osl s t n cs ih =>
  intro cv f hn h
  rcases hn with hn|hn
  ·simp only[jd,Bool.and_eq_true,beq_iff_eq] at hn
   simp only[VR] at h ⊢
   obtain⟨_,hx,xs,f1,ho,h,hb⟩:=h
   exact⟨fun h0=>absurd hn.1 h0,hx,xs,f1,ho,ih.1 _ _ hn.2 h,hb⟩
  ·simp[gY] at hn
 | bx s t cs ih =>
  intro cv f hn h
  rcases hn with hn|hn
  ·simp only[jd,Bool.and_eq_true,beq_iff_eq] at hn
   simp only[VR] at h ⊢
   obtain⟨_,hx,b0,arr,f1,e,hg,h,hb⟩:=h
   exact⟨fun h0=>absurd hn.1 h0,hx,b0,arr,f1,e,hg,ih.1 _ _ hn.2 h,hb⟩
  ·simp[gY] at hn
 | agg cs ih =>
  intro cv f hn h
  rcases hn with hn|hn
  ·simp only[VR] at h ⊢
   obtain⟨arr,e,h⟩:=h
   exact⟨arr,e,ih.1 _ _ (by simpa [jd] using hn) h⟩
  ·simp[gY] at hn
 | tup sh cs ih =>
  intro cv f hn h
  rcases hn with hn|hn
  ·simp only[VR] at h ⊢
   obtain⟨arr,e,hs,h⟩:=h
   exact⟨arr,e,hs,ih.1 _ _ (by simpa [jd] using hn) h⟩
  ·simp[gY] at hn
 | nil=>exact⟨fun vs f _ h=>by simpa only[CR] using h,fun a j _=>by simp only[FC]⟩
 | cons c cs ihc ihs =>
  refine⟨fun vs f hn h=>?_,fun a j h=>?_⟩
  ·simp only[gJ,Bool.and_eq_true] at hn
   simp only[CR] at h ⊢
   obtain⟨v,vs',f1,f2,e,h1,h2,hb⟩:=h
   exact⟨v,vs',f1,f2,e,ihc _ _ (.inl hn.1) h1,ihs.1 _ _ hn.2 h2,hb⟩
  ·simp only[FC] at h ⊢
   obtain⟨⟨ad,u,e,hp,hc,hz,hv⟩,h⟩:=h
   exact⟨⟨ad,u,e,hp,hc,hz,fun f hf=>ihc _ _ (.inr hz) (hv f hf)⟩,ihs.2 _ _ h⟩
theorem sigs (σ':Nat→Value):∀ {cs:List AV} {vs:List Value} {f:Cnt},gJ cs=true→CR P w Φ σ ρ cs vs f→CR P w Φ σ' ρ cs vs f
 | [],vs,f,_,h=>by simpa only[CR] using h
 | c::cs,vs,f,hn,h=>by
  simp only[gJ,Bool.and_eq_true] at hn
  simp only[CR] at h ⊢
  obtain⟨v,vs',f1,f2,e,h1,h2,hb⟩:=h
  exact⟨v,vs',f1,f2,e,sig σ' _ _ _ (.inl hn.1) h1,sigs σ' hn.2 h2,hb⟩
mutual
theorem OH:∀ (v:AV),hr (upV v)=hr v
 | .osl s e n cs=>by simp[upV,hr,nT cs]
 | .bx s t cs=>by simp[upV,hr,nT cs]
 | .agg cs=>by simp[upV,hr,nT cs]
 | .tup sh cs=>by simp[upV,hr,nT cs]
 | .fn g cs=>by simp[upV,hr,nT cs]
 | .gone _=>by simp[upV,hr]
 | .dead | .int _ _ | .bool _ | .str _ | .nilf | .nilp | .nsl _ | .rsl _ _ | .rp _ | .ps _ _ _ | .pp _ _ _ | .pf _ _ _ | .pw _ _ _ _ _ _=>by simp[upV]
theorem nT:∀ (cs:List AV),hrs (qG cs)=hrs cs
 | []=>by simp[qG]
 | c::cs=>by simp[qG,hrs,OH c,nT cs]
end
mutual
theorem Qd:∀ (v:AV),hr (dnV v)=hr v
 | .osl s e n cs=>by simp[dnV,hr,ou cs]
 | .bx s t cs=>by simp[dnV,hr,ou cs]
 | .agg cs=>by simp[dnV,hr,ou cs]
 | .tup sh cs=>by simp[dnV,hr,ou cs]
 | .fn g cs=>by simp[dnV,hr,ou cs]
 | .gone _=>by simp[dnV,hr]
 | .dead | .int _ _ | .bool _ | .str _ | .nilf | .nilp | .nsl _ | .rsl _ _ | .rp _ | .ps _ _ _ | .pp _ _ _ | .pf _ _ _ | .pw _ _ _ _ _ _=>by simp[dnV]
theorem ou:∀ (cs:List AV),hrs (qR cs)=hrs cs
 | []=>by simp[qR]
 | c::cs=>by simp[qR,hrs,Qd c,ou cs]
end
theorem Sl (v:AV):eU (upV v)=eU v:=by cases v<;>simp[upV,eU]
theorem Us (v:AV):eU (dnV v)=eU v:=by cases v<;>simp[dnV,eU]
theorem MV {cs:List AV} (h:∀ c∈cs,eU c=true∨hr c=false):∀ c∈qG cs,eU c=true∨hr c=false:=by
 induction cs with
 | nil=>simp[qG]
 | cons c cs ih =>
  intro x hx
  simp only[qG,List.mem_cons] at hx
  rcases hx with rfl|hx
  ·rw[Sl,OH];exact h c (by simp)
  ·exact ih (fun y hy=>h y (by simp[hy])) x hx
theorem Ob {cs:List AV} (h:∀ c∈cs,eU c=true∨hr c=false):∀ c∈qR cs,eU c=true∨hr c=false:=by
 induction cs with
 | nil=>simp[qR]
 | cons c cs ih =>
  intro x hx
  simp only[qR,List.mem_cons] at hx
  rcases hx with rfl|hx
  ·rw[Us,Qd];exact h c (by simp)
  ·exact ih (fun y hy=>h y (by simp[hy])) x hx
def Shf (σ σ':Nat→Value):Prop:=∀ n,n≠0→σ' (n+1000)=σ n
section
variable {σ' : Nat → Value} (hs : Shf σ σ')
include hs
mutual
theorem acX:∀ (v:AV) (cv:Value) (f:Cnt),VR P w Φ σ ρ v cv f→VR P w Φ σ' ρ (upV v) cv f
 | .osl s e n cs,cv,f,h=>by
  simp only[upV,VR] at h ⊢
  obtain⟨h0,hx,xs,f1,ho,hc,hb⟩:=h
  refine⟨fun h1=>?_,by rw[nT];exact hx,xs,f1,ho,qY cs _ _ hc,hb⟩
  by_cases hz:s=0
  ·rw[if_pos hz] at h1;exact absurd rfl h1
  ·rw[if_neg hz,hs s hz];exact h0 hz
 | .bx s t cs,cv,f,h=>by
  simp only[upV,VR] at h ⊢
  obtain⟨h0,hx,b0,arr,f1,e,hg,hc,hb⟩:=h
  refine⟨fun h1=>?_,by rw[nT];exact hx,b0,arr,f1,e,hg,qY cs _ _ hc,hb⟩
  by_cases hz:s=0
  ·rw[if_pos hz] at h1;exact absurd rfl h1
  ·rw[if_neg hz,hs s hz];exact h0 hz
 | .agg cs,cv,f,h=>by
  simp only[upV,VR] at h ⊢
  obtain⟨arr,e,hc⟩:=h
  exact⟨arr,e,qY cs _ _ hc⟩
 | .tup sh cs,cv,f,h=>by
  simp only[upV,VR] at h ⊢
  obtain⟨arr,e,hq,hc⟩:=h
  exact⟨arr,e,hq,qY cs _ _ hc⟩
 | .fn g cs,cv,f,h=>by
  simp only[upV,VR] at h ⊢
  obtain⟨vs,e,hq,hc⟩:=h
  exact⟨vs,e,MV hq,qY cs _ _ hc⟩
 | .gone s,cv,f,h=>by
  simp only[upV,VR] at h ⊢
  refine⟨fun h1=>?_,h.2⟩
  by_cases hz:s=0
  ·rw[if_pos hz] at h1;exact absurd rfl h1
  ·rw[if_neg hz,hs s hz];exact h.1 hz
 | .dead,cv,f,h | .int _ _,cv,f,h | .bool _,cv,f,h | .str _,cv,f,h | .nilf,cv,f,h | .nilp,cv,f,h | .nsl _,cv,f,h | .rsl _ _,cv,f,h | .rp _,cv,f,h | .ps _ _ _,cv,f,h | .pp _ _ _,cv,f,h | .pf _ _ _,cv,f,h | .pw _ _ _ _ _ _,cv,f,h =>
  sig σ' _ _ _ (.inl rfl) h
theorem qY:∀ (cs:List AV) (vs:List Value) (f:Cnt),CR P w Φ σ ρ cs vs f→CR P w Φ σ' ρ (qG cs) vs f
 | [],vs,f,h=>by simpa only[qG,CR] using h
 | c::cs,vs,f,h=>by
  simp only[qG,CR] at h ⊢
  obtain⟨v,vs',f1,f2,e,h1,h2,hb⟩:=h
  exact⟨v,vs',f1,f2,e,acX c _ _ h1,qY cs _ _ h2,hb⟩
end
mutual
theorem adS:∀ (v:AV) (cv:Value) (f:Cnt),xR v=true→VR P w Φ σ' ρ v cv f→VR P w Φ σ ρ (dnV v) cv f
 | .osl s e n cs,cv,f,hk,h=>by
  simp only[xR,Bool.and_eq_true,Bool.or_eq_true,beq_iff_eq,decide_eq_true_eq] at hk
  simp only[dnV,VR] at h ⊢
  obtain⟨h0,hx,xs,f1,ho,hc,hb⟩:=h
  refine⟨fun h1=>?_,by rw[ou];exact hx,xs,f1,ho,rC cs _ _ hk.2 hc,hb⟩
  have:=hs (s-1000) h1
  rw[show s-1000+1000=s by omega] at this
  rw[←this];exact h0 (by omega)
 | .bx s t cs,cv,f,hk,h=>by
  simp only[xR,Bool.and_eq_true,Bool.or_eq_true,beq_iff_eq,decide_eq_true_eq] at hk
  simp only[dnV,VR] at h ⊢
  obtain⟨h0,hx,b0,arr,f1,e,hg,hc,hb⟩:=h
  refine⟨fun h1=>?_,by rw[ou];exact hx,b0,arr,f1,e,hg,rC cs _ _ hk.2 hc,hb⟩
  have:=hs (s-1000) h1
  rw[show s-1000+1000=s by omega] at this
  rw[←this];exact h0 (by omega)
 | .agg cs,cv,f,hk,h=>by
  simp only[xR] at hk
  simp only[dnV,VR] at h ⊢
  obtain⟨arr,e,hc⟩:=h
  exact⟨arr,e,rC cs _ _ hk hc⟩
 | .tup sh cs,cv,f,hk,h=>by
  simp only[xR] at hk
  simp only[dnV,VR] at h ⊢
  obtain⟨arr,e,hq,hc⟩:=h
  exact⟨arr,e,hq,rC cs _ _ hk hc⟩
 | .fn g cs,cv,f,hk,h=>by
  simp only[xR] at hk
  simp only[dnV,VR] at h ⊢
  obtain⟨vs,e,hq,hc⟩:=h
  exact⟨vs,e,Ob hq,rC cs _ _ hk hc⟩
 | .gone s,cv,f,hk,h=>by
  simp only[xR,Bool.or_eq_true,beq_iff_eq,decide_eq_true_eq] at hk
  simp only[dnV,VR] at h ⊢
  refine⟨fun h1=>?_,h.2⟩
  have:=hs (s-1000) h1
  rw[show s-1000+1000=s by omega] at this
  rw[←this];exact h.1 (by omega)
 | .dead,cv,f,_,h | .int _ _,cv,f,_,h | .bool _,cv,f,_,h | .str _,cv,f,_,h | .nilf,cv,f,_,h | .nilp,cv,f,_,h | .nsl _,cv,f,_,h | .rsl _ _,cv,f,_,h | .rp _,cv,f,_,h | .ps _ _ _,cv,f,_,h | .pp _ _ _,cv,f,_,h | .pf _ _ _,cv,f,_,h | .pw _ _ _ _ _ _,cv,f,_,h =>
  sig σ _ _ _ (.inl rfl) h
theorem rC:∀ (cs:List AV) (vs:List Value) (f:Cnt),lX cs=true→CR P w Φ σ' ρ cs vs f→CR P w Φ σ ρ (qR cs) vs f
 | [],vs,f,_,h=>by simpa only[qR,CR] using h
 | c::cs,vs,f,hk,h=>by
  simp only[lX,Bool.and_eq_true] at hk
  simp only[qR,CR] at h ⊢
  obtain⟨v,vs',f1,f2,e,h1,h2,hb⟩:=h
  exact⟨v,vs',f1,f2,e,adS c _ _ hk.1 h1,rC cs _ _ hk.2 h2,hb⟩
end
theorem vX {cs:List AV} {vs:List Value} {f:Cnt} (h:CR P w Φ σ ρ cs vs f):CR P w Φ σ' ρ (GR cs) vs f:=by
 unfold GR
 split
 ·rename_i hn;exact sigs σ' hn h
 ·exact qY hs _ _ _ h
theorem Gi {cs:List AV} {vs:List Value} {f:Cnt} (hk:(gJ cs||lX cs)=true) (h:CR P w Φ σ' ρ cs vs f):CR P w Φ σ ρ (MP cs) vs f:=by
 unfold MP
 split
 ·rename_i hn;exact sigs σ hn h
 ·rename_i hn;exact rC hs _ _ _ (by simpa [hn] using hk) h
end
theorem kN {cs:List AV}:hrs (GR cs)=hrs cs:=by unfold GR;split;rfl;exact nT cs
theorem uF {cs:List AV}:hrs (MP cs)=hrs cs:=by unfold MP;split;rfl;exact ou cs
def Stm (σ σ':Nat→Value) (s:Nat) (ks:List Value):Prop:=(∀ i v,ks[i]?=some v→σ' (s+i)=v)∧Shf σ σ'
theorem Stm.left {σ':Nat→Value} {s:Nat} {a b:List Value} (h:Stm σ σ' s (a++b)):Stm σ σ' s a:=⟨fun i v hi=>h.1 i v (by rw[List.getElem?_append_left (List.getElem?_eq_some_iff.1 hi).1];exact hi),h.2⟩
theorem Stm.right {σ':Nat→Value} {s:Nat} {a b:List Value} (h:Stm σ σ' s (a++b)):Stm σ σ' (s+a.length) b:=⟨fun i v hi=>by
 have:=h.1 (a.length+i) v (by rw[List.getElem?_append_right (by omega)];simpa using hi)
 rwa [←Nat.add_assoc] at this,h.2⟩
def BkR (w:World) (ρ:List Value) (σ:Nat→Value):List Bk→List Value→Prop
 | [],vs=>vs=[]
 | .pl r p o s::bs,vs=>∃ v vs',vs=v::vs'∧(∃ bo row,walk w none (rowOf ρ r) p=some (bo,row)∧row[o]?=some v)∧(s≠0→σ s=v)∧BkR w ρ σ bs vs'
 | .cl r g ss::bs,vs=>∃ us vs',vs=us++vs'∧us.length=ss.length∧ρ[r]?=some (.func (.func g) #[] us.toArray)∧(∀ (i s:Nat) (u:Value),ss[i]?=some s→us[i]?=some u→s≠0→σ s=u)∧BkR w ρ σ bs vs'
 | .sl r s::bs,vs=>∃ v vs',vs=v::vs'∧ρ[r]?=some v∧(s≠0→σ s=v)∧BkR w ρ σ bs vs'
theorem jM:∀ {bs:List Bk} {vs:List Value},BkR w ρ σ bs vs→vs.length=nB bs
 | [],vs,h=>by simp only[BkR] at h;simp[h,nB]
 | .pl r p o s::bs,vs,h=>by
  simp only[BkR] at h
  obtain⟨v,vs',rfl,_,_,h⟩:=h
  simp[nB,jM h]
 | .cl r g ss::bs,vs,h=>by
  simp only[BkR] at h
  obtain⟨us,vs',rfl,h1,_,_,h⟩:=h
  simp[nB,jM h,h1];omega
 | .sl r s::bs,vs,h=>by
  simp only[BkR] at h
  obtain⟨v,vs',rfl,_,_,h⟩:=h
  simp[nB,jM h]
theorem lH:∀ {as bs:List Bk} {us vs:List Value},BkR w ρ σ as us→BkR w ρ σ bs vs→BkR w ρ σ (as++bs) (us++vs)
 | [],bs,us,vs,h,h'=>by simp only[BkR] at h;subst h;simpa using h'
 | .pl r p o s::as,bs,us,vs,h,h'=>by
  simp only[BkR] at h
  obtain⟨v,vs',rfl,h1,h2,h⟩:=h
  simp only[List.cons_append,BkR]
  exact⟨v,_,rfl,h1,h2,lH h h'⟩
 | .cl r g ss::as,bs,us,vs,h,h'=>by
  simp only[BkR] at h
  obtain⟨u1,vs',rfl,h1,h2,h3,h⟩:=h
  simp only[List.cons_append,BkR]
  exact⟨u1,_,by simp,h1,h2,h3,lH h h'⟩
 | .sl r s::as,bs,us,vs,h,h'=>by
  simp only[BkR] at h
  obtain⟨v,vs',rfl,h1,h2,h⟩:=h
  simp only[List.cons_append,BkR]
  exact⟨v,_,rfl,h1,h2,lH h h'⟩
theorem Gp {e:Env} {f:Cnt} {r o s0:Nat} {p:List Nat} {bo:Option Nat} {row:List Value} {v:Value} (h:CR P w Φ σ ρ e ρ f) (hw:walk w none (rowOf ρ r) p=some (bo,row)) (hv:row[o]?=some v) (hs:s0≠0→σ s0=v):BkR w ρ σ [aaY e r p o s0] [v]:=by
 unfold aaY
 by_cases hc:p=[]∧o=0∧abC e r=true
 ·rw[if_pos hc]
  obtain⟨rfl,rfl,hm⟩:=hc
  refine⟨v,[],rfl,?_,hs,rfl⟩
  simp only[walk,Option.some.injEq,Prod.mk.injEq] at hw
  obtain⟨_,rfl⟩:=hw
  unfold abC at hm
  split at hm
  ·rename_i s t n cs he
   obtain⟨cv,f1,f2,hcv,hvr,_,_⟩:=dO r h he
   simp only[VR] at hvr
   obtain⟨_,_,xs,g1,ho,_,_⟩:=hvr
   obtain⟨ao,c,e1,_⟩:=dF ho
   subst e1
   simp[rowOf,hcv,gB] at hv
   rw[hcv,hv]
  ·rename_i s t cs he
   obtain⟨cv,f1,f2,hcv,hvr,_,_⟩:=dO r h he
   simp only[VR] at hvr
   obtain⟨_,_,b0,arr,g1,e1,_⟩:=hvr
   subst e1
   simp[rowOf,hcv,gB] at hv
   rw[hcv,hv]
  ·cases hm
 ·rw[if_neg hc]
  exact⟨v,[],rfl,⟨bo,row,hw,hv⟩,hs,rfl⟩
theorem as6 {a b:List Bk}:nB (a++b)=nB a+nB b:=by
 induction a with
 | nil=>simp[nB]
 | cons x a ih=>cases x<;>simp[nB,ih]<;>omega
abbrev BV (P:Program) (w:World) (Φ:Nat→Prop) (σ:Nat→Value) (ρ:List Value) (e:Env) (f:Cnt) (s:Nat) (c':List AV) (cvs:List Value) (e':Env) (b:List Bk):Prop :=
 ∃ f1 f2 ks,BkR w ρ σ b ks∧(∀ σ',Stm σ σ' s ks→CR P w Φ σ' [] c' cvs f1)∧hrs c'=false∧CR P w Φ σ ρ e' ρ f2∧(∀ x,f x=f1 x+f2 x)∧e'.length=e.length
theorem slen {e:Env} {r:Nat} {p:List Nat} {row:List AV}:(dY e r p row).length=e.length:=by unfold dY;split<;>simp
theorem Dn {e:Env} {f:Cnt} {s:Nat} {c c':AV} {e':Env} {b:List Bk} {cv:Value} (h:CR P w Φ σ ρ e ρ f) (hsep:∀ b,f b≤1) (hc:VR P w Φ σ ρ c cv (fun _=>0)) (ht:jq e s c=some (c',e',b)) :
  BV P w Φ σ ρ e f s [c'] [cv] e' b:=by
 have fz:∀ {c:AV},gY c=true→VR P w Φ σ ρ c cv (fun _=>0)→jq e s c=some (c',e',b)→jq e s c=some (c,e,[])→BV P w Φ σ ρ e f s [c'] [cv] e' b:=by
  intro c hz hc h1 h2
  rw[h2] at h1
  simp only[Option.some.injEq,Prod.mk.injEq] at h1
  obtain⟨rfl,rfl,rfl⟩:=h1
  refine⟨fun _=>0,f,[],rfl,fun σ' _=>iG ?_,by simp[hrs,jY hz],h,fun x=>by simp,rfl⟩
  exact uM w Φ [] (fun _ _=>rfl) (fun _ h=>h) _ _ _ (jY hz) (fun _ _=>rfl) (sig σ' _ _ _ (.inr hz) hc)
 have dflt:∀ {c:AV},jq e s c=(if gY c=true then some (c,e,[]) else none)→VR P w Φ σ ρ c cv (fun _=>0)→jq e s c=some (c',e',b)→BV P w Φ σ ρ e f s [c'] [cv] e' b:=by
  intro c h1 hc h2
  by_cases hz:gY c=true
  ·exact fz hz hc h2 (by rw[h1,if_pos hz])
  ·rw[h1,if_neg hz] at h2;cases h2
 cases c with
 | ps r p o =>
  simp only[jq] at ht
  split at ht
  ·rename_i row hrow
   split at ht
   ·rename_i s0 t n cs hro
    ·simp only[Option.some.injEq,Prod.mk.injEq] at ht
     obtain⟨rfl,rfl,rfl⟩:=ht
     have htk:takeC e (.ps r p o)=some (.osl s0 t n cs,dY e r p (row.set o (.gone 0))):=by simp only[takeC,hrow,hro]
     obtain⟨f1,f2,k1,k2,k3,k4⟩:=lK h hsep hc htk
     simp only[VR] at hc
     obtain⟨⟨bo,row0,a0,n0,c0,hw,hv,rfl⟩,_⟩:=hc
     have k1':=k1
     simp only[VR] at k1
     obtain⟨hst,hx,xs,g1,ho,hcr,hb⟩:=k1
     refine⟨f1,f2,[.slice a0 n0 c0],Gp h hw hv hst,fun σ' hs=>iG ?_,by simp[hrs,hr,kN,hx],k2,fun x=>by have:=k3 x;omega,k4⟩
     simp only[VR]
     refine⟨fun _=>by have:=hs.1 0 _ rfl;simpa using this,by rw[kN];exact hx,xs,g1,ho,?_,hb⟩
     exact iC w Φ [] (fun _ _=>rfl) (fun _ h=>h) _ _ _ (by rw[kN];exact hx) (fun _ _=>rfl) (vX hs.2 hcr)
   ·cases ht
  ·cases ht
 | pp r p o =>
  simp only[jq] at ht
  split at ht
  ·rename_i ho;subst ho
   split at ht
   ·rename_i k hk
    split at ht
    ·rename_i row hrow
     split at ht
     ·rename_i s0 t cs hro
      ·simp only[Option.some.injEq,Prod.mk.injEq] at ht
       obtain⟨rfl,rfl,rfl⟩:=ht
       have htk:takeC e (.pp r p 0)=some (.bx s0 t cs,dY e r p.dropLast (row.set k (.gone 0))):=by simp only[takeC,if_true,hk,hrow,hro]
       obtain⟨f1,f2,k1,k2,k3,k4⟩:=lK h hsep hc htk
       obtain⟨q,rfl⟩:=List.getLast?_eq_some_iff.1 hk
       simp only[List.dropLast_concat] at hrow ⊢ k2 k4
       simp only[VR] at hc
       obtain⟨⟨b0,row0,hw,rfl⟩,_⟩:=hc
       obtain⟨bo1,row1,v,b,hw1,hv1,hb1,hbr,e1⟩:=lm _ _ _ _ _ _ hw
       obtain⟨bo',cvs,q1,q2,hw',hcr,hf,_,_⟩:=gI h hsep hrow
       rw[hw1] at hw'
       obtain⟨rfl,rfl⟩:bo1=bo'∧row1=cvs:=by simpa using hw'
       obtain⟨u,g1,g2,hcv,hvr,hff,hset⟩:=dO k hcr hro
       obtain⟨hcv0,holt⟩:=dS hcv
       rw[hv1] at hcv0
       obtain rfl:=Option.some.inj hcv0
       simp only[VR] at hvr
       obtain⟨_,_,b2,_,_,rfl,_⟩:=hvr
       simp only[hblk,Option.some.injEq] at hb1 e1
       subst hb1;subst e1
       simp only[VR] at k1
       obtain⟨hst,hx,b2,arr,g3,e2,hg,hcr2,hb⟩:=k1
       refine⟨f1,f2,[_],Gp h hw1 hv1 hst,fun σ' hs=>iG ?_,by simp[hrs,hr,kN,hx],k2,fun x=>by have:=k3 x;omega,k4⟩
       simp only[VR]
       refine⟨fun _=>by have:=hs.1 0 _ rfl;simpa using this,by rw[kN];exact hx,b2,arr,g3,e2,hg,?_,hb⟩
       exact iC w Φ [] (fun _ _=>rfl) (fun _ h=>h) _ _ _ (by rw[kN];exact hx) (fun _ _=>rfl) (vX hs.2 hcr2)
     ·cases ht
    ·cases ht
   ·cases ht
  ·cases ht
 | pf r p o=>simp[jq] at ht
 | pw r p o lo m sz=>exact dflt (by simp only[jq]) hc ht
 | dead=>exact dflt (by simp only[jq]) hc ht
 | gone s=>exact dflt (by simp only[jq]) hc ht
 | int k n=>exact dflt (by simp only[jq]) hc ht
 | bool t=>exact dflt (by simp only[jq]) hc ht
 | str s=>exact dflt (by simp only[jq]) hc ht
 | fn g cs=>exact dflt (by simp only[jq]) hc ht
 | nilf=>exact dflt (by simp only[jq]) hc ht
 | nilp=>exact dflt (by simp only[jq]) hc ht
 | nsl t=>exact dflt (by simp only[jq]) hc ht
 | rsl n cs=>exact dflt (by simp only[jq]) hc ht
 | rp cs=>exact dflt (by simp only[jq]) hc ht
 | osl s t n cs=>exact dflt (by simp only[jq]) hc ht
 | bx s t cs=>exact dflt (by simp only[jq]) hc ht
 | agg cs=>exact dflt (by simp only[jq]) hc ht
 | tup sh cs=>exact dflt (by simp only[jq]) hc ht
theorem vz:∀ {cs cs':List AV} {e e':Env} {f:Cnt} {s:Nat} {b:List Bk} {cvs:List Value},CR P w Φ σ ρ e ρ f→(∀ b,f b≤1)→CR P w Φ σ ρ cs cvs (fun _=>0)→rJ e s cs=some (cs',e',b) →
  BV P w Φ σ ρ e f s cs' cvs e' b
 | [],cs',e,e',f,s,b,cvs,h,hsep,hc,ht=>by
  simp only[rJ,Option.some.injEq,Prod.mk.injEq] at ht
  obtain⟨rfl,rfl,rfl⟩:=ht
  simp only[CR] at hc
  obtain⟨rfl,_⟩:=hc
  exact⟨fun _=>0,f,[],rfl,fun σ' _=>CR_nil,rfl,h,fun x=>by simp,rfl⟩
 | c::cs,cs',e,e',f,s,b,cvs,h,hsep,hc,ht=>by
  simp only[rJ] at ht
  split at ht
  ·rename_i c' e1 b1 h1
   split at ht
   ·rename_i cs1 e2 b2 h2
    simp only[Option.some.injEq,Prod.mk.injEq] at ht
    obtain⟨rfl,rfl,rfl⟩:=ht
    simp only[CR] at hc
    obtain⟨v,vs',g1,g2,rfl,hv,hcs,hff⟩:=hc
    have z1:g1=fun _=>0:=funext fun b=>by have:0=g1 b+g2 b:=hff b;omega
    have z2:g2=fun _=>0:=funext fun b=>by have:0=g1 b+g2 b:=hff b;omega
    subst z1;subst z2
    obtain⟨f1,f2,ks,q1,q2,q3,q4,q5,q6⟩:=Dn h hsep hv h1
    obtain⟨m1,m2,ms,p1,p2,p3,p4,p5,p6⟩:=vz q4 (fun b=>by have:=hsep b;have:=q5 b;omega) hcs h2
    refine⟨fun x=>f1 x+m1 x,m2,ks++ms,lH q1 p1,fun σ' hs=>?_,?_,p4,fun x=>by show f x=f1 x+m1 x+m2 x;have:=q5 x;have:=p5 x;omega,p6.trans q6⟩
    ·have a1:=q2 σ' hs.left
     have a2:=p2 σ' (by have:=hs.right;rwa [jM q1] at this)
     exact CR_cons (qX a1) a2
    ·simp only[hrs,Bool.or_eq_false_iff,Bool.or_false] at q3 ⊢
     exact⟨q3,p3⟩
   ·cases ht
  ·cases ht
theorem zg:∀ {cs cs':List AV} {s:Nat} {ss:List Nat} {vs:List Value} {f:Cnt},oQ s cs=some (cs',ss)→CR P w Φ σ ρ cs vs f →
  (∀ σ',Stm σ σ' s vs→CR P w Φ σ' [] cs' vs f)∧hrs cs'=false∧vs.length=ss.length∧∀ (i s:Nat) (u:Value),ss[i]?=some s→vs[i]?=some u→s≠0→σ s=u
 | [],cs',s,ss,vs,f,ht,hc=>by
  simp only[oQ,Option.some.injEq,Prod.mk.injEq] at ht
  obtain⟨rfl,rfl⟩:=ht
  simp only[CR] at hc
  obtain⟨rfl,hf⟩:=hc
  exact⟨fun σ' _=>by simp only[CR];exact⟨trivial,hf⟩,rfl,rfl,fun i s u h=>by simp at h⟩
 | c::cs,cs',s,ss,vs,f,ht,hc=>by
  simp only[CR] at hc
  obtain⟨v,vs',f1,f2,rfl,hv,hcs,hff⟩:=hc
  rw[show f=fun x=>f1 x+f2 x from funext hff]
  have fin:∀ {c2:AV} {cs2:List AV} {s0:Nat} {ss2:List Nat},oQ (s+1) cs=some (cs2,ss2)→(∀ σ',σ' s=v→Shf σ σ'→VR P w Φ σ' [] c2 v f1)→hr c2=false→(s0≠0→σ s0=v) →
    (∀ σ',Stm σ σ' s (v::vs')→CR P w Φ σ' [] (c2::cs2) (v::vs') (fun x=>f1 x+f2 x))∧hrs (c2::cs2)=false∧(v::vs').length=(s0::ss2).length∧∀ (i s:Nat) (u:Value),(s0::ss2)[i]?=some s→(v::vs')[i]?=some u→s≠0→σ s=u:=by
   intro c2 cs2 s0 ss2 h1 h2 h3 h4
   obtain⟨a1,a2,a3,a4⟩:=zg h1 hcs
   refine⟨fun σ' hs=>CR_cons (h2 σ' (by have:=hs.1 0 v rfl;simpa using this) hs.2) (a1 σ' ⟨fun i u hi=>by
    have:=hs.1 (i+1) u (by simpa using hi)
    rwa [show s+1+i=s+(i+1) by omega],hs.2⟩),by simp only[hrs,h3,a2];rfl,by simp[a3],?_⟩
   intro i s1 u hi hu
   cases i with
   | zero=>simp at hi hu;subst hi;subst hu;exact h4
   | succ i=>simp at hi hu;exact a4 i s1 u hi hu
  cases c with
  | osl s0 t n cs0 =>
   simp only[oQ] at ht
   split at ht
   ·rename_i r' ss2 h1
    simp only[Option.some.injEq,Prod.mk.injEq] at ht
    obtain⟨rfl,rfl⟩:=ht
    simp only[VR] at hv
    obtain⟨hst,hx,xs,g1,ho,hcr,hb⟩:=hv
    refine fin h1 (fun σ' hs hsh=>?_) (by simp[hr,kN,hx]) hst
    simp only[VR]
    exact⟨fun _=>hs,by rw[kN];exact hx,xs,g1,ho,iC w Φ [] (fun _ _=>rfl) (fun _ h=>h) _ _ _ (by rw[kN];exact hx) (fun _ _=>rfl) (vX hsh hcr),hb⟩
   ·cases ht
  | bx s0 t cs0 =>
   simp only[oQ] at ht
   split at ht
   ·rename_i r' ss2 h1
    simp only[Option.some.injEq,Prod.mk.injEq] at ht
    obtain⟨rfl,rfl⟩:=ht
    simp only[VR] at hv
    obtain⟨hst,hx,b2,arr,g3,e2,hg,hcr2,hb⟩:=hv
    refine fin h1 (fun σ' hs hsh=>?_) (by simp[hr,kN,hx]) hst
    simp only[VR]
    exact⟨fun _=>hs,by rw[kN];exact hx,b2,arr,g3,e2,hg,iC w Φ [] (fun _ _=>rfl) (fun _ h=>h) _ _ _ (by rw[kN];exact hx) (fun _ _=>rfl) (vX hsh hcr2),hb⟩
   ·cases ht
  | _=>simp[oQ] at ht
theorem Dl {e:Env} {f:Cnt} {s r g:Nat} {cs':List AV} {e':Env} {b:List Bk} (h:CR P w Φ σ ρ e ρ f) (hsep:∀ b,f b≤1) (ht:EH e s r=some (g,cs',e',b)) :
  ∃ vs:Array Value,ρ[r]?=some (.func (.func g) #[] vs)∧BV P w Φ σ ρ e f s cs' vs.toList e' b:=by
 unfold EH at ht
 split at ht
 ·rename_i g0 caps hr0
  obtain⟨cv,f1,f2,hcv,hvr,hf,hset⟩:=dO r h hr0
  simp only[VR] at hvr
  obtain⟨vs,rfl,hq,hcr⟩:=hvr
  split at ht
  ·rename_i hh
   split at ht
   ·rename_i cs1 e1 b1 h1
    simp only[Option.some.injEq,Prod.mk.injEq] at ht
    obtain⟨rfl,rfl,rfl,rfl⟩:=ht
    -- captured: references and frozen things only,else nothing could be given
    have hz:∀ {cs cs2:List AV} {e1 e2:Env} {s:Nat} {b:List Bk} {vs:List Value} {f1:Cnt},rJ e1 s cs=some (cs2,e2,b)→CR P w Φ σ ρ cs vs f1→∀ x,f1 x=0:=by
     intro cs
     induction cs with
     | nil=>intro cs2 e1 e2 s b vs f1 _ h2 x;simp only[CR] at h2;exact h2.2 x
     | cons c cs ih =>
      intro cs2 e1 e2 s b vs f1 h1 h2 x
      simp only[rJ] at h1
      split at h1
      ·rename_i c' e3 b3 h3
       split at h1
       ·rename_i cs3 e4 b4 h4
        simp only[CR] at h2
        obtain⟨v,vs',k1,k2,rfl,hv,hcs,hff⟩:=h2
        have:=ih h4 hcs x
        have hc0:k1 x=0:=by
         cases c<;>simp only[jq,gY] at h3<;>simp only[VR] at hv<;>first
          | exact hv x
          | exact hv.2 x
          | (rename_i g1 cs1;cases cs1 with
            | nil=>obtain⟨_,_,_,hv⟩:=hv;simp only[CR] at hv;exact hv.2 x
            | cons _ _=>simp at h3)
          | simp at h3
        have:=hff x;omega
       ·cases h1
      ·cases h1
    have hz1:=hz h1 hcr
    exact⟨vs,hcv,vz h hsep (by rw[←Zf hz1];exact hcr) h1⟩
   ·cases ht
  ·split at ht
   ·rename_i hh cs1 ss h1
    simp only[Option.some.injEq,Prod.mk.injEq] at ht
    obtain⟨rfl,rfl,rfl,rfl⟩:=ht
    obtain⟨a1,a2,a3,a4⟩:=zg h1 hcr
    have k:=hset (.gone 0) (.func (.func g0) #[] vs) (fun _=>0) (by unfold VR;exact⟨fun h=>absurd rfl h,fun _=>rfl⟩)
    rw[gW hcv] at k
    refine⟨vs,hcv,f1,f2,vs.toList,⟨vs.toList,[],by simp,a3,by simpa using hcv,a4,rfl⟩,a1,a2,?_,hf,by simp⟩
    have e1:(fun b=>0+f2 b)=f2:=funext fun b=>by simp
    rwa [e1] at k
   ·cases ht
 ·cases ht
theorem KL {e:Env} {f:Cnt} {s:Nat} {v v':AV} {e':Env} {b:List Bk} {cv:Value} (h:CR P w Φ σ ρ e ρ f) (hsep:∀ b,f b≤1) (hc:VR P w Φ σ ρ v cv (fun _=>0)) (ht:EG e s v=some (v',e',b)) :
  BV P w Φ σ ρ e f s [v'] [cv] e' b:=by
 cases v with
 | agg cs =>
  simp only[EG] at ht
  split at ht
  ·rename_i cs' e1 b1 h1
   simp only[Option.some.injEq,Prod.mk.injEq] at ht
   obtain⟨rfl,rfl,rfl⟩:=ht
   simp only[VR] at hc
   obtain⟨arr,rfl,hcr⟩:=hc
   obtain⟨f1,f2,ks,q1,q2,q3,q4,q5,q6⟩:=vz h hsep hcr h1
   refine⟨f1,f2,ks,q1,fun σ' hs=>iG ?_,by simp[hrs,hr,q3],q4,q5,q6⟩
   simp only[VR]
   exact⟨arr,rfl,q2 σ' hs⟩
  ·cases ht
 | pf r p o =>
  simp only[EG] at ht
  split at ht
  ·rename_i hpo
   obtain⟨rfl,rfl⟩:=hpo
   split at ht
   ·rename_i g cs' e1 b1 h1
    simp only[Option.some.injEq,Prod.mk.injEq] at ht
    obtain⟨rfl,rfl,rfl⟩:=ht
    obtain⟨vs,hcv,f1,f2,ks,q1,q2,q3,q4,q5,q6⟩:=Dl h hsep h1
    simp only[VR] at hc
    obtain⟨⟨bo,row,g0,fs,cs,hw,hv,rfl⟩,_⟩:=hc
    have e1:gB (.func (.func g) #[] vs)=[.func (.func g) #[] vs]:=rfl
    have e2:rowOf ρ r=[.func (.func g) #[] vs]:=by simp[rowOf,hcv,gB]
    rw[e2] at hw
    simp only[walk,Option.some.injEq,Prod.mk.injEq] at hw
    obtain⟨rfl,rfl⟩:=hw
    simp at hv
    obtain⟨rfl,rfl,rfl⟩:=hv
    refine⟨f1,f2,ks,q1,fun σ' hs=>iG ?_,by simp[hrs,hr,q3],q4,q5,q6⟩
    simp only[VR]
    exact⟨_,rfl,fun c hc=>.inr (uz q3 c hc),q2 σ' hs⟩
   ·cases ht
  ·cases ht
 | _=>exact Dn h hsep hc (by simpa only[EG] using ht)
end
end Go.AM
namespace Go.AM
open Go
section
variable {P : Program} {w w' : World} {Φ Φ' : Nat → Prop} {σ : Nat → Value} {ρ : List Value}
theorem BZ:∀ (p:List Nat) {cs:List AV} {vs:List Value} {f:Cnt} {row:List AV} (bo:Option Nat),CR P w Φ σ ρ cs (vs.take cs.length) f→rowAt cs p=some row→(∀ b,1≤f b→w'.heap[b]?=w.heap[b]?) →
  walk w' bo vs p=walk w bo vs p
 | [],cs,vs,f,row,bo,_,_,_=>by simp only[walk]
 | o::p,cs,vs,f,row,bo,h,hr,hw=>by
  simp only[rowAt] at hr
  split at hr
  ·rename_i v hv
   split at hr
   ·rename_i ics hi
    obtain⟨cv,f1,f2,hcv,hvr,hf,_⟩:=dO o h hv
    obtain⟨hcv0,_⟩:=dS hcv
    obtain⟨b,t,arr,h1,e1,e2,hcr,hg,_,_⟩:=pM hi hvr
    have hb:w'.heap[b]?=w.heap[b]?:=hw b (by have:=hf b;have:=hg b;simp at this;omega)
    have hbr:jQ w b=some arr.toList:=by simp[jQ,e2]
    have hbr':jQ w' b=some arr.toList:=by simp[jQ,hb,e2]
    simp only[walk,hcv0,e1,hbr,hbr']
    exact BZ p (some b) hcr hr (fun x hx=>hw x (by have:=hf x;have:=hg x;omega))
   ·cases hr
  ·cases hr
theorem GM {e:Env} {f:Cnt} {r:Nat} {p:List Nat} {row:List AV} (h:CR P w Φ σ ρ e ρ f) (hrow:jv e r p=some row) (hw:∀ b,1≤f b→w'.heap[b]?=w.heap[b]?) :
  walk w' none (rowOf ρ r) p=walk w none (rowOf ρ r) p:=by
 obtain⟨v,hv,hd,hg,hra⟩:=pI hrow
 obtain⟨cv,f1,f2,hcv,hvr,hf,_⟩:=dO r h hv
 have hcr:=jA hd hg hvr
 have hro:rowOf ρ r=gB cv:=by simp[rowOf,hcv]
 rw[hro]
 refine BZ (P:=P) (Φ:=Φ) (σ:=σ) (ρ:=ρ) p none (f:=f1) ?_ hra (fun b hb=>hw b (by have:=hf b;omega))
 rw[dm hcr,List.take_length];exact hcr
theorem Oi {e:Env} {bs:List Bk} (h:tC e bs=true):nB bs≤1000:=by
 simp only[tC,Bool.and_eq_true,decide_eq_true_eq] at h;exact h.1
def Iu (e:Env) (bs:List Bk):Bool:=bs.all fun b=>match b with
 | .pl r p _ _=>(jv e r p).isSome
 | .cl _ _ _=>true
 | .sl _ _=>true
theorem Oj {e:Env} {bs:List Bk} (h:tC e bs=true):Iu e bs=true:=by
 simp only[tC,Bool.and_eq_true] at h;exact h.2
theorem wO {e:Env} {f:Cnt} (h:CR P w Φ σ ρ e ρ f) (hw:∀ b,1≤f b→w'.heap[b]?=w.heap[b]?):∀ {bs:List Bk} {ks:List Value},Iu e bs=true→BkR w ρ σ bs ks→BkR w' ρ σ bs ks
 | [],ks,_,hb=>hb
 | .pl r p o s::bs,ks,hok,hb=>by
  simp only[Iu,List.all_cons,Bool.and_eq_true] at hok
  simp only[BkR] at hb ⊢
  obtain⟨v,vs',e1,⟨bo,row,h1,h2⟩,h3,h4⟩:=hb
  obtain⟨row',hr'⟩:=Option.isSome_iff_exists.1 hok.1
  exact⟨v,vs',e1,⟨bo,row,by rw[GM h hr' hw];exact h1,h2⟩,h3,wO h hw hok.2 h4⟩
 | .cl r g ss::bs,ks,hok,hb=>by
  simp only[Iu,List.all_cons,Bool.and_eq_true] at hok
  simp only[BkR] at hb ⊢
  obtain⟨us,vs',e1,h1,h2,h3,h4⟩:=hb
  exact⟨us,vs',e1,h1,h2,h3,wO h hw hok.2 h4⟩
 | .sl r s::bs,ks,hok,hb=>by
  simp only[Iu,List.all_cons,Bool.and_eq_true] at hok
  simp only[BkR] at hb ⊢
  obtain⟨v,vs',e1,h1,h3,h4⟩:=hb
  exact⟨v,vs',e1,h1,h3,wO h hw hok.2 h4⟩
theorem AP {σ':Nat→Value} {ρ':List Value} {s:Nat} {v:AV} {cv:Value} {f:Cnt} (h:VR P w Φ σ' ρ' v cv f) (hsh:Shf σ σ') (hi:Dk v=true) (hs:s≠0→σ s=cv):VR P w Φ σ ρ (CS s v) cv f∧hr (CS s v)=false:=by
 cases v<;>simp[Dk] at hi
 ·simp only[VR] at h
  exact⟨by simp only[CS,VR];exact⟨hs,h.2⟩,rfl⟩
 ·simp only[VR] at h
  obtain⟨_,hx,xs,f1,ho,hcr,hb⟩:=h
  refine⟨?_,by simp[CS,hr,uF,hx]⟩
  simp only[CS,VR]
  exact⟨hs,by rw[uF];exact hx,xs,f1,ho,iC w Φ ρ (fun _ _=>rfl) (fun _ h=>h) _ _ _ (by rw[uF];exact hx) (fun _ _=>rfl) (Gi hsh (by simpa using hi) hcr),hb⟩
 ·simp only[VR] at h
  obtain⟨_,hx,b0,arr,f1,e,hg,hcr,hb⟩:=h
  refine⟨?_,by simp[CS,hr,uF,hx]⟩
  simp only[CS,VR]
  exact⟨hs,by rw[uF];exact hx,b0,arr,f1,e,hg,iC w Φ ρ (fun _ _=>rfl) (fun _ h=>h) _ _ _ (by rw[uF];exact hx) (fun _ _=>rfl) (Gi hsh (by simpa using hi) hcr),hb⟩
theorem CQ {σ':Nat→Value} {ρ':List Value} (hsh:Shf σ σ'):∀ {ss:List Nat} {vs:List AV} {cvs:List Value} {f:Cnt},CR P w Φ σ' ρ' vs cvs f→vs.all Dk=true→vs.length=ss.length →
  (∀ (i s:Nat) (u:Value),ss[i]?=some s→cvs[i]?=some u→s≠0→σ s=u)→CR P w Φ σ ρ (yC ss vs) cvs f∧hrs (yC ss vs)=false
 | [],[],cvs,f,h,_,_,_=>by simp only[yC];exact⟨by simpa only[CR] using h,rfl⟩
 | s::ss,v::vs,cvs,f,h,hi,hl,hs=>by
  simp only[CR] at h
  obtain⟨cv,cvs',f1,f2,rfl,h1,h2,hf⟩:=h
  simp only[List.all_cons,Bool.and_eq_true] at hi
  obtain⟨a1,a2⟩:=AP h1 hsh hi.1 (hs 0 s cv rfl rfl)
  obtain⟨b1,b2⟩:=CQ hsh h2 hi.2 (by simpa using hl) (fun i s u h3 h4=>hs (i+1) s u (by simpa using h3) (by simpa using h4))
  rw[show f=fun x=>f1 x+f2 x from funext hf]
  simp only[yC]
  exact⟨CR_cons a1 b1,by simp[hrs,a2,b2]⟩
 | [],_::_,_,_,_,_,hl,_=>by simp at hl
 | _::_,[],_,_,_,_,hl,_=>by simp at hl
theorem qM {σ':Nat→Value} {e:Env} {f:Cnt} (h:CR P w Φ σ ρ e ρ f) (hsh:Shf σ σ'):∀ {bs:List Bk} {outs:List AV} {ks:List Value} {fo:Cnt} {e2:Env},CR P w Φ σ' [] outs ks fo→outs.all Dk=true→(∀ b,f b+fo b≤1)→BkR w ρ σ bs ks →
  iZ e bs outs=some e2→∃ f',CR P w Φ σ ρ e2 ρ f'∧(∀ b,f' b≤f b+fo b)
 | [],outs,ks,fo,e2,ho,hi,hsep,hb,hp=>by
  cases outs with
  | nil=>simp only[iZ,Option.some.injEq] at hp;subst hp;exact⟨f,h,fun b=>by omega⟩
  | cons o outs=>simp[iZ] at hp
 | .pl r p o s::bs,outs,ks,fo,e2,ho,hi,hsep,hb,hp=>by
  cases outs with
  | nil=>simp[iZ] at hp
  | cons v vs =>
   simp only[BkR] at hb
   obtain⟨cv,cvs',rfl,⟨bo,row,hw,hrow⟩,hs,hb⟩:=hb
   simp only[CR] at ho
   obtain⟨cv2,cvs2,g1,g2,he,h1,h2,hg⟩:=ho
   obtain⟨rfl,rfl⟩:cv=cv2∧cvs'=cvs2:=by simpa using he
   simp only[List.all_cons,Bool.and_eq_true] at hi
   simp only[iZ] at hp
   split at hp
   ·rename_i e1 he1
    obtain⟨f1,hf1,hle1⟩:=qM h hsh h2 hi.2 (fun b=>by have:=hsep b;have:=hg b;omega) hb he1
    split at hp
    ·rename_i rw1 hrw1
     split at hp
     ·rename_i hgone
      simp only[Option.some.injEq] at hp
      subst hp
      have hsep1:∀ b,f1 b≤1:=fun b=>by have:=hsep b;have:=hg b;have:=hle1 b;omega
      obtain⟨bo',cvs,q1,q2,hw',hcr,hf,hset,hpn⟩:=gI hf1 hsep1 hrw1
      rw[hw] at hw'
      obtain⟨rfl,rfl⟩:bo=bo'∧row=cvs:=by simpa using hw'
      obtain⟨u,p1,p2,hu,hvu,hpp,hset2⟩:=dO o hcr hgone
      obtain⟨hu0,_⟩:=dS hu
      rw[hrow] at hu0
      obtain rfl:=Option.some.inj hu0
      obtain⟨a1,a2⟩:=AP (σ:=σ) (ρ:=ρ) h1 hsh hi.1 hs
      have k:=hset2 _ _ _ a1
      rw[gW hu] at k
      have k2:=hset (rw1.set o (CS s v)) _ (by simp) (fun hp=>by
       obtain⟨b,t,arr,_,_,_,_,hh⟩:=hpn hp
       exact wU hh o a2) k
      refine⟨_,k2,fun b=>?_⟩
      show g1 b+p2 b+q2 b≤f b+fo b
      have:=hf b;have:=hpp b;have:=hle1 b;have:=hg b
      omega
     ·cases hp
    ·cases hp
   ·cases hp
 | .sl r s::bs,outs,ks,fo,e2,ho,hi,hsep,hb,hp=>by
  cases outs with
  | nil=>simp[iZ] at hp
  | cons v vs =>
   simp only[BkR] at hb
   obtain⟨cv,cvs',rfl,hr0,hs,hb⟩:=hb
   simp only[CR] at ho
   obtain⟨cv2,cvs2,g1,g2,he,h1,h2,hg⟩:=ho
   obtain⟨rfl,rfl⟩:cv=cv2∧cvs'=cvs2:=by simpa using he
   simp only[List.all_cons,Bool.and_eq_true] at hi
   simp only[iZ] at hp
   split at hp
   ·rename_i e1 he1
    obtain⟨f1,hf1,hle1⟩:=qM h hsh h2 hi.2 (fun b=>by have:=hsep b;have:=hg b;omega) hb he1
    split at hp
    ·rename_i hgone
     simp only[Option.some.injEq] at hp
     subst hp
     obtain⟨a1,a2⟩:=AP (σ:=σ) (ρ:=ρ) h1 hsh hi.1 hs
     obtain⟨u,p1,p2,hu,hvu,hpp,hset2⟩:=dO r hf1 hgone
     rw[hr0] at hu
     obtain rfl:=Option.some.inj hu
     have k:=hset2 _ _ _ a1
     rw[gW hr0] at k
     refine⟨_,k,fun b=>?_⟩
     show g1 b+p2 b≤f b+fo b
     have:=hpp b;have:=hle1 b;have:=hg b
     omega
    ·cases hp
   ·cases hp
 | .cl r g ss::bs,outs,ks,fo,e2,ho,hi,hsep,hb,hp=>by
  simp only[BkR] at hb
  obtain⟨us,cvs',rfl,hul,hr0,hs,hb⟩:=hb
  have hp':(if ss.length≤outs.length then L9 (iZ e bs (outs.drop ss.length)) r g ss outs else none)=some e2:=by
   cases outs<;>simpa only[iZ] using hp
  split at hp'
  ·rename_i hlen
   unfold L9 at hp'
   split at hp'
   ·rename_i e1 he1
    split at hp'
    ·rename_i hgone
     simp only[Option.some.injEq] at hp'
     subst hp'
     obtain⟨m1,m2,c1,c2,hm⟩:=dM ss.length ho
     rw[List.take_left' hul] at c1
     rw[List.drop_left' hul] at c2
     have hi1:(outs.take ss.length).all Dk=true:=List.all_eq_true.2 fun x hx=>List.all_eq_true.1 hi x (List.mem_of_mem_take hx)
     have hi2:(outs.drop ss.length).all Dk=true:=List.all_eq_true.2 fun x hx=>List.all_eq_true.1 hi x (List.mem_of_mem_drop hx)
     obtain⟨f1,hf1,hle1⟩:=qM h hsh c2 hi2 (fun b=>by have:=hsep b;have:=hm b;omega) hb he1
     obtain⟨a1,a2⟩:=CQ (σ:=σ) (ρ:=ρ) hsh c1 hi1 (by simp;omega) hs
     obtain⟨u,p1,p2,hu,hvu,hpp,hset2⟩:=dO r hf1 hgone
     rw[hr0] at hu
     obtain rfl:=Option.some.inj hu
     have k:=hset2 (.fn g (yC ss (outs.take ss.length))) (.func (.func g) #[] us.toArray) m1 (by
      simp only[VR]
      exact⟨_,rfl,fun c hc=>.inr (uz a2 c hc),by simpa using a1⟩)
     rw[gW hr0] at k
     refine⟨_,k,fun b=>?_⟩
     show m1 b+p2 b≤f b+fo b
     have:=hpp b;have:=hle1 b;have:=hm b
     omega
    ·cases hp'
   ·cases hp'
  ·cases hp'
mutual
theorem IJ (ss:List Nat):∀ (v:AV),hr (mpV ss v)=hr v
 | .osl s e n cs=>by simp[mpV,hr,oZ ss cs]
 | .bx s t cs=>by simp[mpV,hr,oZ ss cs]
 | .agg cs=>by simp[mpV,hr,oZ ss cs]
 | .tup sh cs=>by simp[mpV,hr,oZ ss cs]
 | .fn g cs=>by simp[mpV,hr,oZ ss cs]
 | .gone _=>by simp[mpV,hr]
 | .dead | .int _ _ | .bool _ | .str _ | .nilf | .nilp | .nsl _ | .rsl _ _ | .rp _ | .ps _ _ _ | .pp _ _ _ | .pf _ _ _ | .pw _ _ _ _ _ _=>by simp[mpV]
theorem oZ (ss:List Nat):∀ (cs:List AV),hrs (rP ss cs)=hrs cs
 | []=>by simp[rP]
 | c::cs=>by simp[rP,hrs,IJ ss c,oZ ss cs]
end
theorem TS (ss:List Nat) (v:AV):eU (mpV ss v)=eU v:=by cases v<;>simp[mpV,eU]
theorem NI (ss:List Nat) {cs:List AV} (h:∀ c∈cs,eU c=true∨hr c=false):∀ c∈rP ss cs,eU c=true∨hr c=false:=by
 induction cs with
 | nil=>simp[rP]
 | cons c cs ih =>
  intro x hx
  simp only[rP,List.mem_cons] at hx
  rcases hx with rfl|hx
  ·rw[TS,IJ];exact h c (by simp)
  ·exact ih (fun y hy=>h y (by simp[hy])) x hx
theorem yM {ss:List Nat} {s:Nat} (h:Ef ss s≠0):s≠0:=by
 rintro rfl
 exact h rfl
section
variable {σ' : Nat → Value} {ss : List Nat} (hs : ∀ s, s ≠ 0 → Ef ss s ≠ 0 → σ (Ef ss s) = σ' s)
include hs
mutual
theorem OY:∀ (v:AV) (cv:Value) (f:Cnt),VR P w Φ σ' ρ v cv f→VR P w Φ σ ρ (mpV ss v) cv f
 | .osl s e n cs,cv,f,h=>by
  simp only[mpV,VR] at h ⊢
  obtain⟨h0,hx,xs,f1,ho,hc,hb⟩:=h
  exact⟨fun h1=>by rw[hs s (yM h1) h1];exact h0 (yM h1),by rw[oZ];exact hx,xs,f1,ho,uk cs _ _ hc,hb⟩
 | .bx s t cs,cv,f,h=>by
  simp only[mpV,VR] at h ⊢
  obtain⟨h0,hx,b0,arr,f1,e,hg,hc,hb⟩:=h
  exact⟨fun h1=>by rw[hs s (yM h1) h1];exact h0 (yM h1),by rw[oZ];exact hx,b0,arr,f1,e,hg,uk cs _ _ hc,hb⟩
 | .agg cs,cv,f,h=>by
  simp only[mpV,VR] at h ⊢
  obtain⟨arr,e,hc⟩:=h
  exact⟨arr,e,uk cs _ _ hc⟩
 | .tup sh cs,cv,f,h=>by
  simp only[mpV,VR] at h ⊢
  obtain⟨arr,e,hq,hc⟩:=h
  exact⟨arr,e,hq,uk cs _ _ hc⟩
 | .fn g cs,cv,f,h=>by
  simp only[mpV,VR] at h ⊢
  obtain⟨vs,e,hq,hc⟩:=h
  exact⟨vs,e,NI ss hq,uk cs _ _ hc⟩
 | .gone s,cv,f,h=>by
  simp only[mpV,VR] at h ⊢
  exact⟨fun h1=>by rw[hs s (yM h1) h1];exact h.1 (yM h1),h.2⟩
 | .dead,cv,f,h | .int _ _,cv,f,h | .bool _,cv,f,h | .str _,cv,f,h | .nilf,cv,f,h | .nilp,cv,f,h | .nsl _,cv,f,h | .rsl _ _,cv,f,h | .rp _,cv,f,h | .ps _ _ _,cv,f,h | .pp _ _ _,cv,f,h | .pf _ _ _,cv,f,h | .pw _ _ _ _ _ _,cv,f,h =>
  sig σ _ _ _ (.inl rfl) h
theorem uk:∀ (cs:List AV) (vs:List Value) (f:Cnt),CR P w Φ σ' ρ cs vs f→CR P w Φ σ ρ (rP ss cs) vs f
 | [],vs,f,h=>by simpa only[rP,CR] using h
 | c::cs,vs,f,h=>by
  simp only[rP,CR] at h ⊢
  obtain⟨v,vs',f1,f2,e,h1,h2,hb⟩:=h
  exact⟨v,vs',f1,f2,e,OY c _ _ h1,uk cs _ _ h2,hb⟩
end
end
theorem ET:∀ {bs:List Bk} {vs:List Value},BkR w ρ σ bs vs→∀ (i s:Nat) (v:Value),(wW bs)[i]?=some s→vs[i]?=some v→s≠0→σ s=v
 | [],vs,h,i,s,v,hi,_,_=>by simp[wW] at hi
 | .pl r p o t::bs,vs,h,i,s,v,hi,hv,hz=>by
  simp only[BkR] at h
  obtain⟨u,vs',rfl,_,h1,h2⟩:=h
  cases i with
  | zero=>simp[wW] at hi hv;subst hi hv;exact h1 hz
  | succ i=>exact ET h2 i s v (by simpa [wW] using hi) (by simpa using hv) hz
 | .sl r t::bs,vs,h,i,s,v,hi,hv,hz=>by
  simp only[BkR] at h
  obtain⟨u,vs',rfl,_,h1,h2⟩:=h
  cases i with
  | zero=>simp[wW] at hi hv;subst hi hv;exact h1 hz
  | succ i=>exact ET h2 i s v (by simpa [wW] using hi) (by simpa using hv) hz
 | .cl r g ts::bs,vs,h,i,s,v,hi,hv,hz=>by
  simp only[BkR] at h
  obtain⟨us,vs',rfl,hl,_,h1,h2⟩:=h
  simp only[wW] at hi
  by_cases hlt:i<ts.length
  ·rw[List.getElem?_append_left hlt] at hi
   rw[List.getElem?_append_left (by omega)] at hv
   exact h1 i s v hi hv hz
  ·rw[List.getElem?_append_right (by omega)] at hi
   rw[List.getElem?_append_right (by omega),hl] at hv
   exact ET h2 _ s v hi hv hz
theorem wK:∀ {bs:List Bk},(wW bs).length=nB bs
 | []=>rfl
 | .pl _ _ _ _::bs=>by simp[wW,nB,wK (bs:=bs)]
 | .cl _ _ ss::bs=>by simp[wW,nB,wK (bs:=bs)];omega
 | .sl _ _::bs=>by simp[wW,nB,wK (bs:=bs)]
theorem Nu {σ':Nat→Value} {bs:List Bk} {ks:List Value} {v:AV} {cv:Value} {f:Cnt} (hb:BkR w ρ σ bs ks) (hst:Stm σ σ' 1 ks) {w':World} {Φ':Nat→Prop} (hv:VR P w' Φ' σ' ρ v cv f):VR P w' Φ' σ ρ (CO bs v) cv f:=by
 unfold CO
 split
 ·rename_i hn;exact sig σ _ _ _ (.inl hn) hv
 ·refine OY (fun s hz hp=>?_) _ _ _ hv
  unfold Ef at hp ⊢
  rw[if_neg hz] at hp ⊢
  by_cases h1:s≤1000
  ·rw[if_pos h1] at hp ⊢
   have hl:=jM hb
   rw[List.getD_eq_getElem?_getD] at hp ⊢
   cases hg:(wW bs)[s-1]? with
   | none=>rw[hg] at hp;exact absurd rfl hp
   | some t =>
    rw[hg] at hp
    have hlt:=(List.getElem?_eq_some_iff.1 hg).1
    rw[wK] at hlt
    have hk:ks[s-1]?=some (ks[s-1]'(by omega)):=List.getElem?_eq_getElem (by omega)
    have:=hst.1 _ _ hk
    rw[show 1+(s-1)=s by omega] at this
    rw[this]
    exact ET hb _ _ _ hg hk hp
  ·rw[if_neg h1] at hp ⊢
   have:=hst.2 (s-1000) (by omega)
   rw[show s-1000+1000=s by omega] at this
   exact this.symm
theorem Tm {bs:List Bk} {v:AV}:hr (CO bs v)=hr v:=by unfold CO;split;rfl;exact IJ _ v
theorem xI {ν:List Nat} {a:Act}:∀ {args:List (Opd × Bool)} {xs:List Operand} {e e':Env} {f:Cnt} {s:Nat} {b:List Bk} {vs:List (Option AV)},CR P w Φ σ ρ e ρ f→LK ν ρ e a.tmps→(∀ b,f b≤1)→nI ν xs (args.map (·.1))=true →
  qO e s args=some (e',b,vs)→∃ f1 f2 ks,BkR w ρ σ b ks∧CR P w Φ σ ρ e' ρ f2∧(∀ x,f x=f1 x+f2 x)∧e'.length=e.length ∧
   ∀ (e2:Env) (f3:Cnt) (Φ':Nat→Prop) (avs:List AV) (live:Bool) (σ':Nat→Value),CR P w Φ σ ρ e2 ρ f3→(∀ b,f3 b≤1)→(∀ b,Φ b→Φ' b)→pF e2 args vs=some (avs,live)→(live=true→∀ b,1≤f3 b→Φ' b)→Stm σ σ' s ks →
    CR P w Φ' σ' [] avs (xs.map a.eval) f1∧hrs avs=false
 | [],xs,e,e',f,s,b,vs,h,hl,hsep,hx,ht=>by
  cases xs with
  | cons x xs=>simp[nI] at hx
  | nil =>
   simp only[qO,Option.some.injEq,Prod.mk.injEq] at ht
   obtain⟨rfl,rfl,rfl⟩:=ht
   refine⟨fun _=>0,f,[],rfl,h,fun x=>by simp,rfl,fun e2 f3 Φ' avs live σ' _ _ _ hg _ _=>?_⟩
   simp only[pF,Option.some.injEq,Prod.mk.injEq] at hg
   obtain⟨rfl,rfl⟩:=hg
   exact⟨CR_nil,rfl⟩
 | (y,false)::args,xs,e,e',f,s,b,vs,h,hl,hsep,hx,ht=>by
  cases xs with
  | nil=>simp[nI] at hx
  | cons x xs =>
   simp only[List.map_cons,nI,Bool.and_eq_true] at hx
   simp only[qO] at ht
   split at ht
   ·rename_i e1 b1 vs1 h1
    simp only[Option.some.injEq,Prod.mk.injEq] at ht
    obtain⟨rfl,rfl,rfl⟩:=ht
    obtain⟨f1,f2,ks,q1,q2,q3,q4,q5⟩:=xI h hl hsep hx.2 h1
    refine⟨f1,f2,ks,q1,q2,q3,q4,fun e2 f3 Φ' avs live σ' hc2 hs3 hsub hg hlv hst=>?_⟩
    simp only[pF] at hg
    split at hg
    ·rename_i v hv
     split at hg
     ·rename_i v' b2 hv2
      split at hg
      ·rename_i us b3 hg2
       simp only[Option.some.injEq,Prod.mk.injEq] at hg
       obtain⟨rfl,rfl⟩:=hg
       obtain⟨a1,a2⟩:=q5 e2 f3 Φ' us b3 σ' hc2 hs3 hsub hg2 (fun hb=>hlv (by simp[hb])) hst
       obtain⟨k1,k2⟩:=Cm hc2 hs3 Φ' hsub hv2 (dC (a:=a) hc2 (fun j cv hj=>hl j cv hj) hx.1 hv _ (fun _=>rfl)) (fun hb=>hlv (by simp[hb]))
       have k3:=k2 []
       have k4:VR P w Φ' σ' [] v' (a.eval x) (fun _=>0):=sig σ' _ _ _ (.inl (He hv2)) k3
       refine⟨?_,by simp[hrs,k1,a2]⟩
       have:=CR_cons k4 a1
       simpa using this
      ·cases hg
     ·split at hg
      ·split at hg
       ·rename_i us b3 hg2
        simp only[Option.some.injEq,Prod.mk.injEq] at hg
        obtain⟨rfl,rfl⟩:=hg
        obtain⟨a1,a2⟩:=q5 e2 f3 Φ' us b3 σ' hc2 hs3 hsub hg2 hlv hst
        refine⟨?_,by simp[hrs,hr,a2]⟩
        have:=CR_cons (v:=a.eval x) (f1:=fun _=>0) (show VR P w Φ' σ' [] .dead (a.eval x) (fun _=>0) by simp only[VR];intro b;trivial) a1
        simpa using this
       ·cases hg
      ·cases hg
    ·cases hg
   ·cases ht
 | (y,true)::args,xs,e,e',f,s,b,vs,h,hl,hsep,hx,ht=>by
  cases xs with
  | nil=>simp[nI] at hx
  | cons x xs =>
   simp only[List.map_cons,nI,Bool.and_eq_true] at hx
   simp only[qO] at ht
   split at ht
   ·rename_i v hv
    split at ht
    ·rename_i v' e1 b1 h1
     split at ht
     ·rename_i e2 b2 vs2 h2
      simp only[Option.some.injEq,Prod.mk.injEq] at ht
      obtain⟨rfl,rfl,rfl⟩:=ht
      obtain⟨g1,g2,ks,p1,p2,p3,p4,p5,p6⟩:=KL h hsep (dC h hl hx.1 hv _ (fun _=>rfl)) h1
      obtain⟨f1,f2,ms,q1,q2,q3,q4,q5⟩:=xI p4 (fun j cv hj=>hl j cv hj) (fun b=>by have:=hsep b;have:=p5 b;omega) hx.2 h2
      refine⟨fun x=>g1 x+f1 x,f2,ks++ms,lH p1 q1,q2,fun x=>by show f x=g1 x+f1 x+f2 x;have:=p5 x;have:=q3 x;omega,q4.trans p6,fun e3 f3 Φ' avs live σ' hc2 hs3 hsub hg hlv hst=>?_⟩
      simp only[pF] at hg
      split at hg
      ·rename_i us b3 hg2
       simp only[Option.some.injEq,Prod.mk.injEq] at hg
       obtain⟨rfl,rfl⟩:=hg
       obtain⟨a1,a2⟩:=q5 e3 f3 Φ' us b3 σ' hc2 hs3 hsub hg2 hlv (by have:=hst.right;rwa [jM p1] at this)
       have k1:=qX (p2 σ' hst.left)
       have k2:hr v'=false:=by simpa [hrs] using p3
       exact⟨CR_cons (uM w Φ' [] (fun _ _=>rfl) hsub _ _ _ k2 (fun _ _=>rfl) k1) a1,by simp[hrs,k2,a2]⟩
      ·cases hg
     ·cases ht
    ·cases ht
   ·cases ht
theorem xO:∀ (p q:List Nat) (bo:Option Nat) (vs:List Value) (r:Option Nat × List Value),walk w bo vs (p++q)=some r→∃ bo1 vs1,walk w bo vs p=some (bo1,vs1)∧walk w bo1 vs1 q=some r
 | [],q,bo,vs,r,h=>⟨bo,vs,rfl,h⟩
 | o::p,q,bo,vs,r,h=>by
  simp only[List.cons_append,walk] at h ⊢
  cases h1:vs[o]? with
  | none=>simp[h1] at h
  | some u =>
   cases h2:hblk u with
   | none=>simp[h1,h2] at h
   | some b1 =>
    cases h3:jQ w b1 with
    | none=>simp[h1,h2,h3] at h
    | some r1 =>
     simp only[h1,h2,h3] at h
     simp only[h2,h3]
     exact xO p q _ _ r h
def aue (w:World) (ρ:List Value) (cargs:List Value) (x:Nat × Nat × List Nat):Prop:=∃ b row,walk w none (rowOf ρ x.2.1) x.2.2=some (some b,row)∧cargs[x.1]?=some (.pointer (some ⟨b,0,none⟩))
theorem yh {ν:List Nat} {a:Act} {e:Env} {f:Cnt} (h:CR P w Φ σ ρ e ρ f) (hl:LK ν ρ e a.tmps):∀ {args:List (Opd × Bool)} {xs:List Operand} (j:Nat) (pre:List Value),pre.length=j→nI ν xs (args.map (·.1))=true →
  ∀ x∈kY e j args,∀ post,aue w ρ (pre++xs.map a.eval++post) x
 | [],xs,j,pre,hj,hx,x,hm,post=>by simp[kY] at hm
 | (y,b)::args,xs,j,pre,hj,hx,x,hm,post=>by
  cases xs with
  | nil=>simp[nI] at hx
  | cons z xs =>
   simp only[List.map_cons,nI,Bool.and_eq_true] at hx
   have ih:=yh h hl (args:=args) (xs:=xs) (j+1) (pre++[a.eval z]) (by simp[hj]) hx.2 x
   have e1:pre++(z::xs).map a.eval++post=pre++[a.eval z]++xs.map a.eval++post:=by simp
   rw[e1]
   cases b with
   | false=>simp only[kY] at hm;exact ih hm post
   | true =>
    simp only[kY] at hm
    split at hm
    ·rename_i r p hv
     rcases List.mem_cons.1 hm with rfl|hm
     ·have c1:=dC h hl hx.1 hv (fun _=>0) (fun _=>rfl)
      simp only[VR] at c1
      obtain⟨⟨b0,row,hw,e0⟩,_⟩:=c1
      refine⟨b0,row,hw,?_⟩
      rw[e0,List.append_assoc,List.append_assoc,List.getElem?_append_right (by omega)]
      simp[hj]
     ·exact ih hm post
    ·exact ih hm post
theorem GU {cargs:List Value} {gl:List (Nat × Nat × List Nat)} (hg:∀ x∈gl,aue w ρ cargs x) {r:Nat} {p:List Nat} {o:Nat} {cv:Value} {g:Cnt} {Φ':Nat→Prop} {σ':Nat→Value} (hv:VR P w Φ σ ρ (.pp r p o) cv g):VR P w Φ' σ' cargs (yJ gl r p o) cv (fun _=>0):=by
 induction gl with
 | nil=>simp only[yJ,VR];intro b;trivial
 | cons x gl ih =>
  obtain⟨j,r',p'⟩:=x
  simp only[yJ]
  split
  ·rename_i hc
   obtain⟨rfl,hpre,hne⟩:=hc
   obtain⟨q,rfl⟩:=List.isPrefixOf_iff_prefix.1 hpre
   obtain⟨b,row,hw,hcj⟩:=hg (j,r',p') (by simp)
   simp only at hw hcj
   simp only[VR] at hv ⊢
   obtain⟨⟨b0,row0,hw0,rfl⟩,_⟩:=hv
   obtain⟨bo1,vs1,k1,k2⟩:=xO _ _ _ _ _ hw0
   rw[hw] at k1
   obtain⟨rfl,rfl⟩:some b=bo1∧row=vs1:=by simpa using k1
   have hbr:jQ w b=some row:=by
    obtain⟨p1,k,rfl⟩:∃ p1 k,p'=p1++[k]:=⟨p'.dropLast,p'.getLast hne,(List.dropLast_concat_getLast hne).symm⟩
    obtain⟨_,_,_,b2,_,_,_,h4,h5⟩:=lm _ _ _ _ _ _ hw
    obtain rfl:=Option.some.inj h5
    exact h4
   have hro:rowOf cargs j=[.pointer (some ⟨b,0,none⟩)]:=by simp[rowOf,hcj,gB]
   refine⟨⟨b0,row0,?_,rfl⟩,fun _=>trivial⟩
   rw[hro,List.drop_left]
   simp only[walk,List.getElem?_cons_zero,hblk,hbr]
   exact k2
  ·exact ih fun y hy=>hg y (by simp[hy])
theorem I9 {ν:List Nat} {a:Act} {e:Env} {f:Cnt} (h:CR P w Φ σ ρ e ρ f) (hl:LK ν ρ e a.tmps) {gl:List (Nat × Nat × List Nat)} {cargs:List Value} (hg:∀ x∈gl,aue w ρ cargs x) {Φ':Nat→Prop} {σ':Nat→Value} :
  ∀ {args:List (Opd × Bool)} {xs:List Operand} {avs:List AV} {fa:Cnt},nI ν xs (args.map (·.1))=true→hrs avs=false→CR P w Φ' σ' [] avs (xs.map a.eval) fa→CR P w Φ' σ' cargs (upg e gl args avs) (xs.map a.eval) fa
 | [],xs,avs,fa,hx,hh,hc=>by
  simp only[upg]
  exact iC w Φ' cargs (fun _ _=>rfl) (fun _ h=>h) _ _ _ hh (fun _ _=>rfl) hc
 | (y,b)::args,xs,avs,fa,hx,hh,hc=>by
  cases xs with
  | nil=>simp[nI] at hx
  | cons z xs =>
   simp only[List.map_cons,nI,Bool.and_eq_true] at hx
   cases avs with
   | nil=>simp only[List.map_cons,CR] at hc;cases hc.1
   | cons v avs =>
    simp only[hrs,Bool.or_eq_false_iff] at hh
    simp only[List.map_cons,CR] at hc ⊢
    obtain⟨cv,vs',f1,f2,he,h1,h2,hf⟩:=hc
    simp only[List.cons.injEq] at he
    obtain⟨rfl,rfl⟩:=he
    have ih:=I9 h hl hg (args:=args) hx.2 hh.2 h2
    have keep:VR P w Φ' σ' cargs v (a.eval z) f1:=uM w Φ' cargs (fun _ _=>rfl) (fun _ h=>h) _ _ _ hh.1 (fun _ _=>rfl) h1
    have plain:upg e gl ((y,b)::args) (v::avs)=v::upg e gl args avs→CR P w Φ' σ' cargs (upg e gl ((y,b)::args) (v::avs)) (a.eval z::xs.map a.eval) fa:=fun e1=>by
     rw[e1];simp only[CR]
     exact⟨_,_,f1,f2,rfl,keep,ih,hf⟩
    cases v with
    | dead =>
     simp only[upg,CR]
     refine⟨_,_,f1,f2,rfl,?_,ih,hf⟩
     have hz:f1=fun _=>0:=funext (by simpa only[VR] using h1)
     split
     ·rename_i r p o hv
      rw[hz]
      exact GU hg (dC h hl hx.1 hv (fun _=>0) (fun _=>rfl))
     ·simpa only[VR] using h1
    | _=>exact plain (by simp only[upg])
theorem H8 {c:AV} (h:gY c=true):oz c=true:=by simp[oz,h]
theorem DI:∀ {cs:List AV},cs.all gY=true→hrs cs=false∧gJ cs=true
 | [],_=>⟨rfl,rfl⟩
 | c::cs,h=>by
  simp only[List.all_cons,Bool.and_eq_true] at h
  obtain⟨h1,h2⟩:=DI h.2
  exact⟨by simp[hrs,jY h.1,h1],by simp[gJ,xH h.1,h2]⟩
theorem Jl {e:Env} {f:Cnt} {r g:Nat} {caps:List AV} {cv:Value} (h:CR P w Φ σ ρ e ρ f) (hr0:e[r]?=some (.fn g caps)) (hv:VR P w Φ σ ρ (.pf r [] 0) cv (fun _=>0)) :
  ∃ (vs:Array Value) (f1 f2:Cnt),ρ[r]?=some (.func (.func g) #[] vs)∧cv=.func (.func g) #[] vs∧CR P w Φ σ ρ caps vs.toList f1∧∀ b,f b=f1 b+f2 b:=by
 obtain⟨cv',f1,f2,hcv,hvr,hf,_⟩:=dO r h hr0
 simp only[VR] at hvr
 obtain⟨vs,rfl,hq,hcr⟩:=hvr
 simp only[VR] at hv
 obtain⟨⟨bo,row,g0,fs,cs,hw,hv0,rfl⟩,_⟩:=hv
 have e2:rowOf ρ r=[.func (.func g) #[] vs]:=by simp[rowOf,hcv,gB]
 rw[e2] at hw
 simp only[walk,Option.some.injEq,Prod.mk.injEq] at hw
 obtain⟨rfl,rfl⟩:=hw
 simp at hv0
 obtain⟨rfl,rfl,rfl⟩:=hv0
 exact⟨_,f1,f2,hcv,rfl,hcr,hf⟩
theorem yt {ν:List Nat} {a:Act} {e:Env} {f:Cnt} {y:Operand} {x:Opd} {g:Nat} {caps:List AV} (h:CR P w Φ σ ρ e ρ f) (hl:LK ν ρ e a.tmps) (hx:okX ν y x=true) (ht:ku e x=some (g,caps)) :
  ∃ vs:Array Value,a.eval y=.func (.func g) #[] vs∧hrs caps=false∧gJ caps=true∧∀ (Φ':Nat→Prop) (σ':Nat→Value) (ρ':List Value),(∀ b,Φ b→Φ' b)→CR P w Φ' σ' ρ' caps vs.toList (fun _=>0):=by
 unfold ku at ht
 split at ht
 ·rename_i g0 hv
  simp only[Option.some.injEq,Prod.mk.injEq] at ht
  obtain⟨rfl,rfl⟩:=ht
  have:=dC (a:=a) h hl hx hv _ (fun _=>rfl)
  simp only[VR,CR] at this
  obtain⟨vs,e1,_,e2,_⟩:=this
  exact⟨vs,e1,rfl,rfl,fun _ _ _ _=>by rw[e2];exact CR_nil⟩
 ·rename_i r p o hv
  split at ht
  ·rename_i hpo
   obtain⟨rfl,rfl⟩:=hpo
   split at ht
   ·rename_i g0 caps0 hr0
    split at ht
    ·rename_i hz
     simp only[Option.some.injEq,Prod.mk.injEq] at ht
     obtain⟨rfl,rfl⟩:=ht
     obtain⟨vs,f1,f2,h1,h2,h3,h4⟩:=Jl h hr0 (dC (a:=a) h hl hx hv _ (fun _=>rfl))
     obtain⟨k1,k2⟩:=DI hz
     have h0:=Am (List.all_eq_true.2 fun c hc=>H8 (List.all_eq_true.1 hz c hc)) h3
     refine⟨vs,h2,k1,k2,fun Φ' σ' ρ' hs=>?_⟩
     rw[Zf h0] at h3
     exact sigs σ' k2 (iC w Φ' ρ' (fun _ _=>rfl) hs _ _ _ k1 (fun _ _=>rfl) h3)
    ·cases ht
   ·cases ht
  ·cases ht
 ·cases ht
theorem Fp {ν:List Nat} {a:Act} {e e':Env} {f:Cnt} {s:Nat} {b:List Bk} {y:Operand} {x:Opd} {g:Nat} {caps:List AV} (h:CR P w Φ σ ρ e ρ f) (hl:LK ν ρ e a.tmps) (hsep:∀ b,f b≤1) (hx:okX ν y x=true) (ht:mP e s x=some (g,caps,e',b)) :
  ∃ vs:Array Value,a.eval y=.func (.func g) #[] vs∧BV P w Φ σ ρ e f s caps vs.toList e' b:=by
 unfold mP at ht
 split at ht
 ·rename_i g0 caps0 hc
  simp only[Option.some.injEq,Prod.mk.injEq] at ht
  obtain⟨rfl,rfl,rfl,rfl⟩:=ht
  obtain⟨vs,h1,h2,h3,h4⟩:=yt h hl hx hc
  exact⟨vs,h1,fun _=>0,f,[],rfl,fun σ' _=>h4 Φ σ' [] (fun _ h=>h),h2,h,fun x=>by simp,rfl⟩
 ·split at ht
  ·rename_i r p o hv
   split at ht
   ·rename_i hpo
    obtain⟨rfl,rfl⟩:=hpo
    obtain⟨vs,h1,h2⟩:=Dl h hsep ht
    have hv2:=dC (a:=a) h hl hx hv _ (fun _=>rfl)
    have:∃ caps0,e[r]?=some (.fn g caps0):=by
     unfold EH at ht
     split at ht
     ·rename_i g0 caps0 hr0
      refine⟨caps0,?_⟩
      rw[hr0]
      split at ht
      ·split at ht
       ·simp only[Option.some.injEq,Prod.mk.injEq] at ht;rw[ht.1]
       ·cases ht
      ·split at ht
       ·simp only[Option.some.injEq,Prod.mk.injEq] at ht;rw[ht.1]
       ·cases ht
     ·cases ht
    obtain⟨caps0,hr0⟩:=this
    obtain⟨vs2,f1,f2,k1,k2,_,_⟩:=Jl h hr0 hv2
    rw[h1] at k1
    obtain rfl:vs=vs2:=by simpa using k1
    exact⟨vs,k2,h2⟩
   ·cases ht
  ·cases ht
end
end Go.AM
namespace Go.AM
open Go
structure Cx where
 w0:World
 Φ0:Nat→Prop
 fa:Cnt
 σ:Nat→Value
structure St (P:Program) (C:Cx) (ν:List Nat) (n:Nat) (e:Env) (ρ:List Value) (tmps:Array Value) (w:World) (Φ:Nat→Prop) (f:Cnt):Prop where
 rel:CR P w Φ C.σ ρ e ρ f
 lk:LK ν ρ e tmps
 inv:Inv P w Φ f
 ext:Ext C.w0 w C.fa
 sub:∀ b,C.Φ0 b→Φ b
 new:∀ b,Φ b→C.Φ0 b∨1≤C.fa b∨C.w0.heap.size≤b
 own:∀ b,1≤f b→1≤C.fa b∨C.w0.heap.size≤b
 size:tmps.size=n
theorem Ext.trans {w0 w w':World} {fa f:Cnt} (h:Ext w0 w fa) (h':Ext w w' f) (ho:∀ b,1≤f b→1≤fa b∨w0.heap.size≤b):Ext w0 w' fa :=
 ⟨h'.os.trans h.os,h'.tape.trans h.tape,h'.output.trans h.output,Nat.le_trans h.size h'.size,fun b hb h0=>by
  rw[h'.block b (Nat.lt_of_lt_of_le hb h.size) (by
   have:=ho b
   by_cases h1:1≤f b
   ·rcases this h1 with h2|h2<;>omega
   ·omega)]
  exact h.block b hb h0⟩
section
variable {P : Program} {C : Cx} {ν : List Nat} {n : Nat} {e : Env} {ρ : List Value} {tmps : Array Value} {w : World} {Φ : Nat → Prop} {f : Cnt}
theorem C9:∀ {l:List Nat} {i j t:Nat},l.Nodup→l[i]?=some t→l[j]?=some t→i=j
 | [],i,j,t,_,h,_=>by simp at h
 | x::l,0,0,t,_,_,_=>rfl
 | x::l,0,j+1,t,hn,h,h'=>by
  simp at h h';subst h
  exact absurd (List.mem_of_getElem? h') (List.nodup_cons.1 hn).1
 | x::l,i+1,0,t,hn,h,h'=>by
  simp at h h';subst h'
  exact absurd (List.mem_of_getElem? h) (List.nodup_cons.1 hn).1
 | x::l,i+1,j+1,t,hn,h,h'=>by
  simp at h h'
  rw[C9 (List.nodup_cons.1 hn).2 h h']
theorem Rj {d t:Nat} {cv:Value} (hl:LK ν ρ e tmps) (hν:ν.Nodup) (hd:ν[d]?=some t) (ht:t<tmps.size) (e':Env):LK ν (ρ.set d cv) e' (tmps.setIfInBounds t cv):=by
 intro j u hj
 by_cases hjd:d=j
 ·subst hjd
  rw[List.getElem?_set] at hj
  simp at hj
  obtain⟨_,rfl⟩:=hj
  exact .inr ⟨t,hd,by simp[ht]⟩
 ·rw[List.getElem?_set_ne hjd] at hj
  rcases hl j u hj with rfl|⟨t',h1,h2⟩
  ·exact .inl rfl
  ·refine .inr ⟨t',h1,?_⟩
   have hne:t≠t':=by
    rintro rfl
    exact hjd (C9 hν hd h1)
   rw[←h2]
   simp[Array.getD_eq_getD_getElem?,Array.getElem?_setIfInBounds_ne hne]
theorem aGM {w':World} {v:AV} {cv:Value} {e':Env} (hst:St P C ν n e ρ tmps w Φ f) {f1 f2:Cnt} (hext:Ext w w' f)
  (hsep:∀ b,f1 b+f2 b≤1) (hown:∀ b,1≤f1 b+f2 b→(1≤f b∨w.heap.size≤b)∧b<w'.heap.size) {g:Cnt} (hg:∀ b,g b≤f1 b+f2 b) :
  Inv P w' Φ g∧Ext C.w0 w' C.fa∧(∀ b,1≤g b→1≤C.fa b∨C.w0.heap.size≤b):=by
 refine⟨⟨fun b=>Nat.le_trans (hg b) (hsep b),fun b hb=>(hown b (Nat.le_trans hb (hg b))).2,fun b hb=>Nat.lt_of_lt_of_le (hst.inv.fz b hb) hext.size,fun b hb=>?_,iT hst.inv.tab (fun b hb=>hext.block b (hst.inv.fz b hb) (hst.inv.apart b hb)) (fun _ h=>h)⟩,hst.ext.trans hext hst.own,fun b hb=>?_⟩
 ·by_cases h1:1≤g b
  ·rcases (hown b (Nat.le_trans h1 (hg b))).1 with h2|h2
   ·have:=hst.inv.apart b hb;omega
   ·have:=hst.inv.fz b hb;omega
  ·omega
 ·rcases (hown b (Nat.le_trans hb (hg b))).1 with h2|h2
  ·exact hst.own b h2
  ·exact .inr (Nat.le_trans hst.ext.size h2)
theorem Inv.le {P:Program} {w:World} {Φ:Nat→Prop} {f g:Cnt} (h:Inv P w Φ f) (hg:∀ b,g b≤f b):Inv P w Φ g :=
 ⟨fun b=>Nat.le_trans (hg b) (h.sep b),fun b hb=>h.lt b (Nat.le_trans hb (hg b)),h.fz,fun b hb=>by have:=h.apart b hb;have:=hg b;omega,h.tab⟩
theorem Bh {P:Program} {w:World} {Φ:Nat→Prop} {σ:Nat→Value} {ρ:List Value} {j:Nat} {x:Value} {c:AV} {v:Value} {f:Cnt} (h:VR P w Φ σ ρ c v f) (hc:sQ j c=true):VR P w Φ σ (ρ.set j x) c v f:=by
 have other:pz c=false→VR P w Φ σ (ρ.set j x) c v f:=fun hr=>uM w Φ (ρ.set j x) (fun _ _=>rfl) (fun _ h=>h) c v f (wG h hr) (fun _ _=>rfl) h
 cases c with
 | ps r p o =>
  simp only[sQ,bne_iff_ne] at hc
  simp only[VR] at h ⊢
  rw[lM hc];exact h
 | pp r p o =>
  simp only[sQ,bne_iff_ne] at hc
  simp only[VR] at h ⊢
  rw[lM hc];exact h
 | pf r p o =>
  simp only[sQ,bne_iff_ne] at hc
  simp only[VR] at h ⊢
  rw[lM hc];exact h
 | pw r p o lo m sz =>
  simp only[sQ,bne_iff_ne] at hc
  simp only[VR] at h ⊢
  rw[lM hc];exact h
 | _=>exact other (by simpa [sQ] using hc)
theorem Bo {P:Program} {w:World} {Φ:Nat→Prop} {σ:Nat→Value} {ρ:List Value} {j:Nat} {x:Value}:∀ {cs:List AV} {vs:List Value} {f:Cnt},CR P w Φ σ ρ cs vs f→cs.all (sQ j)=true→CR P w Φ σ (ρ.set j x) cs vs f
 | [],vs,f,h,_=>by simpa only[CR] using h
 | c::cs,vs,f,h,ha=>by
  simp only[List.all_cons,Bool.and_eq_true] at ha
  simp only[CR] at h ⊢
  obtain⟨v,vs',f1,f2,e,h1,h2,hb⟩:=h
  exact⟨v,vs',f1,f2,e,Bh h1 ha.1,Bo h2 ha.2,hb⟩
theorem Oy {P:Program} {w:World} {Φ:Nat→Prop} {σ:Nat→Value} {ρ:List Value} {j:Nat} {x:Value} {c:AV} {v:Value} {f:Cnt} (h:VR P w Φ σ ρ c v f) (hc:yA j c=true):VR P w Φ σ (ρ.set j x) c v f:=by
 cases c with
 | agg cs=>simp only[VR] at h ⊢;obtain⟨arr,e,h⟩:=h;exact⟨arr,e,Bo h hc⟩
 | tup sh cs=>simp only[VR] at h ⊢;obtain⟨arr,e,hs,h⟩:=h;exact⟨arr,e,hs,Bo h hc⟩
 | _=>exact Bh h hc
theorem sZ {P:Program} {w:World} {Φ:Nat→Prop} {σ:Nat→Value} {ρ:List Value} {j:Nat} {x:Value}:∀ {e:List AV} {vs:List Value} {f:Cnt},CR P w Φ σ ρ e vs f→∃ f',CR P w Φ σ (ρ.set j x) (vw j e) vs f'∧∀ b,f' b≤f b
 | [],vs,f,h=>⟨f,by simpa [vw,CR] using h,fun b=>Nat.le_refl _⟩
 | v::e,vs,f,h=>by
  simp only[CR] at h
  obtain⟨cv,vs',f1,f2,rfl,h1,h2,hf⟩:=h
  obtain⟨f',k1,k2⟩:=sZ (j:=j) (x:=x) h2
  simp only[vw,List.map_cons]
  by_cases hr0:yA j v=true
  ·rw[if_pos hr0]
   exact⟨_,CR_cons (Oy h1 hr0) k1,fun b=>by show f1 b+f' b≤f b;have:=hf b;have:=k2 b;omega⟩
  ·rw[if_neg hr0]
   exact⟨_,CR_cons (f1:=fun _=>0) (by unfold VR;exact fun _=>rfl) k1,fun b=>by show 0+f' b≤f b;have:=hf b;have:=k2 b;omega⟩
theorem qx (j:Nat) (e:Env):(vw j e).length=e.length:=by simp[vw]
theorem Rh {w':World} {Φ':Nat→Prop} {v:AV} {cv:Value} {e' e2:Env} {m k:Nat} {dst:Option Nat} {odst:Option Nat} {f1 f2:Cnt} (hlk:LK ν ρ e tmps) (hsize:tmps.size=n)
  (hv:VR P w' Φ' C.σ ρ v cv f1) (he:CR P w' Φ' C.σ ρ e' ρ f2) (hinv:Inv P w' Φ' (fun b=>f1 b+f2 b)) (hext:Ext C.w0 w' C.fa) (hsub:∀ b,C.Φ0 b→Φ' b) (hnew:∀ b,Φ' b→C.Φ0 b∨1≤C.fa b∨C.w0.heap.size≤b)
  (hown:∀ b,1≤f1 b+f2 b→1≤C.fa b∨C.w0.heap.size≤b) (hν:ν.Nodup) (hp:lu m k dst v e'=some e2)
  (hund:ρ[m+k]?=some unk) (hd:(dst=none∧((odst=none∧cv=unk)∨∃ t,odst=some t∧ν[m+k]?=some t∧t<n))∨∃ j t,dst=some j∧odst=some t∧ν[j]?=some t∧t<n∧j<ρ.length∧j≠m+k) :
  ∃ ρ2 g,St P C ν n e2 ρ2 (match odst with|some t=>tmps.setIfInBounds t cv|none=>tmps) w' Φ' g∧ρ2.length=ρ.length∧(∀ i,i≠m+k→m≤i→ρ2[i]?=ρ[i]?):=by
 have hel:e'.length=ρ.length:=dm he
 have hlen:m+k<ρ.length:=(List.getElem?_eq_some_iff.1 hund).1
 rcases hd with ⟨rfl,hd⟩|⟨j,t,rfl,rfl,hj,ht,hjl,hjk⟩
 ·simp only[lu,Option.some.injEq] at hp
  subst hp
  obtain⟨g,hg1,hg2⟩:=IY (GK (x:=cv) hund _ _ _ he) (Gu (x:=cv) hund _ _ _ hv) (i:=m+k) (by omega)
  refine⟨ρ.set (m+k) cv,g,⟨hg1,?_,hinv.le hg2,hext,hsub,hnew,fun b hb=>hown b (Nat.le_trans hb (hg2 b)),?_⟩,by simp,fun i hi _=>by rw[List.getElem?_set_ne (by omega)]⟩
  ·rcases hd with ⟨rfl,rfl⟩|⟨t,rfl,h1,h2⟩
   ·intro j u hj
    by_cases hjd:m+k=j
    ·subst hjd
     rw[List.getElem?_set] at hj
     simp at hj
     exact .inl hj.2.symm
    ·rw[List.getElem?_set_ne hjd] at hj
     exact hlk j u hj
   ·exact Rj hlk hν h1 (by rw[hsize];exact h2) _
  ·rcases hd with ⟨rfl,rfl⟩|⟨t,rfl,h1,h2⟩
   ·exact hsize
   ·simpa using hsize
 ·simp only[lu] at hp
  split at hp
  ·rename_i hc
   obtain⟨hjm,hrf⟩:=hc
   simp only[Option.some.injEq] at hp
   subst hp
   obtain⟨f2',k1,k2⟩:=sZ (j:=j) (x:=cv) he
   have s1:VR P w' Φ' C.σ (ρ.set j cv) v cv f1:=by
    have plain:iQ v=false→VR P w' Φ' C.σ (ρ.set j cv) v cv f1:=fun h0=>uM w' Φ' (ρ.set j cv) (fun _ _=>rfl) (fun _ h=>h) v cv f1 (kP hv h0) (fun _ _=>rfl) hv
    simp only[Ro,Bool.or_eq_true,Bool.not_eq_true'] at hrf
    rcases hrf with h0|h0
    ·exact plain h0
    ·cases v<;>simp only[at7] at h0<;>try (cases h0;done)
     all_goals
      simp only[Bool.and_eq_true,decide_eq_true_eq] at h0
      exact Bh hv (by simpa [sQ] using h0.2)
   obtain⟨g,hg1,hg2⟩:=IY k1 s1 (i:=j) (by rw[qx];omega)
   have hle:∀ b,g b≤f1 b+f2 b:=fun b=>by have:=hg2 b;have:=k2 b;omega
   refine⟨ρ.set j cv,g,⟨hg1,Rj hlk hν hj (by rw[hsize];exact ht) _,hinv.le hle,hext,hsub,hnew,fun b hb=>hown b (Nat.le_trans hb (hle b)),by simpa using hsize⟩,by simp,fun i hi hmi=>by rw[List.getElem?_set_ne (by omega)]⟩
  ·cases hp
end
def OpW (P:Program) (m k:Nat) (so:dJ) (e:Env) (Q:Env→Prop):Prop :=
 match so.k with
 | .op s=>match opx e s with
  | some (v,e')=>match lu m k so.dst v e' with
   | some e2=>Q e2
   | none=>False
  | none=>False
 | .call g args fr=>match kU e args with
  | some (avs,live)=>∃ res,Says P g avs res []∧(live=true→iP res=true) ∧
    match (if fr then frz res else some res) with
    | some v=>match lu m k so.dst v e with
     | some e2=>Q e2
     | none=>False
    | none=>False
  | none=>False
 | .callv x args=>match ku e x,kU e args with
  | some (g,caps),some (avs,live)=>dZ P g=true∧∃ res,Says P g (avs++caps) res []∧(live=true→iP res=true) ∧
    match lu m k so.dst res e with
    | some e2=>Q e2
    | none=>False
  | _,_=>False
 | .callm x args=>match qO e 1 args with
  | some (e1,b1,vs)=>match mP e1 (1+nB b1) x with
   | some (g,caps,e2,b2)=>match pF e2 args vs with
    | some (avs,live)=>dZ P g=true∧tC e2 (b1++b2)=true∧∃ res outs,Says P g (avs++caps) res (num 1 outs)∧wE (nB (b1++b2)) live res outs=true ∧
      match iZ (nH e2) (b1++b2) outs with
      | some e3=>match lu m k so.dst res e3 with
       | some e4=>Q e4
       | none=>False
      | none=>False
    | none=>False
   | none=>False
  | none=>False
 | .callr x args=>match qO e 1 args with
  | some (e1,b1,vs)=>match mP e1 (1+nB b1) x with
   | some (g,caps,e2,b2)=>match pF e2 args vs with
    | some (avs,live)=>dZ P g=true∧tC e2 (b1++b2)=true∧∃ res outs,kR P g (upg e (kY e 0 args) args avs++caps) res (num 1 outs)∧uf (nB (b1++b2)) live res outs=true ∧
      match iZ (nH e2) (b1++b2) outs with
      | some e3=>match lu m k so.dst (CO (b1++b2) res) (oU e e3) with
       | some e4=>Q e4
       | none=>False
      | none=>False
    | none=>False
   | none=>False
  | none=>False
abbrev L8:AV:=.tup [] []
def skE (m k:Nat) (e:Env):SK→Env
 | .op (.store _ _ _ _)=>e.set (m+k) .dead
 | _=>e.set (m+k) L8
def skV:SK→AV
 | .op (.store _ _ _ _)=>.dead
 | _=>L8
theorem OO {m k:Nat} {e:Env} {sk:SK}:skE m k e sk=e.set (m+k) (skV sk):=by
 unfold skE skV
 split<;>simp_all
def kz (b:Bool):Option AV→Option Bool
 | some (.bool b')=>some (b'==b)
 | some (.tup [] [])=>some false
 | _=>none
def kw (P:Program) (m:Nat):Nat→List dJ→Env→(Env→Prop)→Prop
 | _,[],e,Q=>Q e
 | k,so::rest,e,Q=>match so.guard with
  | none=>OpW P m k so e fun e'=>kw P m (k+1) rest e' Q
  | some (s,b)=>match kz b e[s]? with
   | some true=>OpW P m k so e fun e'=>kw P m (k+1) rest e' Q
   | some false=>kw P m (k+1) rest (skE m k e so.k) Q
   | none=>False
def zG (P:Program) (V D:List Nat) (n k:Nat) (ops:Array Oper) (o:Oper) (so:dJ):Bool :=
 (match so.dst with
  | none=>(match o.dst with|some t=>D[k]?==some t&&decide (t<n)|none=>(match so.k with | .op (.store _ _ _ _)=>true|_=>false))
  | some j=>decide (j<V.length)&&(match o.dst with|some t=>V[j]?==some t&&decide (t<n)|none=>false)&&so.guard.isNone) &&
 (match o.guard,so.guard with
  | none,none=>true
  | some (j,b),some (s,b')=>b==b'&&s==V.length+j&&decide (j<k)&&(match ops[j]? with|some oj=>(match oj.dst with|some t=>D[j]?==some t&&decide (t<n)|none=>false)|none=>false)
  | _,_=>false) &&
 (match so.k with
  | .op s=>gz P (V++D) o.op s
  | .call g args _=>(match o.op with
   | .call c=>(match c.callee with
    | .value (.func g')=>g==g'&&dZ P g&&nI (V++D) c.args.toList args
    | _=>false)
   | _=>false)
  | .callv x args=>(match o.op with
   | .call c=>(match c.callee with
    | .value y=>okX (V++D) y x&&nI (V++D) c.args.toList args
    | _=>false)
   | _=>false)
  | .callm x args=>(match o.op with
   | .call c=>(match c.callee with
    | .value y=>okX (V++D) y x&&nI (V++D) c.args.toList (args.map (·.1))
    | _=>false)
   | _=>false)
  | .callr x args=>(match o.op with
   | .call c=>(match c.callee with
    | .value y=>okX (V++D) y x&&nI (V++D) c.args.toList (args.map (·.1))
    | _=>false)
   | _=>false))
def je (P:Program) (V D:List Nat) (n:Nat) (ops:Array Oper):Nat→List Oper→List dJ→Bool
 | _,[],[]=>true
 | k,o::os,so::sos=>zG P V D n k ops o so&&je P V D n ops (k+1) os sos
 | _,_,_=>false
section
variable {P : Program} {C : Cx} {V D : List Nat} {n : Nat}
theorem Dz {ν:List Nat} {e:Env} {ρ:List Value} {tmps:Array Value} {w:World} {Φ:Nat→Prop} {f:Cnt} (hst:St P C ν n e ρ tmps w Φ f) {g:Nat} {cargs:List Value} {avs:List AV} {live:Bool} {res:AV}
  (hx:∀ (Φ':Nat→Prop),(∀ b,Φ b→Φ' b)→(live=true→∀ b,1≤f b→Φ' b)→hrs avs=false∧∀ (ρ':List Value),CR P w Φ' C.σ ρ' avs cargs (fun _=>0)) (hfn:Says P g avs res []) (hnf:live=true→iP res=true) :
  Calls P g cargs.toArray w fun en w'=>∃ (cv:Value) (Φ':Nat→Prop) (f1:Cnt),en=.returned cv∧Ext w w' (fun _=>0)∧VR P w' Φ' C.σ ρ res cv f1∧hr res=false∧CR P w' Φ' C.σ ρ e ρ f ∧
   Inv P w' Φ' (fun b=>f1 b+f b)∧(∀ b,1≤f1 b→w.heap.size≤b)∧(∀ b,Φ b→Φ' b)∧(∀ b,Φ' b→Φ b∨w.heap.size≤b):=by
 cases live with
 | false =>
  obtain⟨m1,m2⟩:=hx Φ (fun _ h=>h) (fun h=>by cases h)
  refine (hfn w Φ C.σ _ (fun _=>0) (by simpa using m2 []) m1 ⟨fun b=>by simp,fun b h=>by simp at h,hst.inv.fz,fun b _=>rfl,hst.inv.tab⟩).mono ?_
  rintro en w' ⟨cv,Φ',f1,f2,he,hext,hs1,hs2,hv,hhr,ho,_,hinv,hnew⟩
  simp only[List.map_nil,CR] at ho
  have hΦ':∀ b,Φ' b→Φ b∨w.heap.size≤b:=fun b hb=>by rcases hs2 b hb with h|h|h;exact .inl h;simp at h;exact .inr h
  have hblk:∀ b,b<w.heap.size→w'.heap[b]?=w.heap[b]?:=fun b hb=>hext.block b hb rfl
  have hf1:∀ b,1≤f1 b→w.heap.size≤b:=fun b hb=>by rcases hnew b (by omega) with h|h;simp at h;exact h
  have hrel':=rE hblk hst.inv.fz _ _ _ (fun b hb=>hst.inv.lt b hb) hst.rel
  have hrel:CR P w' Φ' C.σ ρ e ρ f:=by
   have all:∀ (cs:List AV) (vs:List Value) (f:Cnt),CR P w' Φ C.σ ρ cs vs f→CR P w' Φ' C.σ ρ cs vs f:=by
    intro cs
    induction cs with
    | nil=>intro vs f h;simpa only[CR] using h
    | cons c cs ih =>
     intro vs f h
     simp only[CR] at h ⊢
     obtain⟨v,vs',f1,f2,e,h1,h2,hb⟩:=h
     refine⟨v,vs',f1,f2,e,BP w' Φ' ρ (fun _ _=>rfl) hs1 ?_ ?_ ?_ _ _ _ (fun _ _=>rfl) h1,ih _ _ h2,hb⟩
     ·intro r p o cv f h;simpa only[VR] using h
     ·intro r p o cv f h;simpa only[VR] using h
     ·intro r p o cv f h;simpa only[VR] using h
   exact all _ _ _ hrel'
  refine⟨cv,Φ',f1,he,hext,uM w' Φ' ρ (fun _ _=>rfl) (fun _ h=>h) _ _ _ hhr (fun _ _=>rfl) hv,hhr,hrel,?_,hf1,hs1,hΦ'⟩
  refine⟨fun b=>?_,fun b hb=>?_,hinv.fz,fun b hb=>?_,hinv.tab⟩
  ·show f1 b+f b≤1
   have:=hinv.sep b
   have:=hst.inv.sep b
   by_cases h1:1≤f1 b
   ·have:=hf1 b h1
    have:¬1≤f b:=fun h=>by have:=hst.inv.lt b h;omega
    have:f1 b+f2 b≤1:=hinv.sep b
    omega
   ·omega
  ·have hb':1≤f1 b+f b:=hb
   by_cases h1:1≤f1 b
   ·exact hinv.lt b (by show 1≤f1 b+f2 b;omega)
   ·exact Nat.lt_of_lt_of_le (hst.inv.lt b (by omega)) hext.size
  ·show f1 b+f b=0
   have:f1 b+f2 b=0:=hinv.apart b hb
   rcases hΦ' b hb with h|h
   ·have:=hst.inv.apart b h;omega
   ·have:¬1≤f b:=fun h'=>by have:=hst.inv.lt b h';omega
    omega
 | true =>
  have hnf:=hnf rfl
  obtain⟨m1,m2⟩:=hx (fun b=>Φ b∨1≤f b) (fun _ h=>.inl h) (fun _ b h=>.inr h)
  refine (hfn w (fun b=>Φ b∨1≤f b) C.σ _ (fun _=>0) (by simpa using m2 []) m1 ⟨fun b=>by simp,fun b h=>by simp at h,fun b hb=>by rcases hb with h|h;exact hst.inv.fz b h;exact hst.inv.lt b h,fun b _=>rfl,iT hst.inv.tab (fun _ _=>rfl) (fun _ h=>.inl h)⟩).mono ?_
  rintro en w' ⟨cv,Φ',f1,f2,he,hext,hs1,hs2,hv,hhr,ho,_,hinv,hnew⟩
  have hblk:∀ b,b<w.heap.size→w'.heap[b]?=w.heap[b]?:=fun b hb=>hext.block b hb rfl
  have hf1:∀ b,1≤f1 b→w.heap.size≤b:=fun b hb=>by rcases hnew b (by omega) with h|h;simp at h;exact h
  have hrel':=rE hblk hst.inv.fz _ _ _ (fun b hb=>hst.inv.lt b hb) hst.rel
  have hv':=xy Φ _ _ _ hnf hv
  refine⟨cv,Φ,f1,he,hext,uM w' Φ ρ (fun _ _=>rfl) (fun _ h=>h) _ _ _ hhr (fun _ _=>rfl) hv',hhr,hrel',?_,hf1,fun _ h=>h,fun _ h=>.inl h⟩
  refine⟨fun b=>?_,fun b hb=>?_,fun b hb=>Nat.lt_of_lt_of_le (hst.inv.fz b hb) hext.size,fun b hb=>?_,iT hst.inv.tab (fun b hb=>hblk b (hst.inv.fz b hb)) (fun _ h=>h)⟩
  ·show f1 b+f b≤1
   have:f1 b+f2 b≤1:=hinv.sep b
   have:=hst.inv.sep b
   by_cases h1:1≤f1 b
   ·have:=hf1 b h1
    have:¬1≤f b:=fun h=>by have:=hst.inv.lt b h;omega
    omega
   ·omega
  ·have hb':1≤f1 b+f b:=hb
   by_cases h1:1≤f1 b
   ·exact hinv.lt b (by show 1≤f1 b+f2 b;omega)
   ·exact Nat.lt_of_lt_of_le (hst.inv.lt b (by omega)) hext.size
  ·show f1 b+f b=0
   have h0:=hst.inv.apart b hb
   have:¬1≤f1 b:=fun h=>by have:=hf1 b h;have:=hst.inv.fz b hb;omega
   omega
theorem Jr:∀ (s:Nat) (vs:List AV),(num s vs).map (·.2)=vs
 | _,[]=>rfl
 | s,v::vs=>by simp[num,Jr (s+1) vs]
theorem Jq {σ':Nat→Value}:∀ {s:Nat} {vs:List AV} {ks:List Value},(∀ i v,ks[i]?=some v→σ' (s+i)=v)→vs.length=ks.length→(num s vs).map (fun p=>σ' p.1)=ks
 | _,[],[],_,_=>rfl
 | s,v::vs,k::ks,h,hl=>by
  simp only[num,List.map_cons]
  have h0:=h 0 k rfl
  rw[Nat.add_zero] at h0
  rw[h0,Jq (s:=s+1) (fun i u hi=>by have:=h (i+1) u (by simpa using hi);rwa [show s+1+i=s+(i+1) by omega]) (by simpa using hl)]
 | _,[],_::_,_,hl=>by simp at hl
 | _,_::_,[],_,hl=>by simp at hl
theorem zK {w:World} {Φ:Nat→Prop} {σ:Nat→Value} {ρ:List Value} (Φ':Nat→Prop):∀ {cs:List AV} {vs:List Value} {f:Cnt},jf cs=true→CR P w Φ σ ρ cs vs f→CR P w Φ' σ ρ cs vs f
 | [],vs,f,_,h=>by simpa only[CR] using h
 | c::cs,vs,f,hn,h=>by
  simp only[jf,Bool.and_eq_true] at hn
  simp only[CR] at h ⊢
  obtain⟨v,vs',f1,f2,e,h1,h2,hb⟩:=h
  exact⟨v,vs',f1,f2,e,xy Φ' _ _ _ hn.1 h1,zK Φ' hn.2 h2,hb⟩
theorem TI {n:Nat} {live:Bool} {res:AV} {outs:List AV} (h:wE n live res outs=true):uf n live res outs=true:=by
 simp only[wE,uf,Bool.and_eq_true] at h ⊢
 exact⟨⟨h.1.1.1,h.1.2⟩,h.2⟩
theorem Ko {n:Nat} {live:Bool} {res:AV} {outs:List AV} {bs:List Bk} (h:wE n live res outs=true):CO bs res=res:=by
 simp only[wE,Bool.and_eq_true] at h
 unfold CO
 rw[if_pos h.1.1.2]
theorem Ap {ν:List Nat} {e e1 e2 e3:Env} {ρ:List Value} {tmps:Array Value} {w:World} {Φ:Nat→Prop} {f:Cnt} (hst:St P C ν n e ρ tmps w Φ f) {xs:List Operand} {y:Operand} {x:Opd} {args:List (Opd × Bool)} {b1 b2:List Bk} {vs:List (Option AV)}
  {g:Nat} {caps avs avs' outs:List AV} {live:Bool} {res:AV} (hx:nI ν xs (args.map (·.1))=true) (hxy:okX ν y x=true) (h1:qO e 1 args=some (e1,b1,vs)) (h2:mP e1 (1+nB b1) x=some (g,caps,e2,b2)) (h3:pF e2 args vs=some (avs,live))
  (hup:∀ (Φ1:Nat→Prop) (σ':Nat→Value) (post:List Value) (fa:Cnt),hrs avs=false→CR P w Φ1 σ' [] avs (xs.map (Act.eval ⟨tmps,[]⟩)) fa→CR P w Φ1 σ' (xs.map (Act.eval ⟨tmps,[]⟩)++post) avs' (xs.map (Act.eval ⟨tmps,[]⟩)) fa)
  (hbk:tC e2 (b1++b2)=true) (hfn:hrs avs=false→hrs caps=false→kR P g (avs'++caps) res (num 1 outs)) (hok:uf (nB (b1++b2)) live res outs=true) (hput:iZ (nH e2) (b1++b2) outs=some e3) :
  ∃ cs:Array Value,Act.eval ⟨tmps,[]⟩ y=.func (.func g) #[] cs∧Calls P g (xs.map (Act.eval ⟨tmps,[]⟩)++cs.toList).toArray w fun en w'=>∃ (cv:Value) (Φ':Nat→Prop) (f1 f':Cnt),en=.returned cv∧Ext w w' f∧VR P w' Φ' C.σ ρ (CO (b1++b2) res) cv f1∧hr (CO (b1++b2) res)=false ∧
   CR P w' Φ' C.σ ρ e3 ρ f'∧Inv P w' Φ' (fun b=>f1 b+f' b)∧(∀ b,1≤f1 b+f' b→1≤f b∨w.heap.size≤b)∧(∀ b,Φ b→Φ' b)∧(∀ b,Φ' b→Φ b∨1≤f b∨w.heap.size≤b):=by
 obtain⟨f1,f2,ks,q1,q2,q3,q4,q5⟩:=xI (a:=⟨tmps,[]⟩) hst.rel hst.lk hst.inv.sep hx h1
 obtain⟨cs,hev,m1,m2,ms,p1,p2,p3,p4,p5,p6⟩:=Fp (a:=⟨tmps,[]⟩) q2 (fun j cv hj=>hst.lk j cv hj) (fun b=>by have:=hst.inv.sep b;have:=q3 b;omega) hxy h2
 refine⟨cs,hev,?_⟩
 have hff:∀ b,f b=f1 b+m1 b+m2 b:=fun b=>by have:=q3 b;have:=p5 b;omega
 have hbr:=lH q1 p1
 have hlen:=jM hbr
 simp only[uf,Bool.and_eq_true,beq_iff_eq,Bool.or_eq_true,Bool.not_eq_true'] at hok
 obtain⟨⟨hol,hin⟩,hlv⟩:=hok
 -- the stamps
 let σ':Nat→Value:=fun s=>if s≤1000 then (ks++ms).getD (s-1) undef else C.σ (s-1000)
 have hσ:Stm C.σ σ' 1 (ks++ms):=⟨fun i v hi=>by
  have hil:=(List.getElem?_eq_some_iff.1 hi).1
  have hbd:=Oi hbk
  show (if 1+i≤1000 then (ks++ms).getD (1+i-1) undef else C.σ (1+i-1000))=v
  rw[if_pos (by omega),show 1+i-1=i by omega,List.getD_eq_getElem?_getD,hi];rfl,fun n hn=>by
  show (if n+1000≤1000 then (ks++ms).getD (n+1000-1) undef else C.σ (n+1000-1000))=C.σ n
  rw[if_neg (by omega),Nat.add_sub_cancel]⟩
 have hσ2:Stm C.σ σ' (1+nB b1) ms:=by have:=hσ.right;rwa [jM q1] at this
 have hlive:∃ Φ1:Nat→Prop,(∀ b,Φ b→Φ1 b)∧(live=true→∀ b,1≤m2 b→Φ1 b)∧(∀ b,Φ1 b→Φ b∨(live=true∧1≤m2 b)):=by
  cases live with
  | false=>exact⟨Φ,fun _ h=>h,(fun h=>by cases h),fun b h=>.inl h⟩
  | true=>exact⟨fun b=>Φ b∨1≤m2 b,fun b h=>.inl h,fun _ b h=>.inr h,fun b h=>h.imp id (fun h=>⟨rfl,h⟩)⟩
 obtain⟨Φ1,hs1,hs2,hs3⟩:=hlive
 obtain⟨a1,a2⟩:=q5 e2 m2 Φ1 avs live σ' p4 (fun b=>by have:=hst.inv.sep b;have:=hff b;omega) hs1 h3 hs2 hσ.left
 have a3:=iC w Φ1 [] (fun _ _=>rfl) hs1 _ _ _ p3 (fun _ _=>rfl) (p2 σ' hσ2)
 have hinv1:Inv P w Φ1 (fun b=>f1 b+m1 b):=by
  refine⟨fun b=>?_,fun b hb=>?_,fun b hb=>?_,fun b hb=>?_,iT hst.inv.tab (fun _ _=>rfl) hs1⟩
  ·show f1 b+m1 b≤1
   have:=hst.inv.sep b;have:=hff b;omega
  ·have hb':1≤f1 b+m1 b:=hb
   exact hst.inv.lt b (by have:=hff b;omega)
  ·rcases hs3 b hb with h|⟨_,h⟩
   ·exact hst.inv.fz b h
   ·exact hst.inv.lt b (by have:=hff b;omega)
  ·show f1 b+m1 b=0
   rcases hs3 b hb with h|⟨_,h⟩
   ·have:=hst.inv.apart b h;have:=hff b;omega
   ·have:=hst.inv.sep b;have:=hff b;omega
 have a1':=hup Φ1 σ' cs.toList f1 a2 a1
 have a3':=iC w Φ1 (xs.map (Act.eval ⟨tmps,[]⟩)++cs.toList) (fun _ _=>rfl) (fun _ h=>h) _ _ _ p3 (fun _ _=>rfl) a3
 refine (hfn a2 p3 w Φ1 σ' _ (fun b=>f1 b+m1 b) (by simpa using iJ a1' a3') hinv1).mono ?_
 rintro en w' ⟨cv,Φ2,r1,r2,rfl,hext,t1,t2,hv,hhr,ho,hhro,hinv,hnw⟩
 rw[Jr] at ho hhro
 rw[Jq hσ.1 (by rw[hol,hlen])] at ho
 -- what did not change
 have hblk:∀ b,1≤m2 b→w'.heap[b]?=w.heap[b]?:=fun b hb=>hext.block b (hst.inv.lt b (by have:=hff b;omega)) (by
  show f1 b+m1 b=0
  have:=hst.inv.sep b;have:=hff b;omega)
 have hblk2:∀ b,Φ b→w'.heap[b]?=w.heap[b]?:=fun b hb=>hext.block b (hst.inv.fz b hb) (by
  show f1 b+m1 b=0
  have:=hst.inv.apart b hb;have:=hff b;omega)
 have hbr2:=wO p4 hblk (Oj hbk) hbr
 obtain⟨k2,kc,kle,khr⟩:=xE p4
 -- which blocks are frozen behind it
 have hΦ3:∃ Φ3:Nat→Prop,(∀ b,Φ b→Φ3 b)∧(∀ b,Φ3 b→Φ b∨1≤f b∨w.heap.size≤b)∧(∀ b,Φ3 b→Φ2 b)∧(∀ b,Φ3 b→m2 b=0)∧VR P w' Φ3 σ' [] res cv r1∧CR P w' Φ3 σ' [] outs (ks++ms) r2:=by
  cases live with
  | false =>
   refine⟨Φ2,fun b hb=>t1 b (hs1 b hb),fun b hb=>?_,fun _ h=>h,fun b hb=>?_,hv,ho⟩
   ·rcases t2 b hb with h|h|h
    ·rcases hs3 b h with h|⟨h,_⟩
     ·exact .inl h
     ·cases h
    ·have h':1≤f1 b+m1 b:=h
     exact .inr (.inl (by have:=hff b;omega))
    ·exact .inr (.inr h)
   ·rcases t2 b hb with h|h|h
    ·rcases hs3 b h with h|⟨h,_⟩
     ·have:=hst.inv.apart b h;have:=hff b;omega
     ·cases h
    ·have h':1≤f1 b+m1 b:=h
     have:=hst.inv.sep b;have:=hff b;omega
    ·have:¬1≤m2 b:=fun h'=>by have:=hst.inv.lt b (by have:=hff b;omega);omega
     omega
  | true =>
   rcases hlv with h|⟨h4,h5⟩
   ·cases h
   ·exact⟨Φ,fun _ h=>h,fun b h=>.inl h,fun b h=>t1 b (hs1 b h),fun b hb=>by have:=hst.inv.apart b hb;have:=hff b;omega,xy Φ _ _ _ h4 hv,zK Φ h5 ho⟩
 obtain⟨Φ3,w1,w2,w3,w4,w5,w6⟩:=hΦ3
 have hsepo:∀ b,k2 b+r2 b≤1∧k2 b+(r1 b+r2 b)≤1:=by
  intro b
  have:=kle b
  have h8:r1 b+r2 b≤1:=hinv.sep b
  by_cases h7:1≤k2 b
  ·have h9:¬1≤r1 b+r2 b:=fun h=>by
    rcases hnw b h with h|h
    ·have h':1≤f1 b+m1 b:=h
     have:=hst.inv.sep b;have:=hff b;omega
    ·have:=hst.inv.lt b (by have:=hff b;omega);omega
   have:=hst.inv.sep b;have:=hff b
   omega
  ·omega
 have hce:CR P w' Φ3 C.σ ρ (nH e2) ρ k2:=iC w' Φ3 ρ hblk2 w1 _ _ _ khr (fun b hb=>hblk b (by have:=kle b;omega)) kc
 obtain⟨f',c1,c2⟩:=qM hce hσ.2 w6 hin (fun b=>(hsepo b).1) hbr2 hput
 refine⟨cv,Φ3,r1,f',rfl,⟨hext.os,hext.tape,hext.output,hext.size,fun b hb h0=>hext.block b hb (by show f1 b+m1 b=0;have:=hff b;omega)⟩,?_,by rw[Tm];exact hhr,c1,⟨fun b=>?_,fun b hb=>?_,fun b hb=>hinv.fz b (w3 b hb),fun b hb=>?_,iT hst.inv.tab hblk2 w1⟩,fun b hb=>?_,w1,w2⟩
 ·exact Nu hbr hσ (uM w' Φ3 ρ (fun _ _=>rfl) (fun _ h=>h) _ _ _ hhr (fun _ _=>rfl) w5)
 ·show r1 b+f' b≤1
  have:=c2 b;have:=(hsepo b).2;omega
 ·have hb':1≤r1 b+f' b:=hb
  have:=c2 b
  by_cases h1:1≤r1 b+r2 b
  ·exact hinv.lt b h1
  ·exact Nat.lt_of_lt_of_le (hst.inv.lt b (by have:=kle b;have:=hff b;omega)) hext.size
 ·show r1 b+f' b=0
  have:=c2 b;have:=kle b;have:=w4 b hb
  have:r1 b+r2 b=0:=hinv.apart b (w3 b hb)
  omega
 ·have:=c2 b
  by_cases h1:1≤r1 b+r2 b
  ·rcases hnw b h1 with h|h
   ·have h':1≤f1 b+m1 b:=h
    exact .inl (by have:=hff b;omega)
   ·exact .inr h
  ·exact .inl (by have:=kle b;have:=hff b;omega)
theorem Ud {w:World} {Φ:Nat→Prop} {σ:Nat→Value} {ρ:List Value} (Φ':Nat→Prop) (hsub:∀ b,Φ b→Φ' b) {v v':AV} {cv:Value} {f:Cnt} (hz:frz v=some v') (hv:VR P w Φ σ ρ v cv f) (hf:∀ b,1≤f b→Φ' b) :
  VR P w Φ' σ ρ v' cv (fun _=>0)∧hr v'=false:=by
 have list:∀ (cs cs':List AV) (vs:List Value) (f:Cnt),jZ cs=some cs'→CR P w Φ σ ρ cs vs f→(∀ b,1≤f b→Φ' b)→CR P w Φ' σ ρ cs' vs (fun _=>0)∧hrs cs'=false:=by
  intro cs
  induction cs with
  | nil=>intro cs' vs f hz hc _;simp[jZ] at hz;subst hz;simp only[CR] at hc;obtain⟨rfl,_⟩:=hc;exact⟨CR_nil,rfl⟩
  | cons c cs ih =>
   intro cs' vs f hz hc hf
   simp only[jZ] at hz
   cases h1:jI c with
   | none=>simp[h1] at hz
   | some c' =>
    cases h2:jZ cs with
    | none=>simp[h1,h2] at hz
    | some cs1 =>
     simp[h1,h2] at hz;subst hz
     simp only[CR] at hc
     obtain⟨v,vs',f1,f2,rfl,hv,hcs,hff⟩:=hc
     obtain⟨k1,k2⟩:=uA Φ' hsub _ _ _ _ h1 (fun b hb=>hf b (by have:=hff b;omega)) hv
     obtain⟨m1,m2⟩:=ih _ _ _ h2 hcs (fun b hb=>hf b (by have:=hff b;omega))
     refine⟨?_,by simp only[hrs,Bool.or_eq_false_iff];exact⟨jY k1,m2⟩⟩
     have:=CR_cons (k2 (fun _=>0) (fun _=>rfl)) m1
     simpa using this
 have one:jI v=some v'→VR P w Φ' σ ρ v' cv (fun _=>0)∧hr v'=false:=fun hz=>by
  obtain⟨k1,k2⟩:=uA Φ' hsub _ _ _ _ hz hf hv
  exact⟨k2 _ (fun _=>rfl),jY k1⟩
 cases v with
 | agg cs =>
  simp only[frz] at hz
  split at hz
  ·rename_i cs' h1
   simp at hz;subst hz
   simp only[VR] at hv ⊢
   obtain⟨arr,rfl,hc⟩:=hv
   obtain⟨m1,m2⟩:=list _ _ _ _ h1 hc hf
   exact⟨⟨arr,rfl,m1⟩,by simpa only[hr] using m2⟩
  ·cases hz
 | tup sh cs =>
  simp only[frz] at hz
  split at hz
  ·rename_i cs' h1
   simp at hz;subst hz
   simp only[VR] at hv ⊢
   obtain⟨arr,rfl,hs,hc⟩:=hv
   obtain⟨m1,m2⟩:=list _ _ _ _ h1 hc hf
   exact⟨⟨arr,rfl,hs,m1⟩,by simpa only[hr] using m2⟩
  ·cases hz
 | _=>exact one (by simpa only[frz] using hz)
theorem rZ {k:Nat} {ops:Array Oper} {o:Oper} {so:dJ} (h:zG P V D n k ops o so=true) :
  ((so.dst=none∧((∃ t,o.dst=some t∧D[k]?=some t∧t<n)∨(o.dst=none∧∃ a b c d,so.k=.op (.store a b c d))))∨∃ j t,so.dst=some j∧o.dst=some t∧V[j]?=some t∧t<n∧so.guard=none) ∧
  ((o.guard=none∧so.guard=none)∨∃ j b oj t,o.guard=some (j,b)∧so.guard=some (V.length+j,b)∧j<k∧ops[j]?=some oj∧oj.dst=some t∧D[j]?=some t∧t<n) ∧
  ((∃ s,so.k=.op s∧gz P (V++D) o.op s=true)∨(∃ g args fr c,so.k=.call g args fr∧o.op=.call c∧c.callee=.value (.func g)∧dZ P g=true∧nI (V++D) c.args.toList args=true)∨(∃ x args c y,so.k=.callv x args∧o.op=.call c∧c.callee=.value y∧okX (V++D) y x=true∧nI (V++D) c.args.toList args=true) ∨
   ∃ x args c y,(so.k=.callm x args∨so.k=.callr x args)∧o.op=.call c∧c.callee=.value y∧okX (V++D) y x=true∧nI (V++D) c.args.toList (args.map (·.1))=true):=by
 unfold zG at h
 simp only[Bool.and_eq_true] at h
 obtain⟨⟨h1,h2⟩,h3⟩:=h
 refine⟨?_,?_,?_⟩
 ·cases hd:so.dst with
  | none =>
   rw[hd] at h1
   left
   refine⟨rfl,?_⟩
   cases ho:o.dst with
   | some t =>
    simp[ho] at h1
    exact .inl ⟨t,rfl,h1.1,h1.2⟩
   | none =>
    simp only[ho] at h1
    refine .inr ⟨rfl,?_⟩
    split at h1
    ·rename_i a b c d hk;exact⟨_,_,_,_,hk⟩
    ·cases h1
  | some j =>
   rw[hd] at h1
   right
   cases ho:o.dst with
   | none=>simp[ho] at h1
   | some t =>
    simp[ho] at h1
    obtain⟨⟨_,h4,h5⟩,h6⟩:=h1
    exact⟨j,t,rfl,rfl,h4,h5,h6⟩
 ·cases hg:o.guard with
  | none =>
   cases hg2:so.guard with
   | none=>exact .inl ⟨rfl,rfl⟩
   | some x=>simp[hg,hg2] at h2
  | some x =>
   obtain⟨j,b⟩:=x
   cases hg2:so.guard with
   | none=>simp[hg,hg2] at h2
   | some y =>
    obtain⟨s,b'⟩:=y
    simp only[hg,hg2,Bool.and_eq_true,beq_iff_eq,decide_eq_true_eq] at h2
    obtain⟨⟨⟨rfl,rfl⟩,hjk⟩,h4⟩:=h2
    right
    cases hoj:ops[j]? with
    | none=>simp[hoj] at h4
    | some oj =>
     cases ht:oj.dst with
     | none=>simp[hoj,ht] at h4
     | some t =>
      simp[hoj,ht] at h4
      exact⟨j,b,oj,t,rfl,rfl,hjk,hoj,ht,h4.1,h4.2⟩
 ·cases hk:so.k with
  | op s=>simp only[hk] at h3;exact .inl ⟨s,rfl,h3⟩
  | call g args fr =>
   simp only[hk] at h3
   right
   split at h3
   ·rename_i c ho
    split at h3
    ·rename_i g' hc
     simp only[Bool.and_eq_true,beq_iff_eq] at h3
     obtain⟨⟨rfl,h4⟩,h5⟩:=h3
     exact .inl ⟨g,args,fr,c,rfl,ho,hc,h4,h5⟩
    ·cases h3
   ·cases h3
  | callv x args =>
   simp only[hk] at h3
   right;right;left
   split at h3
   ·rename_i c ho
    split at h3
    ·rename_i y hc
     simp only[Bool.and_eq_true] at h3
     exact⟨x,args,c,y,rfl,ho,hc,h3.1,h3.2⟩
    ·cases h3
   ·cases h3
  | callm x args =>
   simp only[hk] at h3
   right;right;right
   split at h3
   ·rename_i c ho
    split at h3
    ·rename_i y hc
     simp only[Bool.and_eq_true] at h3
     exact⟨x,args,c,y,.inl rfl,ho,hc,h3.1,h3.2⟩
    ·cases h3
   ·cases h3
  | callr x args =>
   simp only[hk] at h3
   right;right;right
   split at h3
   ·rename_i c ho
    split at h3
    ·rename_i y hc
     simp only[Bool.and_eq_true] at h3
     exact⟨x,args,c,y,.inr rfl,ho,hc,h3.1,h3.2⟩
    ·cases h3
   ·cases h3
def yz (P:Program) (m k:Nat) (so:dJ) (e:Env) (Q:Env→Prop):Prop :=
 match so.guard with
 | none=>OpW P m k so e Q
 | some (s,b)=>match kz b e[s]? with
  | some true=>OpW P m k so e Q
  | some false=>Q (skE m k e so.k)
  | none=>False
theorem qF {b c:Bool} {v:Option AV} (h:kz b v=some c):(∃ b',v=some (.bool b')∧(b'==b)=c)∨(v=some (.tup [] [])∧c=false):=by
 unfold kz at h
 split at h
 ·exact .inl ⟨_,rfl,Option.some.inj h⟩
 ·exact .inr ⟨rfl,(Option.some.inj h).symm⟩
 ·cases h
theorem wF {ops:Array Oper} {QQ:Exit→Act→World→Prop} {QE:Env→Prop} {K:Act→World→Prop} (hν:(V++D).Nodup) {k:Nat} {o:Oper} {so:dJ} {e:Env} {ρ:List Value} {tmps:Array Value} {w:World} {Φ:Nat→Prop} {f:Cnt}
  (hok1:zG P V D n k ops o so=true) (hst:St P C (V++D) n e ρ tmps w Φ f) (hslot:ρ[V.length+k]?=some unk) (h:yz P V.length k so e QE)
  (hK:∀ e2 ρ2 tmps2 w2 Φ2 g,St P C (V++D) n e2 ρ2 tmps2 w2 Φ2 g→ρ2.length=ρ.length→(∀ i,i≠V.length+k→V.length≤i→ρ2[i]?=ρ[i]?)→QE e2→K ⟨tmps2,[]⟩ w2) :
  if Region.wanted o (yielded ops tmps) then o.wp P ⟨tmps,[]⟩ w K QQ else K ((⟨tmps,[]⟩:Act).put o.dst undef) w:=by
 obtain⟨hdst,hguard,hk⟩:=rZ hok1
 have hlen:V.length+k<ρ.length:=(List.getElem?_eq_some_iff.1 hslot).1
 have hνD:∀ {j t:Nat},D[j]?=some t→(V++D)[V.length+j]?=some t:=fun h=>by rw[List.getElem?_append_right (by omega)];simpa using h
 have hνV:∀ {j t:Nat},V[j]?=some t→(V++D)[j]?=some t:=fun h=>by rw[List.getElem?_append_left (List.getElem?_eq_some_iff.1 h).1];exact h
 -- where the value goes
 have hd:∀ cv:Value,(o.dst=none→cv=unk)→(so.dst=none∧((o.dst=none∧cv=unk)∨∃ t,o.dst=some t∧(V++D)[V.length+k]?=some t∧t<n))∨∃ j t,so.dst=some j∧o.dst=some t∧(V++D)[j]?=some t∧t<n∧j<ρ.length∧j≠V.length+k:=by
  intro cv hcv
  rcases hdst with ⟨h1,h2⟩|⟨j,t,h1,h2,h3,h4,_⟩
  ·left
   refine⟨h1,?_⟩
   rcases h2 with ⟨t,h3,h4,h5⟩|⟨h3,_⟩
   ·exact .inr ⟨t,h3,hνD h4,h5⟩
   ·exact .inl ⟨h3,hcv h3⟩
  ·right
   have:=(List.getElem?_eq_some_iff.1 h3).1
   exact⟨j,t,h1,h2,hνV h3,h4,by omega,by omega⟩
 have hnodst:(∀ a b c d,so.k≠.op (.store a b c d))→o.dst≠none:=by
  intro hns hdn
  rcases hdst with ⟨_,⟨t,h3,_⟩|⟨_,q1,q2,q3,q4,hk⟩⟩|⟨j,t,_,h2,_⟩
  ·rw[hdn] at h3;cases h3
  ·exact hns _ _ _ _ hk
  ·rw[hdn] at h2;cases h2
 -- an operation that runs
 have run:(OpW P V.length k so e QE)→o.wp P ⟨tmps,[]⟩ w K QQ:=by
  intro h
  have next:∀ {w':World} {Φ':Nat→Prop} {v:AV} {cv:Value} {e' e2:Env} {f1 f2:Cnt},VR P w' Φ' C.σ ρ v cv f1→CR P w' Φ' C.σ ρ e' ρ f2→Inv P w' Φ' (fun b=>f1 b+f2 b)→Ext C.w0 w' C.fa→(∀ b,C.Φ0 b→Φ' b) →
    (∀ b,Φ' b→C.Φ0 b∨1≤C.fa b∨C.w0.heap.size≤b)→(∀ b,1≤f1 b+f2 b→1≤C.fa b∨C.w0.heap.size≤b)→lu V.length k so.dst v e'=some e2→(o.dst=none→cv=unk)→QE e2 →
    K ((⟨tmps,[]⟩:Act).put o.dst cv) w':=by
   intro w' Φ' v cv e' e2 f1 f2 hv he hinv hext hsub hnew hown hp hcv hrun
   obtain⟨ρ2,g,hst2,hl2,hu2⟩:=Rh hst.lk hst.size hv he hinv hext hsub hnew hown hν hp hslot (hd cv hcv)
   have hput:(⟨tmps,[]⟩:Act).put o.dst cv=⟨(match o.dst with|some t=>tmps.setIfInBounds t cv|none=>tmps),[]⟩:=by
    cases o.dst<;>rfl
   rw[hput]
   exact hK _ _ _ _ _ _ hst2 hl2 hu2 hrun
  unfold OpW at h
  rcases hk with ⟨s,hs,hoks⟩|⟨g,args,fr,c,hs,ho,hc,hpl,hx⟩|⟨x,args,c,y,hs,ho,hc,hxy,hx⟩|⟨x,args,c,y,hs|hs,ho,hc,hxy,hx⟩
  ·rw[hs] at h
   simp only at h
   split at h
   ·rename_i v e' hx
    split at h
    ·rename_i e2 hp
     obtain⟨r,cv,w',hr,hrv,hstep⟩:=TJ (a:=⟨tmps,[]⟩) hst.rel hst.lk hst.inv hoks hx
     obtain⟨f1,f2,hv,he,hsep,hown⟩:=hstep.rel
     have hcv:o.dst=none→cv=unk:=by
      intro hdn
      rcases hdst with ⟨_,⟨t,h3,_⟩|⟨_,q1,q2,q3,q4,hk⟩⟩|⟨j,t,_,h2,_⟩
      ·rw[hdn] at h3;cases h3
      ·rw[hs] at hk
       cases hk
       rcases hrv with rfl|⟨_,h,_⟩
       ·obtain⟨w2,hr2,_⟩:=Je (a:=⟨tmps,[]⟩) hst.rel hst.lk hst.inv hoks hx
        rw[hr] at hr2;cases hr2
       ·exact h
      ·rw[hdn] at h2;cases h2
     obtain⟨cv2,hv,hcv,hrv⟩:∃ cv2,VR P w' Φ C.σ ρ v cv2 f1∧(o.dst=none→cv2=unk)∧(r=.value cv2∨(r=.skip∧∀ t,o.dst=some t→cv2=undef)):=by
      rcases hrv with h1|⟨h1,_,h2⟩
      ·exact⟨cv,hv,hcv,.inl h1⟩
      ·subst h2
       have hv0:∀ u,VR P w' Φ C.σ ρ .dead u f1:=fun u=>by simpa only[VR] using hv
       cases ho:o.dst with
       | none=>exact⟨unk,hv0 _,(fun _=>rfl),.inr ⟨h1,(fun t h=>nomatch h)⟩⟩
       | some t=>exact⟨undef,hv0 _,(fun h=>nomatch h),.inr ⟨h1,fun _ _=>rfl⟩⟩
     have hnx:=next hv he (Inv.le ⟨hsep,fun b hb=>(hown b hb).2,fun b hb=>Nat.lt_of_lt_of_le (hst.inv.fz b hb) hstep.ext.size,fun b hb=>by
       by_cases h1:1≤f1 b+f2 b
       ·rcases (hown b h1).1 with h2|h2
        ·have:=hst.inv.apart b hb;omega
        ·have:=hst.inv.fz b hb;omega
       ·omega,iT hst.inv.tab (fun b hb=>hstep.ext.block b (hst.inv.fz b hb) (hst.inv.apart b hb)) (fun _ h=>h)⟩ (fun b=>Nat.le_refl _)) (hst.ext.trans hstep.ext hst.own) hst.sub hst.new (fun b hb=>by
       rcases (hown b hb).1 with h2|h2
       ·exact hst.own b h2
       ·exact .inr (Nat.le_trans hst.ext.size h2)) hp hcv h
     unfold Oper.wp
     rw[hr]
     rcases hrv with rfl|⟨rfl,hun⟩
     ·exact hnx
     ·have:(⟨tmps,[]⟩:Act).put o.dst undef=(⟨tmps,[]⟩:Act).put o.dst cv2:=by
       cases ho:o.dst with
       | none=>rfl
       | some t=>rw[hun t ho]
      show K ((⟨tmps,[]⟩:Act).put o.dst undef) w'
      rw[this];exact hnx
    ·cases h
   ·cases h
  ·rw[hs] at h
   simp only at h
   split at h
   ·rename_i avs live hp
    obtain⟨res,hfn,hnf,h⟩:=h
    have hcall:=Dz hst (cargs:=c.args.toList.map (Act.eval ⟨tmps,[]⟩)) (fun Φ' hs hlv=>xw (a:=⟨tmps,[]⟩) hst.rel hst.lk hst.inv.sep Φ' hs hx hp hlv) hfn hnf
    unfold Oper.wp
    rw[Nr ho hc hpl]
    have hargs:c.args.map (Act.eval ⟨tmps,[]⟩)=(c.args.toList.map (Act.eval ⟨tmps,[]⟩)).toArray:=by
     apply Array.ext';simp
    rw[Oper.upon_enter,hargs]
    refine hcall.mono ?_
    rintro en w' ⟨cv,Φ',f1,rfl,hext,hv,hhr,hrel,hinv,hf1,hs1,hs2⟩
    have hodst:o.dst≠none:=by
     intro hdn
     rcases hdst with ⟨_,⟨t,h3,_⟩|⟨_,q1,q2,q3,q4,hk⟩⟩|⟨j,t,_,h2,_⟩
     ·rw[hdn] at h3;cases h3
     ·rw[hs] at hk;cases hk
     ·rw[hdn] at h2;cases h2
    have hext2:Ext C.w0 w' C.fa:=hst.ext.trans ⟨hext.os,hext.tape,hext.output,hext.size,fun b hb _=>hext.block b hb rfl⟩ hst.own
    have hown2:∀ b,1≤f1 b+f b→1≤C.fa b∨C.w0.heap.size≤b:=fun b hb=>by
     by_cases h1:1≤f1 b
     ·exact .inr (Nat.le_trans hst.ext.size (hf1 b h1))
     ·exact hst.own b (by omega)
    have hnew2:∀ b,Φ' b→C.Φ0 b∨1≤C.fa b∨C.w0.heap.size≤b:=fun b hb=>by
     rcases hs2 b hb with h|h
     ·exact hst.new b h
     ·exact .inr (.inr (Nat.le_trans hst.ext.size h))
    split at h
    ·rename_i v hvres
     split at h
     ·rename_i e2 hp2
      cases fr with
      | false =>
       simp at hvres;subst hvres
       exact next hv hrel hinv hext2 (fun b hb=>hs1 b (hst.sub b hb)) hnew2 hown2 hp2 (fun h=>absurd h hodst) h
      | true =>
       simp at hvres
       obtain⟨hv2,_⟩:=Ud (fun b=>Φ' b∨1≤f1 b) (fun b h=>.inl h) hvres hv (fun b h=>.inr h)
       have hrel2:CR P w' (fun b=>Φ' b∨1≤f1 b) C.σ ρ e ρ f:=by
        have all:∀ (cs:List AV) (vs:List Value) (f:Cnt),CR P w' Φ' C.σ ρ cs vs f→CR P w' (fun b=>Φ' b∨1≤f1 b) C.σ ρ cs vs f:=by
         intro cs
         induction cs with
         | nil=>intro vs f h;simpa only[CR] using h
         | cons c cs ih =>
          intro vs f h
          simp only[CR] at h ⊢
          obtain⟨v,vs',g1,g2,e,h1,h2,hb⟩:=h
          refine⟨v,vs',g1,g2,e,BP w' (fun b=>Φ' b∨1≤f1 b) ρ (fun _ _=>rfl) (fun b h=>.inl h) ?_ ?_ ?_ _ _ _ (fun _ _=>rfl) h1,ih _ _ h2,hb⟩
          ·intro r p o cv f h;simpa only[VR] using h
          ·intro r p o cv f h;simpa only[VR] using h
          ·intro r p o cv f h;simpa only[VR] using h
        exact all _ _ _ hrel
       refine next hv2 hrel2 ⟨fun b=>?_,fun b hb=>?_,fun b hb=>?_,fun b hb=>?_,iT hinv.tab (fun _ _=>rfl) (fun _ h=>.inl h)⟩ hext2 (fun b hb=>.inl (hs1 b (hst.sub b hb))) (fun b hb=>?_) (fun b hb=>?_) hp2 (fun h=>absurd h hodst) h
       ·show 0+f b≤1
        have:f1 b+f b≤1:=hinv.sep b;omega
       ·have hb':1≤0+f b:=hb
        exact hinv.lt b (by show 1≤f1 b+f b;omega)
       ·rcases hb with h|h
        ·exact hinv.fz b h
        ·exact hinv.lt b (by show 1≤f1 b+f b;omega)
       ·show 0+f b=0
        rcases hb with h|h
        ·have:f1 b+f b=0:=hinv.apart b h;omega
        ·have:f1 b+f b≤1:=hinv.sep b;omega
       ·rcases hb with h|h
        ·exact hnew2 b h
        ·exact .inr (.inr (Nat.le_trans hst.ext.size (hf1 b h)))
       ·have hb':1≤0+f b:=hb
        exact hst.own b (by omega)
     ·cases h
    ·cases h
   ·cases h
  ·rw[hs] at h
   simp only at h
   split at h
   ·rename_i g caps avs live hcal hp
    obtain⟨hpl,res,hfn,hnf,h⟩:=h
    obtain⟨vs,hev,hcr1,hcr2,hcr3⟩:=yt (a:=⟨tmps,[]⟩) hst.rel hst.lk hxy hcal
    have hcall:=Dz hst (cargs:=c.args.toList.map (Act.eval ⟨tmps,[]⟩)++vs.toList) (fun Φ' hs hlv=>by
     obtain⟨m1,m2⟩:=xw (a:=⟨tmps,[]⟩) hst.rel hst.lk hst.inv.sep Φ' hs hx hp hlv
     refine⟨by rw[ah,m1,hcr1];rfl,fun ρ'=>?_⟩
     have:=iJ (m2 ρ') (hcr3 Φ' C.σ ρ' hs)
     simpa using this) hfn hnf
    unfold Oper.wp
    rw[xh ho hc hev hpl]
    have hargs:c.args.map (Act.eval ⟨tmps,[]⟩)++vs=(c.args.toList.map (Act.eval ⟨tmps,[]⟩)++vs.toList).toArray:=by
     apply Array.ext';simp
    rw[Oper.upon_enter,hargs]
    refine hcall.mono ?_
    rintro en w' ⟨cv,Φ',f1,rfl,hext,hv,hhr,hrel,hinv,hf1,hs1,hs2⟩
    have hodst:=hnodst (fun a b c d hk=>by rw[hs] at hk;cases hk)
    have hext2:Ext C.w0 w' C.fa:=hst.ext.trans ⟨hext.os,hext.tape,hext.output,hext.size,fun b hb _=>hext.block b hb rfl⟩ hst.own
    have hown2:∀ b,1≤f1 b+f b→1≤C.fa b∨C.w0.heap.size≤b:=fun b hb=>by
     by_cases h1:1≤f1 b
     ·exact .inr (Nat.le_trans hst.ext.size (hf1 b h1))
     ·exact hst.own b (by omega)
    have hnew2:∀ b,Φ' b→C.Φ0 b∨1≤C.fa b∨C.w0.heap.size≤b:=fun b hb=>by
     rcases hs2 b hb with h|h
     ·exact hst.new b h
     ·exact .inr (.inr (Nat.le_trans hst.ext.size h))
    split at h
    ·rename_i e2 hp2
     exact next hv hrel hinv hext2 (fun b hb=>hs1 b (hst.sub b hb)) hnew2 hown2 hp2 (fun h=>absurd h hodst) h
    ·cases h
   ·cases h
  ·rw[hs] at h
   simp only at h
   split at h
   ·rename_i e1 b1 vs h1
    split at h
    ·rename_i g caps e2 b2 h2
     split at h
     ·rename_i avs live h3
      obtain⟨hpl,hbk,res,outs,hfn,hok,h⟩:=h
      split at h
      ·rename_i e3 hput
       split at h
       ·rename_i e4 hp2
        obtain⟨vs,hev,hcall⟩:=Ap hst hx hxy h1 h2 h3 (avs':=avs) (fun Φ1 σ' post fa hh hc=>iC w Φ1 _ (fun _ _=>rfl) (fun _ h=>h) _ _ _ hh (fun _ _=>rfl) hc) hbk (fun q1 q2=>ik hfn (by rw[ah,q1,q2];rfl)) (TI hok) hput
        rw[Ko hok] at hcall
        unfold Oper.wp
        rw[xh ho hc hev hpl]
        have hargs:c.args.map (Act.eval ⟨tmps,[]⟩)++vs=(c.args.toList.map (Act.eval ⟨tmps,[]⟩)++vs.toList).toArray:=by
         apply Array.ext';simp
        rw[Oper.upon_enter,hargs]
        refine hcall.mono ?_
        rintro en w' ⟨cv,Φ',f1,f',rfl,hext,hv,hhr,hrel,hinv,hnw,hs1,hs2⟩
        have hodst:=hnodst (fun a b c d hk=>by rw[hs] at hk;cases hk)
        refine next hv hrel hinv (hst.ext.trans hext hst.own) (fun b hb=>hs1 b (hst.sub b hb)) (fun b hb=>?_) (fun b hb=>?_) hp2 (fun h=>absurd h hodst) h
        ·rcases hs2 b hb with h|h|h
         ·exact hst.new b h
         ·rcases hst.own b h with h|h
          ·exact .inr (.inl h)
          ·exact .inr (.inr h)
         ·exact .inr (.inr (Nat.le_trans hst.ext.size h))
        ·rcases hnw b hb with h|h
         ·exact hst.own b h
         ·exact .inr (Nat.le_trans hst.ext.size h)
       ·cases h
      ·cases h
     ·cases h
    ·cases h
   ·cases h
  ·rw[hs] at h
   simp only at h
   split at h
   ·rename_i e1 b1 vs h1
    split at h
    ·rename_i g caps e2 b2 h2
     split at h
     ·rename_i avs live h3
      obtain⟨hpl,hbk,res,outs,hfn,hok,h⟩:=h
      split at h
      ·rename_i e3 hput
       split at h
       ·rename_i e4 hp2
        obtain⟨vs,hev,hcall⟩:=Ap hst hx hxy h1 h2 h3 (avs':=upg e (kY e 0 args) args avs) (fun Φ1 σ' post fa hh hc2=>I9 (a:=⟨tmps,[]⟩) hst.rel hst.lk (fun z hz=>by have:=yh (a:=⟨tmps,[]⟩) hst.rel hst.lk 0 [] rfl hx z hz post;simpa using this) hx hh hc2) hbk (fun _ _=>hfn) hok hput
        unfold Oper.wp
        rw[xh ho hc hev hpl]
        have hargs:c.args.map (Act.eval ⟨tmps,[]⟩)++vs=(c.args.toList.map (Act.eval ⟨tmps,[]⟩)++vs.toList).toArray:=by
         apply Array.ext';simp
        rw[Oper.upon_enter,hargs]
        refine hcall.mono ?_
        rintro en w' ⟨cv,Φ',f1,f',rfl,hext,hv,hhr,hrel,hinv,hnw,hs1,hs2⟩
        have hodst:=hnodst (fun a b c d hk=>by rw[hs] at hk;cases hk)
        refine next hv (uP hst.rel hrel) hinv (hst.ext.trans hext hst.own) (fun b hb=>hs1 b (hst.sub b hb)) (fun b hb=>?_) (fun b hb=>?_) hp2 (fun h=>absurd h hodst) h
        ·rcases hs2 b hb with h|h|h
         ·exact hst.new b h
         ·rcases hst.own b h with h|h
          ·exact .inr (.inl h)
          ·exact .inr (.inr h)
         ·exact .inr (.inr (Nat.le_trans hst.ext.size h))
        ·rcases hnw b hb with h|h
         ·exact hst.own b h
         ·exact .inr (Nat.le_trans hst.ext.size h)
       ·cases h
      ·cases h
     ·cases h
    ·cases h
   ·cases h
 unfold yz at h
 rcases hguard with ⟨hg1,hg2⟩|⟨j,b,oj,t,hg1,hg2,hjk,hoj,hojd,hDj,htn⟩
 ·rw[hg2] at h
  rw[if_pos (by simp[Region.wanted,hg1])]
  exact run h
 ·rw[hg2] at h
  simp only at h
  have hyb:∀ b',e[V.length+j]?=some (.bool b')→yielded ops tmps j=some b':=by
   intro b' he
   obtain⟨cv,q1,q2,hcv,hvr,_,_⟩:=dO _ hst.rel he
   obtain rfl:=o9 hvr
   rcases hst.lk _ _ hcv with hu|⟨t',ht',htv⟩
   ·cases hu
   ·rw[hνD hDj] at ht'
    obtain rfl:=Option.some.inj ht'
    have:tmps[t]?=some (.bool b'):=by
     have hlt:t<tmps.size:=by rw[hst.size];exact htn
     rw[Array.getD_eq_getD_getElem?,Array.getElem?_eq_getElem hlt] at htv
     rw[Array.getElem?_eq_getElem hlt]
     simpa using htv
    simp[yielded,hoj,hojd,this]
  have hyu:e[V.length+j]?=some (.tup [] [])→yielded ops tmps j=none:=by
   intro he
   obtain⟨cv,q1,q2,hcv,hvr,_,_⟩:=dO _ hst.rel he
   have hcu:cv=undef:=by
    simp only[VR] at hvr
    obtain⟨arr,rfl,hs,_⟩:=hvr
    have:arr=#[]:=Array.toList_inj.1 (by simpa using hs)
    subst this;rfl
   subst hcu
   rcases hst.lk _ _ hcv with hu|⟨t',ht',htv⟩
   ·cases hu
   ·rw[hνD hDj] at ht'
    obtain rfl:=Option.some.inj ht'
    have hlt:t<tmps.size:=by rw[hst.size];exact htn
    rw[Array.getD_eq_getD_getElem?,Array.getElem?_eq_getElem hlt] at htv
    have:tmps[t]?=some undef:=by rw[Array.getElem?_eq_getElem hlt];simpa using htv
    simp[yielded,hoj,hojd,this,undef]
  split at h
  ·rename_i he
   rcases qF he with ⟨b',he',hb⟩|⟨_,hb⟩
   ·have hb:b'=b:=by simpa using hb
    rw[hb] at he'
    rw[if_pos (by simp only[Region.wanted,hg1,hyb b he'];simp)]
    exact run h
   ·cases hb
  ·rename_i he
   have hnw:Region.wanted o (yielded ops tmps)=false:=by
    rcases qF he with ⟨b',he',hb⟩|⟨he',_⟩
    ·have hb:b'≠b:=by simpa using hb
     simp only[Region.wanted,hg1,hyb b' he']
     simpa using hb
    ·simp only[Region.wanted,hg1,hyu he'];rfl
   rw[if_neg (by rw[hnw];simp)]
   have hsd:so.dst=none:=by
    rcases hdst with ⟨h1,_⟩|⟨j,t,_,_,_,_,h5⟩
    ·exact h1
    ·rw[h5] at hg2;cases hg2
   have hput:(⟨tmps,[]⟩:Act).put o.dst undef=⟨(match o.dst with|some t=>tmps.setIfInBounds t undef|none=>tmps),[]⟩:=by cases o.dst<;>rfl
   rw[hput]
   have key:∀ (v:AV) (cv:Value),VR P w Φ C.σ ρ v cv (fun _=>0)→e.set (V.length+k) v=skE V.length k e so.k→(o.dst=none→cv=unk)→(∀ t,o.dst=some t→cv=undef)→K ⟨(match o.dst with|some t=>tmps.setIfInBounds t undef|none=>tmps),[]⟩ w:=by
    intro v cv hv hsk h1 h2
    have e0:(fun b=>(fun _=>0) b+f b)=f:=funext fun b=>by simp
    obtain⟨ρ2,g,hst2,hl2,hu2⟩:=Rh (C:=C) (e2:=e.set (V.length+k) v) (dst:=so.dst) (odst:=o.dst) hst.lk hst.size hv hst.rel (by rw[e0];exact hst.inv) hst.ext hst.sub hst.new (fun b hb=>hst.own b (by simpa using hb)) hν (by rw[hsd];rfl) hslot (hd cv h1)
    rw[hsk] at hst2
    have e1:∀ od:Option Nat,(∀ t,od=some t→cv=undef)→(match od with|some t=>tmps.setIfInBounds t cv|none=>tmps)=(match od with|some t=>tmps.setIfInBounds t undef|none=>tmps):=by
     intro od h2
     cases od with
     | none=>rfl
     | some t=>simp only[h2 t rfl]
    have hst3:=(e1 o.dst h2)▸hst2
    exact hK _ ρ2 _ w Φ g hst3 hl2 hu2 h
   have hVd:∀ cv,VR P w Φ C.σ ρ .dead cv (fun _=>0):=fun cv=>by simp[VR]
   have hVs:VR P w Φ C.σ ρ L8 undef (fun _=>0):=by simp[VR,CR,oq,undef]
   rcases hdst with ⟨_,⟨t2,h3,h4,h5⟩|⟨h3,a,b,c,d,hks⟩⟩|⟨j,t,h2,_⟩
   ·by_cases hs:∃ a b c d,so.k=.op (.store a b c d)
    ·obtain⟨a,b,c,d,hs⟩:=hs
     exact key .dead undef (hVd _) (by rw[hs];rfl) (fun h=>by rw[h3] at h;cases h) (fun _ _=>rfl)
    ·refine key L8 undef hVs ?_ (fun h=>by rw[h3] at h;cases h) (fun _ _=>rfl)
     unfold skE
     split
     ·rename_i hk0;exact absurd ⟨_,_,_,_,hk0⟩ hs
     ·rfl
   ·exact key .dead unk (hVd _) (by rw[hks];rfl) (fun _=>rfl) (fun t h=>by rw[h3] at h;cases h)
   ·rw[hsd] at h2;cases h2
  ·cases h
theorem DK {m k:Nat} {so:dJ} {sos:List dJ} {e:Env} {Q:Env→Prop} (h:kw P m k (so::sos) e Q):yz P m k so e fun e'=>kw P m (k+1) sos e' Q:=by
 unfold yz
 simp only[kw] at h
 exact h
theorem Aw {ops:Array Oper} {QQ:Exit→Act→World→Prop} {Q:Env→Prop} (hν:(V++D).Nodup)
  (hQ:∀ e ρ tmps w Φ f,St P C (V++D) n e ρ tmps w Φ f→Q e→QQ .normal ⟨tmps,[]⟩ w) :
  ∀ (sos:List dJ) (os:List Oper) (k:Nat) (e:Env) (ρ:List Value) (tmps:Array Value) (w:World) (Φ:Nat→Prop) (f:Cnt),je P V D n ops k os sos=true→St P C (V++D) n e ρ tmps w Φ f→e.length=V.length+(k+sos.length) →
   (∀ i,V.length+k≤i→i<ρ.length→ρ[i]?=some unk)→kw P V.length k sos e Q→wpList P ops QQ os ⟨tmps,[]⟩ w
 | [],os,k,e,ρ,tmps,w,Φ,f,hok,hst,hlen,hund,h=>by
  cases os with
  | nil=>exact wpList_nil (hQ _ _ _ _ _ _ hst (by simpa only[kw] using h))
  | cons o os=>simp[je] at hok
 | so::sos,os,k,e,ρ,tmps,w,Φ,f,hok,hst,hlen,hund,h=>by
  cases os with
  | nil=>simp[je] at hok
  | cons o os =>
   simp only[je,Bool.and_eq_true] at hok
   obtain⟨hok1,hok2⟩:=hok
   have hρl:e.length=ρ.length:=dm hst.rel
   simp only[List.length_cons] at hlen
   have hslot:ρ[V.length+k]?=some unk:=hund _ (Nat.le_refl _) (by omega)
   have:=wF (QQ:=QQ) (ops:=ops) (K:=wpList P ops QQ os) hν hok1 hst hslot (DK h) (fun e2 ρ2 tmps2 w2 Φ2 g hst2 hl2 hu2 hrun =>
    Aw hν hQ sos os (k+1) e2 ρ2 _ w2 Φ2 g hok2 hst2 (by rw[dm hst2.rel,hl2,←hρl];omega) (fun i hi hi2=>by
     rw[hu2 i (by omega) (by omega)]
     exact hund i (by omega) (by omega)) hrun)
   unfold wpList
   split
   ·rename_i hw;rw[if_pos hw] at this;exact .inl this
   ·rename_i hw;rw[if_neg hw] at this;exact this
end
end Go.AM
