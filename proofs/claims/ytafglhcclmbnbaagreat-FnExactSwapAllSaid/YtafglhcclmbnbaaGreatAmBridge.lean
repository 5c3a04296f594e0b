import Derived.Test.YtafglhcclmbnbaaGreatAmCode
import Derived.Orders
import Derived.LoopN
import Derived.ChangeArms
import Derived.ProofKit
import Derived.ChangeStays
import Derived.OpenShut
set_option linter.unusedSimpArgs false
set_option linter.unusedVariables false
set_option linter.unusedSectionVars false
namespace Go.AM
open Go
def jb:AV→Bool
 | .dead=>true
 | _=>false
theorem af7 {v:AV}:jb v=true↔v=.dead:=by cases v<;>simp[jb]
def Le (e e':Env):Prop:=∀ (i:Nat) (v:AV),e[i]?=some v→v≠AV.dead→e'[i]?=some v
theorem aDF {j:Nat}:lzv j .dead=.dead:=rfl
theorem bz {e e':Env} (h:Le e e') {x:Opd} {v:AV} (hx:ev e x=some v) (hv:v≠.dead):ev e' x=some v:=by
 cases x with
 | con u=>simpa [ev] using hx
 | slot j =>
  simp only[ev] at hx ⊢
  split at hx
  ·rename_i u hu
   simp at hx
   have:u≠.dead:=by rintro rfl;exact hv (by rw[←hx];rfl)
   rw[h j u hu this]
   simpa using hx
  ·cases hx
theorem gZ {e e':Env} (h:Le e e') {r:Nat} {p:List Nat} {row:List AV} (hx:jc e r p=some row):jc e' r p=some row:=by
 unfold jc at hx ⊢
 split at hx
 ·cases hx
 ·cases hx
 ·rename_i v h1 h2 hv
  rw[h r v hv h1]
  split
  ·rename_i h3;cases h3;exact (h1 rfl).elim
  ·rename_i h3;cases h3;exact (h2 rfl).elim
  ·rename_i v' _ _ h3;cases h3;exact hx
  ·rename_i h3;cases h3
 ·cases hx
theorem Ej {e e':Env} (h:Le e e') {st:Bool} {v:AV} {n:Nat} (hx:nZ e st v=some n):nZ e' st v=some n:=by
 unfold nZ at hx ⊢
 split at hx
 ·exact hx
 ·exact hx
 ·exact hx
 ·split at hx
  ·rename_i row hr
   rw[gZ h hr];exact hx
  ·cases hx
 ·cases hx
theorem I8 {e e':Env} (h:Le e e'):∀ {xs:List Opd} {vs:List AV},evs e xs=some vs→(∀ v∈vs,v≠.dead)→evs e' xs=some vs
 | [],vs,hx,_=>by simpa [evs] using hx
 | x::xs,vs,hx,hv=>by
  simp only[evs] at hx ⊢
  split at hx
  ·rename_i v h1
   split at hx
   ·rename_i vs' h2
    simp at hx;subst hx
    rw[bz h h1 (hv _ (by simp)),I8 h h2 (fun v hm=>hv v (by simp[hm]))]
   ·cases hx
  ·cases hx
theorem vz {e e':Env} (h:Le e e'):∀ {ps:List (Nat × Nat × Opd)} {cs cs':List AV},sH e cs ps=some cs'→sH e' cs ps=some cs'
 | [],cs,cs',hx=>by simpa [sH] using hx
 | (off,sz,x)::ps,cs,cs',hx=>by
  simp only[sH] at hx ⊢
  split at hx
  ·cases hx
  ·cases hx
  ·rename_i v h1 h2 hv
   have hd:v≠.dead:=fun hd=>h1 hd
   rw[bz h hv hd]
   split
   ·rename_i h3;cases h3;exact (h1 rfl).elim
   ·rename_i h3;cases h3;exact (h2 rfl).elim
   ·rename_i v' _ _ h3;cases h3
    split at hx
    ·rename_i hc;rw[if_pos hc];exact vz h hx
    ·cases hx
   ·rename_i h3;cases h3
  ·cases hx
theorem lZ {e e':Env} (h:Le e e') {d:Nat} {x:Option Opd} {i:Int} (hx:zQ e d x=some i):zQ e' d x=some i:=by
 cases x with
 | none=>simpa [zQ] using hx
 | some x =>
  simp only[zQ] at hx ⊢
  split at hx
  ·rename_i h1;rw[bz h h1 (by simp)];exact hx
  ·cases hx
def CS:SOp→Bool
 | .mv _=>true
 | .pick _ _ _=>true
 | .mk _ _=>true
 | .build _ _=>true
 | .load _ _ _=>true
 | .bin _ _ _=>true
 | .beq _ _ _=>true
 | .not _=>true
 | .neg _=>true
 | .conv _ _=>true
 | .mkf _ _=>true
 | .slice _ _ _ _ _=>true
 | .faddr _ _=>true
 | .iaddr _ _ _=>true
 | .idx _ _=>true
 | .len _ _=>true
 | .minmax _ _ _=>true
 | .ext _ _=>true
 | .mvt _=>true
 | .aidx _ _ _ _ _=>true
 | .b2s _=>true
 | .isnil _ _=>true
 | .sbeq _ _ _ _=>true
 | .nck _=>true
 | .fld _ _ _ _=>true
 | _=>false
theorem QS {e e':Env} (h:Le e e') {s:SOp} (hp:CS s=true) {v:AV} {e1:Env} (hx:opx e s=some (v,e1)) (hv:v≠.dead):opx e' s=some (v,e'):=by
 cases s with
 | mv x =>
  simp only[opx] at hx ⊢
  split at hx
  ·rename_i u hu
   simp at hx;obtain⟨rfl,rfl⟩:=hx
   rw[bz h hu hv]
  ·cases hx
 | pick c a b =>
  simp only[opx] at hx ⊢
  split at hx
  ·rename_i t hc
   rw[bz h hc (by simp)]
   split at hx
   ·rename_i u hu
    simp at hx;obtain⟨rfl,rfl⟩:=hx
    simp only[bz h hu hv]
   ·cases hx
  ·cases hx
 | mk t z=>simp[opx] at hx ⊢;exact hx.1
 | build z ps =>
  simp only[opx] at hx ⊢
  split at hx
  ·rename_i cs hc
   simp at hx;obtain⟨rfl,rfl⟩:=hx
   rw[vz h hc]
  ·cases hx
 | load sz ag x =>
  simp only[opx] at hx ⊢
  split at hx
  ·rename_i cs hc
   rw[bz h hc (by simp)]
   simp only
   split at hx
   ·rename_i h1;rw[if_pos h1]
    split at hx
    ·rename_i h2;simp at hx;obtain⟨rfl,rfl⟩:=hx;simp only[h2]
    ·cases hx
   ·cases hx
  ·rename_i r p o hc
   rw[bz h hc (by simp)]
   simp only
   split at hx
   ·rename_i row hr
    rw[gZ h hr]
    simp only
    split at hx
    ·rename_i h1;rw[if_pos h1]
     split at hx
     ·rename_i h2;simp at hx;obtain⟨rfl,rfl⟩:=hx;simp only[h2]
     ·cases hx
    ·cases hx
   ·cases hx
  ·cases hx
 | bin op x y =>
  simp only[opx] at hx ⊢
  split at hx
  ·rename_i a b ha hb
   split at hx
   ·rename_i u hu
    simp at hx;obtain⟨rfl,rfl⟩:=hx
    have h1:a≠.dead:=by rintro rfl;simp[Lu] at hu
    have h2:b≠.dead:=by rintro rfl;cases a<;>simp[Lu] at hu
    rw[bz h ha h1,bz h hb h2]
    simp only[hu]
   ·cases hx
  ·cases hx
 | beq ne x y =>
  simp only[opx] at hx ⊢
  split at hx
  ·rename_i a b ha hb
   rw[bz h ha (by simp),bz h hb (by simp)]
   simp at hx ⊢;exact hx.1
  ·cases hx
 | not x =>
  simp only[opx] at hx ⊢
  split at hx
  ·rename_i b hb;rw[bz h hb (by simp)];simp at hx ⊢;exact hx.1
  ·cases hx
 | neg x =>
  simp only[opx] at hx ⊢
  split at hx
  ·rename_i b hb;rw[bz h hb (by simp)];simp at hx ⊢;exact hx.1
  ·cases hx
 | conv k x =>
  simp only[opx] at hx ⊢
  split at hx
  ·rename_i b hb;rw[bz h hb (by simp)];simp at hx ⊢;exact hx.1
  ·cases hx
 | mkf f caps =>
  simp only[opx] at hx ⊢
  split at hx
  ·rename_i vs hvs
   split at hx
   ·rename_i hc
    rw[I8 h hvs (fun v hm=>by
     have:=List.all_eq_true.1 hc v hm
     rintro rfl;simp[mX,dB,dN] at this)]
    simp[hc] at hx ⊢;exact hx.1
   ·cases hx
  ·cases hx
 | slice st sz x lo hi =>
  simp only[opx] at hx ⊢
  split at hx
  ·rename_i n cs hc
   rw[bz h hc (by simp)]
   simp only
   split at hx
   ·rename_i l hh h1 h2
    rw[lZ h h1,lZ h h2]
    simp only
    split at hx
    ·rename_i h3;rw[if_pos h3];simp at hx ⊢;exact hx.1
    ·cases hx
   ·cases hx
  ·rename_i r p o hc
   rw[bz h hc (by simp)]
   simp only
   split at hx
   ·rename_i row hrow
    rw[gZ h hrow]
    split at hx
    ·rename_i s0 t n cs hro
     simp only[hro]
     split at hx
     ·rename_i l hh h1 h2
      rw[lZ h h1,lZ h h2]
      simp only
      split at hx
      ·rename_i h3;rw[if_pos h3];simp at hx ⊢;exact hx.1
      ·cases hx
     ·cases hx
    ·cases hx
   ·cases hx
  ·rename_i s hc
   rw[bz h hc (by simp)]
   simp only
   split at hx
   ·rename_i l hh h1 h2
    rw[lZ h h1,lZ h h2]
    simp only
    split at hx
    ·rename_i h3;rw[if_pos h3];simp at hx ⊢;exact hx.1
    ·cases hx
   ·cases hx
  ·cases hx
 | nck x =>
  simp only[opx] at hx ⊢
  split at hx
  ·rename_i cs hc
   rw[bz h hc (by simp)]
   simp at hx ⊢;exact hx.1
  ·rename_i r p o hc
   rw[bz h hc (by simp)]
   simp at hx ⊢;exact hx.1
  ·cases hx
 | fld off sz ag x =>
  simp only[opx] at hx ⊢
  split at hx
  ·rename_i cs hc
   rw[bz h hc (by simp)]
   simp only
   split at hx
   ·rename_i h1
    rw[if_pos h1]
    split at hx
    ·rename_i u hm
     simp at hx
     rw[hx.1]
    ·cases hx
   ·cases hx
  ·cases hx
 | faddr off x =>
  simp only[opx] at hx ⊢
  split at hx
  ·rename_i cs hc
   rw[bz h hc (by simp)]
   simp only
   split at hx
   ·rename_i h1;rw[if_pos h1];simp at hx ⊢;exact hx.1
   ·cases hx
  ·rename_i r p o hc
   rw[bz h hc (by simp)]
   simp at hx ⊢;exact hx.1
  ·cases hx
 | iaddr sz x i =>
  simp only[opx] at hx ⊢
  split at hx
  ·rename_i n cs _ i' hc hi
   rw[bz h hc (by simp),bz h hi (by simp)]
   simp only
   split at hx
   ·rename_i h1;rw[if_pos h1];simp at hx ⊢;exact hx.1
   ·cases hx
  ·rename_i r p o _ i' hc hi
   rw[bz h hc (by simp),bz h hi (by simp)]
   simp only
   split at hx
   ·rename_i row hr
    rw[gZ h hr]
    simp only
    split at hx
    ·rename_i h2
     split at hx
     ·rename_i h1;simp only[h2,if_pos h1];simp at hx ⊢;exact hx.1
     ·cases hx
    ·cases hx
   ·cases hx
  ·cases hx
 | idx x i =>
  simp only[opx] at hx ⊢
  split at hx
  ·rename_i s _ i' hc hi
   rw[bz h hc (by simp),bz h hi (by simp)]
   simp only
   split at hx
   ·rename_i h1;rw[if_pos h1];simp at hx ⊢;exact hx.1
   ·cases hx
  ·cases hx
 | len st x =>
  simp only[opx] at hx ⊢
  split at hx
  ·rename_i u hu
   split at hx
   ·rename_i n hn
    have:u≠.dead:=by rintro rfl;cases st<;>simp[nZ] at hn
    rw[bz h hu this]
    simp only[Ej h hn]
    simp at hx ⊢;exact hx.1
   ·cases hx
  ·cases hx
 | minmax mx x y =>
  simp only[opx] at hx ⊢
  split at hx
  ·rename_i k a k' b h1 h2
   rw[bz h h1 (by simp),bz h h2 (by simp)]
   simp only
   split at hx
   ·rename_i h3;rw[if_pos h3];simp at hx ⊢;exact hx.1
   ·cases hx
  ·cases hx
 | mvt j =>
  simp only[opx] at hx ⊢
  split at hx
  ·rename_i sh cs hj
   rw[h j _ hj (by simp)]
   simp at hx ⊢;exact hx.1
  ·cases hx
 | ext j ix =>
  simp only[opx] at hx ⊢
  split at hx
  ·rename_i sh cs hj
   rw[h j _ hj (by simp)]
   simp only
   split at hx
   ·rename_i h1
    split at hx
    ·rename_i c hc;simp at hx ⊢;exact hx.1
    ·cases hx
   ·rename_i n h1
    split at hx
    ·rename_i hc;rw[if_pos hc];simp at hx ⊢;exact hx.1
    ·cases hx
   ·cases hx
  ·cases hx
 | aidx sz ag n x i =>
  simp only[opx] at hx ⊢
  split at hx
  ·rename_i cs k i h1 h2
   rw[bz h h1 (by simp),bz h h2 (by simp)]
   simp only
   split at hx
   ·rename_i h3
    rw[if_pos h3]
    split at hx
    ·rename_i u hu;simp at hx ⊢;exact hx.1
    ·cases hx
   ·cases hx
  ·cases hx
 | sbeq ne ks x y =>
  simp only[opx] at hx ⊢
  split at hx
  ·rename_i cs ds h1 h2
   rw[bz h h1 (by simp),bz h h2 (by simp)]
   split at hx
   ·rename_i b hb
    simp only[hb]
    simp at hx ⊢;exact hx.1
   ·cases hx
  ·cases hx
 | isnil ne x =>
  simp only[opx] at hx ⊢
  split at hx
  ·rename_i u hu
   split at hx
   ·rename_i b hn
    have:u≠.dead:=by rintro rfl;simp[Qm,nZ] at hn
    rw[bz h hu this]
    have hn':Qm e' u=some b:=by
     revert hn
     cases u<;>simp only[Qm]<;>first|exact id|(split<;>rename_i hm<;>first|(intro hn;rw[Ej h hm];exact hn)|(intro hn;cases hn))
    simp only[hn']
    simp at hx ⊢;exact hx.1
   ·cases hx
  ·cases hx
 | b2s x =>
  simp only[opx] at hx ⊢
  split at hx
  ·rename_i n cs h1
   rw[bz h h1 (by simp)]
   simp only
   split at hx
   ·rename_i l hl
    split at hx
    ·rename_i h3;rw[if_pos h3];simp at hx ⊢;exact hx.1
    ·cases hx
   ·cases hx
  ·rename_i r p o h1
   rw[bz h h1 (by simp)]
   simp only
   split at hx
   ·rename_i row hrow
    rw[gZ h hrow]
    simp only
    split at hx
    ·rename_i et st n cs hro
     split at hx
     ·rename_i l hl
      split at hx
      ·rename_i h3;simp only[hl,if_pos h3];simp at hx ⊢;exact hx.1
      ·cases hx
     ·cases hx
    ·cases hx
   ·cases hx
  ·cases hx
 | _=>simp[CS] at hp
theorem zy {e e':Env} (h:Le e e') {c:AV} {r:AV × Bool} (hx:dY e c=some r):dY e' c=some r:=by
 cases c with
 | ps r p o =>
  simp only[dY] at hx ⊢
  split at hx
  ·rename_i row hr;rw[gZ h hr];exact hx
  ·cases hx
 | pp r p o =>
  simp only[dY] at hx ⊢
  split at hx
  ·cases hx
  ·rename_i hp
   rw[if_neg hp]
   split at hx
   ·rename_i row hr;rw[gZ h hr];exact hx
   ·cases hx
 | osl s t n cs=>cases n<;>cases cs<;>exact hx
 | _=>exact hx
theorem rq {e e':Env} (h:Le e e'):∀ {cs:List AV} {r:List AV × Bool},gI e cs=some r→gI e' cs=some r
 | [],r,hx=>hx
 | c::cs,r,hx=>by
  simp only[gI] at hx ⊢
  split at hx
  ·rename_i c' b h1
   rw[zy h h1]
   split at hx
   ·rename_i h2;rw[rq h h2];exact hx
   ·cases hx
  ·cases hx
theorem JL {e e':Env} (h:Le e e') {c:AV} {r:AV × Bool} (hx:lK e c=some r):lK e' c=some r:=by
 cases c with
 | agg cs =>
  simp only[lK] at hx ⊢
  split at hx
  ·rename_i h1;rw[rq h h1];exact hx
  ·cases hx
 | pf r p o =>
  simp only[lK] at hx ⊢
  split at hx
  ·rename_i hpo
   rw[if_pos hpo]
   split at hx
   ·rename_i g caps hr
    rw[h _ _ hr (by simp)]
    simp only
    split at hx
    ·rename_i hc
     rw[if_pos hc]
     split at hx
     ·rename_i h1;rw[rq h h1];exact hx
     ·cases hx
    ·cases hx
   ·cases hx
  ·cases hx
 | _=>simp only[lK] at hx ⊢;exact zy h hx
theorem uO {e e':Env} (h:Le e e'):∀ {xs:List Opd} {r:List AV × Bool},jZ e xs=some r→jZ e' xs=some r
 | [],r,hx=>hx
 | x::xs,r,hx=>by
  simp only[jZ] at hx ⊢
  split at hx
  ·rename_i v hv
   split at hx
   ·rename_i v' b h1
    have:v≠.dead:=by rintro rfl;simp[lK,dY,dN] at h1
    rw[bz h hv this]
    simp only[JL h h1]
    split at hx
    ·rename_i h2;rw[uO h h2];exact hx
    ·cases hx
   ·cases hx
  ·cases hx
theorem FU {e e':Env} (h:Le e e') {x:Opd} {r:Nat × List AV} (hx:jq e x=some r):jq e' x=some r:=by
 unfold jq at hx ⊢
 split at hx
 ·rename_i g hv
  rw[bz h hv (by simp)];exact hx
 ·rename_i r p o hv
  rw[bz h hv (by simp)]
  simp only
  split at hx
  ·rename_i hpo
   rw[if_pos hpo]
   split at hx
   ·rename_i g caps hr
    rw[h _ _ hr (by simp)]
    exact hx
   ·cases hx
  ·cases hx
 ·cases hx
def Frm (e e1 e' e1':Env):Prop:=∀ i:Nat,(e1[i]?=e[i]?∧e1'[i]?=e'[i]?)∨(e1[i]?=e1'[i]?∧e[i]?=e'[i]?)
theorem Frm.trans {e e1 e2 e' e1' e2':Env} (h:Frm e e1 e' e1') (h':Frm e1 e2 e1' e2'):Frm e e2 e' e2':=fun i=>by
 rcases h i with ⟨a,b⟩|⟨a,b⟩<;>rcases h' i with ⟨c,d⟩|⟨c,d⟩
 ·exact .inl ⟨c.trans a,d.trans b⟩
 ·exact .inr ⟨c,by rw[←a,d,b]⟩
 ·exact .inr ⟨by rw[c,d,a],b⟩
 ·exact .inr ⟨c,b⟩
theorem yh {e e':Env} (h:Le e e') {r:Nat} {p:List Nat} {row row2:List AV} (hr:jc e r p=some row):Le (bY e r p row2) (bY e' r p row2)∧Frm e (bY e r p row2) e' (bY e' r p row2):=by
 obtain⟨v,hv,hd,hg,_⟩:=oH hr
 have hv':=h r v hv hd
 have e1:bY e r p row2=e.set r (iK v (setRow (cellsOf v) p row2)):=by unfold bY;rw[hv]
 have e2:bY e' r p row2=e'.set r (iK v (setRow (cellsOf v) p row2)):=by unfold bY;rw[hv']
 have l1:=(List.getElem?_eq_some_iff.1 hv).1
 have l2:=(List.getElem?_eq_some_iff.1 hv').1
 rw[e1,e2]
 refine⟨fun i u hi hu=>?_,fun i=>?_⟩
 ·by_cases hir:r=i
  ·subst hir
   rw[List.getElem?_set_self l1] at hi
   rw[List.getElem?_set_self l2];exact hi
  ·rw[List.getElem?_set_ne hir] at hi ⊢
   exact h i u hi hu
 ·by_cases hir:r=i
  ·subst hir
   exact .inr ⟨by rw[List.getElem?_set_self l1,List.getElem?_set_self l2],by rw[hv,hv']⟩
  ·exact .inl ⟨by rw[List.getElem?_set_ne hir],by rw[List.getElem?_set_ne hir]⟩
theorem DU {e e' e1:Env} (h:Le e e') {c c':AV} (hx:takeC e c=some (c',e1)):∃ e1',takeC e' c=some (c',e1')∧Le e1 e1'∧Frm e e1 e' e1':=by
 have same:takeC e c=some (c',e)→takeC e' c=some (c',e')→e1=e→∃ e1',takeC e' c=some (c',e1')∧Le e1 e1'∧Frm e e1 e' e1':=by
  rintro _ h2 rfl
  exact⟨e',h2,h,fun i=>.inl ⟨rfl,rfl⟩⟩
 cases c with
 | ps r p o =>
  simp only[takeC] at hx ⊢
  split at hx
  ·rename_i row hrow
   split at hx
   ·rename_i s t n cs hro
    simp only[Option.some.injEq,Prod.mk.injEq] at hx
    obtain⟨rfl,rfl⟩:=hx
    obtain⟨k1,k2⟩:=yh (row2:=row.set o .gone) h hrow
    exact⟨_,by rw[gZ h hrow];simp only[hro],k1,k2⟩
   ·cases hx
  ·cases hx
 | pp r p o =>
  simp only[takeC] at hx ⊢
  split at hx
  ·rename_i ho
   split at hx
   ·rename_i k hk
    split at hx
    ·rename_i row hrow
     split at hx
     ·rename_i s t cs hro
      simp only[Option.some.injEq,Prod.mk.injEq] at hx
      obtain⟨rfl,rfl⟩:=hx
      obtain⟨k1,k2⟩:=yh (row2:=row.set k .gone) h hrow
      exact⟨_,by simp only[if_pos ho,gZ h hrow,hro],k1,k2⟩
     ·cases hx
    ·cases hx
   ·cases hx
  ·cases hx
 | int k n=>simp[takeC] at hx;exact same (by simp[takeC,hx.1]) (by simp[takeC,hx.1]) hx.2.symm
 | bool b=>simp[takeC] at hx;exact same (by simp[takeC,hx.1]) (by simp[takeC,hx.1]) hx.2.symm
 | str s=>simp[takeC] at hx;exact same (by simp[takeC,hx.1]) (by simp[takeC,hx.1]) hx.2.symm
 | nilf=>simp[takeC] at hx;exact same (by simp[takeC,hx.1]) (by simp[takeC,hx.1]) hx.2.symm
 | nsl t=>simp[takeC] at hx;exact same (by simp[takeC,hx.1]) (by simp[takeC,hx.1]) hx.2.symm
 | rsl n cs=>simp[takeC] at hx;exact same (by simp[takeC,hx.1]) (by simp[takeC,hx.1]) hx.2.symm
 | rp cs=>simp[takeC] at hx;exact same (by simp[takeC,hx.1]) (by simp[takeC,hx.1]) hx.2.symm
 | fn g cs=>cases cs with
  | nil=>simp[takeC] at hx;exact same (by simp[takeC,hx.1]) (by simp[takeC,hx.1]) hx.2.symm
  | cons c cs=>simp[takeC] at hx
 | osl s t n cs=>cases n with
  | zero=>cases cs with
   | nil=>simp[takeC] at hx;obtain⟨rfl,rfl⟩:=hx;exact same (by simp[takeC]) (by simp[takeC]) rfl
   | cons c cs=>simp[takeC] at hx
  | succ n=>simp[takeC] at hx
 | _=>simp[takeC] at hx
theorem pV:∀ {cs cs':List AV} {e e' e1:Env},Le e e'→bP e cs=some (cs',e1)→∃ e1',bP e' cs=some (cs',e1')∧Le e1 e1'∧Frm e e1 e' e1'
 | [],cs',e,e',e1,h,hx=>by
  simp[bP] at hx
  obtain⟨rfl,rfl⟩:=hx
  exact⟨e',by simp[bP],h,fun i=>.inl ⟨rfl,rfl⟩⟩
 | c::cs,cs',e,e',e1,h,hx=>by
  simp only[bP] at hx ⊢
  split at hx
  ·rename_i c1 e2 h1
   split at hx
   ·rename_i cs1 e3 h2
    simp only[Option.some.injEq,Prod.mk.injEq] at hx
    obtain⟨rfl,rfl⟩:=hx
    obtain⟨a1,a2,a3,a4⟩:=DU h h1
    obtain⟨b1,b2,b3,b4⟩:=pV a3 h2
    exact⟨b1,by rw[a2];simp only[b2],b3,a4.trans b4⟩
   ·cases hx
  ·cases hx
theorem ae3 {e e' e1:Env} (h:Le e e') {t n:Nat} {z:List AV} {ps:List (Nat × Nat × Opd)} {v:AV} (hx:opx e (.bsl t n z ps)=some (v,e1)):∃ e1',opx e' (.bsl t n z ps)=some (v,e1')∧Frm e e1 e' e1'∧e1'.length=e'.length:=by
 have len:∀ {cs cs':List AV} {e e1:Env},bP e cs=some (cs',e1)→e1.length=e.length:=by
  intro cs
  induction cs with
  | nil=>intro cs' e e1 h;simp[bP] at h;rw[h.2]
  | cons c cs ih =>
   intro cs' e e1 h
   simp only[bP] at h
   split at h
   ·rename_i c1 e2 h1
    split at h
    ·rename_i h2
     simp only[Option.some.injEq,Prod.mk.injEq] at h
     obtain⟨_,rfl⟩:=h
     rw[ih h2]
     have s1:∀ r p row,(bY e r p row).length=e.length:=by intro r p row;unfold bY;split<;>simp
     cases c with
     | ps r p o =>
      simp only[takeC] at h1
      split at h1
      ·split at h1
       ·simp only[Option.some.injEq,Prod.mk.injEq] at h1;rw[←h1.2];exact s1 _ _ _
       ·cases h1
      ·cases h1
     | pp r p o =>
      simp only[takeC] at h1
      split at h1
      ·split at h1
       ·split at h1
        ·split at h1
         ·simp only[Option.some.injEq,Prod.mk.injEq] at h1;rw[←h1.2];exact s1 _ _ _
         ·cases h1
        ·cases h1
       ·cases h1
      ·cases h1
     | fn g cs=>cases cs<;>simp[takeC] at h1;rw[h1.2]
     | osl s t n cs=>cases n<;>cases cs<;>simp[takeC] at h1;rw[h1.2]
     | _=>simp[takeC] at h1<;>rw[h1.2]
    ·cases h
   ·cases h
 simp only[opx] at hx ⊢
 split at hx
 ·rename_i cs hf
  split at hx
  ·rename_i cs' e2 ht
   simp only[Option.some.injEq,Prod.mk.injEq] at hx
   obtain⟨rfl,rfl⟩:=hx
   obtain⟨a1,a2,a3,a4⟩:=pV h ht
   exact⟨a1,by rw[vz h hf];simp only[a2],a4,len a2⟩
  ·cases hx
 ·cases hx
theorem DT {c c':AV} {e e1:Env} (h1:takeC e c=some (c',e1)):e1.length=e.length:=by
 have s1:∀ r p row,(bY e r p row).length=e.length:=by intro r p row;unfold bY;split<;>simp
 cases c with
 | ps r p o =>
  simp only[takeC] at h1
  split at h1
  ·split at h1
   ·simp only[Option.some.injEq,Prod.mk.injEq] at h1;rw[←h1.2];exact s1 _ _ _
   ·cases h1
  ·cases h1
 | pp r p o =>
  simp only[takeC] at h1
  split at h1
  ·split at h1
   ·split at h1
    ·split at h1
     ·simp only[Option.some.injEq,Prod.mk.injEq] at h1;rw[←h1.2];exact s1 _ _ _
     ·cases h1
    ·cases h1
   ·cases h1
  ·cases h1
 | fn g cs=>cases cs<;>simp[takeC] at h1;rw[h1.2]
 | osl s t n cs=>cases n<;>cases cs<;>simp[takeC] at h1;rw[h1.2]
 | _=>simp[takeC] at h1<;>rw[h1.2]
theorem uB:∀ {cs cs':List AV} {e e1:Env},bP e cs=some (cs',e1)→e1.length=e.length
 | [],cs',e,e1,h=>by simp[bP] at h;rw[h.2]
 | c::cs,cs',e,e1,h=>by
  simp only[bP] at h
  split at h
  ·rename_i c1 e2 h1
   split at h
   ·rename_i h2
    simp only[Option.some.injEq,Prod.mk.injEq] at h
    obtain⟨_,rfl⟩:=h
    rw[uB h2,DT h1]
   ·cases h
  ·cases h
theorem PK {e e' e1:Env} (h:Le e e') {el sz:Nat} {x:AV} {m:Nat} {new:List AV} (hx:ui e el sz x=some (m,new,e1)):∃ e1',ui e' el sz x=some (m,new,e1')∧Le e1 e1'∧Frm e e1 e' e1'∧e1'.length=e'.length:=by
 cases x<;>simp only[ui] at hx ⊢<;>try (cases hx;done)
 ·simp only[Option.some.injEq,Prod.mk.injEq] at hx
  obtain⟨rfl,rfl,rfl⟩:=hx
  exact⟨e',rfl,h,fun i=>.inl ⟨rfl,rfl⟩,rfl⟩
 ·split at hx
  ·rename_i hl
   simp only[Option.some.injEq,Prod.mk.injEq] at hx
   obtain⟨rfl,rfl,rfl⟩:=hx
   exact⟨e',by rw[if_pos hl],h,fun i=>.inl ⟨rfl,rfl⟩,rfl⟩
  ·cases hx
 ·rename_i t n cs
  cases n with
  | succ n=>simp at hx
  | zero=>cases cs with
   | cons c cs=>simp at hx
   | nil =>
    simp only[Option.some.injEq,Prod.mk.injEq] at hx
    obtain⟨rfl,rfl,rfl⟩:=hx
    exact⟨e',rfl,h,fun i=>.inl ⟨rfl,rfl⟩,rfl⟩
 ·rename_i r p o
  split at hx
  ·rename_i row hrow
   rw[gZ h hrow]
   split at hx
   ·rename_i t n cs hro
    split at hx
    ·rename_i ht
     split at hx
     ·rename_i cs' e2 htk
      simp only[Option.some.injEq,Prod.mk.injEq] at hx
      obtain⟨rfl,rfl,rfl⟩:=hx
      obtain⟨a1,a2,a3,a4⟩:=pV h htk
      exact⟨a1,by simp only[hro,if_pos ht,a2],a3,a4,uB a2⟩
     ·cases hx
    ·cases hx
   ·cases hx
  ·cases hx
 ·rename_i r p o lo m1 z1
  split at hx
  ·rename_i row hrow
   rw[gZ h hrow]
   split at hx
   ·rename_i s0 t n cs hro
    split at hx
    ·rename_i ht
     split at hx
     ·rename_i cs' e2 htk
      simp only[Option.some.injEq,Prod.mk.injEq] at hx
      obtain⟨rfl,rfl,rfl⟩:=hx
      obtain⟨a1,a2,a3,a4⟩:=pV h htk
      exact⟨a1,by simp only[hro,if_pos ht,a2],a3,a4,uB a2⟩
     ·cases hx
    ·cases hx
   ·cases hx
  ·cases hx
theorem ae8 {e e' e1:Env} (h:Le e e') {t sz:Nat} {s x:Opd} {v:AV} (hx:LG e t sz s x=some (v,e1)):∃ e1',LG e' t sz s x=some (v,e1')∧Frm e e1 e' e1'∧e1'.length=e'.length:=by
 unfold LG at hx ⊢
 split at hx
 ·rename_i sv xv h1 h2
  split at hx
  ·rename_i m new ea hel
   split at hx
   ·rename_i t' n cs eb htk
    split at hx
    ·rename_i hc
     simp only[Option.some.injEq,Prod.mk.injEq] at hx
     obtain⟨rfl,rfl⟩:=hx
     have hs:sv≠.dead:=by rintro rfl;simp[takeC] at htk
     have hxv:xv≠.dead:=by rintro rfl;simp[ui] at hel
     obtain⟨a1,a2,a3,a4,a5⟩:=PK h hel
     obtain⟨b1,b2,b3,b4⟩:=DU a3 htk
     exact⟨b1,by rw[bz h h1 hs,bz h h2 hxv];simp only[a2,b2,if_pos hc],a4.trans b4,by rw[DT b2,a5]⟩
    ·cases hx
   ·cases hx
  ·cases hx
 ·cases hx
theorem O5 {e0 e2:Env} (h:∀ i,i<e0.length→e2[i]?=e0[i]?) {u:AV} (hl:kw e0 u=true):kw e2 u=true:=by
 have row:∀ r p,(jc e0 r p).isSome=true→(jc e2 r p).isSome=true:=by
  intro r p hs
  have hr:r<e0.length:=by
   apply Decidable.byContradiction
   intro hn
   unfold jc at hs
   rw[List.getElem?_eq_none (by omega)] at hs
   simp at hs
  unfold jc at hs ⊢
  rw[h r hr];exact hs
 have cell:∀ c,qR e0 c=true→qR e2 c=true:=by
  intro c hc
  cases c with
  | ps r p o=>exact row r p hc
  | pp r p o=>exact row r p hc
  | pf r p o=>exact row r p hc
  | pw r p o lo m sz=>exact row r p hc
  | _=>exact hc
 cases u with
 | agg cs=>simp only[kw,List.all_eq_true] at hl ⊢;exact fun c hc=>cell c (hl c hc)
 | tup sh cs=>simp only[kw,List.all_eq_true] at hl ⊢;exact fun c hc=>cell c (hl c hc)
 | ps r p o=>exact cell (.ps r p o) hl
 | pp r p o=>exact cell (.pp r p o) hl
 | pf r p o=>exact cell (.pf r p o) hl
 | pw r p o lo m sz=>exact cell (.pw r p o lo m sz) hl
 | _=>exact hl
def yT (x:Opd) (e:Env):Env:=match x with
 | .slot j=>e.set j .dead
 | .con _=>e
def gp (p:Nat→Bool):Nat→List AV→List AV
 | _,[]=>[]
 | k,v::vs=>(if p k then v else .dead)::gp p (k+1) vs
def OpV (P:Program) (so:bM) (e:Env) (K:AV→Prop):Prop :=
 match so.k with
 | .op s=>CS s=true∧match opx e s with
  | some (v,_)=>jb v=false∧K v
  | none=>False
 | .call g args fr=>match jZ e args with
  | some (avs,live)=>∃ res,Says P g avs res []∧(live=true→gy res=true) ∧
    match (if fr then frz res else some res) with
    | some v=>jb v=false∧K v
    | none=>False
  | none=>False
 | .callv x args=>match jq e x,jZ e args with
  | some (g,caps),some (avs,live)=>aY P g=true∧∃ res,Says P g (avs++caps) res []∧(live=true→gy res=true)∧jb res=false∧K res
  | _,_=>False
 | .callm _ _=>False
def mM:Env→List Nat→Env
 | e,[]=>e
 | e,d::ds=>mM (e.set d .dead) ds
theorem xH:∀ (ds:List Nat) (e:Env) (i:Nat),(mM e ds)[i]?=if i∈ds∧i<e.length then some .dead else e[i]?
 | [],e,i=>by rw[mM,if_neg (by simp)]
 | d::ds,e,i=>by
  rw[mM,xH ds _ i,List.length_set]
  by_cases h:d=i
  ·subst h
   by_cases hl:d<e.length
   ·rw[List.getElem?_set_self hl];simp[hl]
   ·rw[List.getElem?_eq_none (by simp;omega),if_neg (by omega),if_neg (by omega),List.getElem?_eq_none (by omega)]
  ·rw[List.getElem?_set_ne h]
   by_cases h2:i∈ds∧i<e.length
   ·rw[if_pos h2,if_pos ⟨List.mem_cons_of_mem _ h2.1,h2.2⟩]
   ·rw[if_neg h2,if_neg (fun h3=>h2 ⟨(List.mem_cons.1 h3.1).resolve_left (fun h4=>h h4.symm),h3.2⟩)]
theorem Eo {ds:List Nat} {e e':Env} (h:mM e ds=mM e' ds) {i:Nat} (hi:i ∉ ds):e[i]?=e'[i]?:=by
 have h1:=congrArg (fun l=>l[i]?) h
 simp only[xH] at h1
 rwa [if_neg (fun h2=>hi h2.1),if_neg (fun h2=>hi h2.1)] at h1
def OpC (so:bM) (e:Env) (ds:List Nat) (K:AV→Prop):Prop :=
 match so.k with
 | .op (.bsl t n z ps)=>match opx e (.bsl t n z ps) with
  | some (v,e1)=>jb v=false∧mM e1 ds=mM e ds∧K v
  | none=>False
 | .op (.append t sz s x)=>match LG e t sz s x with
  | some (v,e1)=>jb v=false∧mM e1 ds=mM e ds∧K v
  | none=>False
 | _=>False
def isApp (so:bM):Bool:=match so.k with
 | .op (.append _ _ _ _)=>true
 | _=>false
def EX (e:Env) (so:bM) (Q:List AV→Prop):List AV→Prop:=fun vs=>(isApp so=true→(e++vs).all (kw e)=true)∧Q vs
theorem afa {e:Env} {so:bM} {Q:List AV→Prop} (h:isApp so=false):EX e so Q=Q:=by
 funext vs
 simp[EX,h]
def qA (cons:List (Nat × Nat)) (S:List (List Nat)) (k:Nat) (see:List Nat) (i:Nat):Bool:=see.contains i&&!(cons.any fun c=>c.2==i&&c.1 != k&&!(S.getD c.1 []).contains k)
def o8 (cons:List (Nat × Nat)) (k:Nat):Option (List Nat):=match (cons.filter fun c=>c.1==k).map (·.2) with
 | []=>none
 | js=>some js
def Dt (P:Program) (e:Env) (cons:List (Nat × Nat)) (S:List (List Nat)):List bM→List (List Nat)→List AV→(List AV→Prop)→Prop
 | [],_,acc,Q=>Q acc
 | so::rest,sees,acc,Q=>so.dst=none∧match o8 cons acc.length with
  | some js=>match so.guard with
   | none=>OpC so (e++gp (qA cons S acc.length (sees.headD [])) 0 acc) (js.map (e.length + ·)) fun v=>Dt P e cons S rest sees.tail (acc++[v]) (EX e so Q)
   | some (s,b)=>match jv b (e++gp (qA cons S acc.length (sees.headD [])) 0 acc)[s]? with
    | some true=>OpC so (e++gp (qA cons S acc.length (sees.headD [])) 0 acc) (js.map (e.length + ·)) fun v=>Dt P e cons S rest sees.tail (acc++[v]) (EX e so Q)
    | some false=>Dt P e cons S rest sees.tail (acc++[skV so.k]) Q
    | none=>False
  | none=>match so.guard with
   | none=>OpV P so (e++gp (qA cons S acc.length (sees.headD [])) 0 acc) fun v=>Dt P e cons S rest sees.tail (acc++[v]) Q
   | some (s,b)=>match jv b (e++gp (qA cons S acc.length (sees.headD [])) 0 acc)[s]? with
    | some true=>OpV P so (e++gp (qA cons S acc.length (sees.headD [])) 0 acc) fun v=>Dt P e cons S rest sees.tail (acc++[v]) Q
    | some false=>Dt P e cons S rest sees.tail (acc++[skV so.k]) Q
    | none=>False
def aff (P:Program) (e:Env) (cons:List (Nat × Nat)) (S:List (List Nat)) (so:bM) (see:List Nat) (vs:List AV) (k:Nat):Prop :=
 so.dst=none∧match o8 cons k with
 | some js=>match so.guard with
  | none=>(isApp so=true→(e++vs).all (kw e)=true)∧OpC so (e++gp (qA cons S k see) 0 (vs.take k)) (js.map (e.length + ·)) fun v=>vs[k]?=some v
  | some (s,b)=>match jv b (e++gp (qA cons S k see) 0 (vs.take k))[s]? with
   | some true=>(isApp so=true→(e++vs).all (kw e)=true)∧OpC so (e++gp (qA cons S k see) 0 (vs.take k)) (js.map (e.length + ·)) fun v=>vs[k]?=some v
   | some false=>vs[k]?=some (skV so.k)
   | none=>False
 | none=>match so.guard with
  | none=>OpV P so (e++gp (qA cons S k see) 0 (vs.take k)) fun v=>vs[k]?=some v
  | some (s,b)=>match jv b (e++gp (qA cons S k see) 0 (vs.take k))[s]? with
   | some true=>OpV P so (e++gp (qA cons S k see) 0 (vs.take k)) fun v=>vs[k]?=some v
   | some false=>vs[k]?=some (skV so.k)
   | none=>False
theorem GY {so:bM} {e:Env} {d:List Nat} {K:AV→Prop} (h:OpC so e d K):∃ v,OpC so e d (fun u=>u=v)∧K v:=by
 unfold OpC at h
 split at h
 ·rename_i t n z ps hk
  split at h
  ·rename_i v e1 hx
   exact⟨v,by unfold OpC;rw[hk];simp only[hx];exact⟨h.1,h.2.1,trivial⟩,h.2.2⟩
  ·cases h
 ·rename_i t sz s x hk
  split at h
  ·rename_i v e1 hx
   exact⟨v,by unfold OpC;rw[hk];simp only[hx];exact⟨h.1,h.2.1,trivial⟩,h.2.2⟩
  ·cases h
 ·cases h
theorem ou {so:bM} {e:Env} {d:List Nat} {K K':AV→Prop} (hK:∀ v,K v→K' v) (h:OpC so e d K):OpC so e d K':=by
 unfold OpC at h ⊢
 split at h
 ·split at h
  ·exact⟨h.1,h.2.1,hK _ h.2.2⟩
  ·cases h
 ·split at h
  ·exact⟨h.1,h.2.1,hK _ h.2.2⟩
  ·cases h
 ·cases h
theorem GX {P:Program} {so:bM} {e:Env} {K:AV→Prop} (h:OpV P so e K):∃ v,OpV P so e (fun u=>u=v)∧K v:=by
 unfold OpV at h
 split at h
 ·rename_i s hk
  obtain⟨h1,h⟩:=h
  split at h
  ·rename_i v e' hx
   exact⟨v,by unfold OpV;rw[hk];simp only[hx];exact⟨h1,h.1,trivial⟩,h.2⟩
  ·cases h
 ·rename_i g args fr hk
  split at h
  ·rename_i avs live hp
   obtain⟨res,h1,h2,h⟩:=h
   split at h
   ·rename_i v hv
    exact⟨v,by unfold OpV;rw[hk];simp only[hp];exact⟨res,h1,h2,by rw[hv];exact⟨h.1,rfl⟩⟩,h.2⟩
   ·cases h
  ·cases h
 ·rename_i x args hk
  split at h
  ·rename_i g caps avs live hc hp
   obtain⟨hpl,res,h1,h2,h3,h⟩:=h
   exact⟨res,by unfold OpV;rw[hk];simp only[hc,hp];exact⟨hpl,res,h1,h2,h3,rfl⟩,h⟩
  ·cases h
 ·cases h
theorem oq {P:Program} {so:bM} {e:Env} {K K':AV→Prop} (hK:∀ v,K v→K' v) (h:OpV P so e K):OpV P so e K':=by
 unfold OpV at h ⊢
 split at h
 ·rename_i s hk
  obtain⟨h1,h⟩:=h
  refine⟨h1,?_⟩
  split at h
  ·exact⟨h.1,hK _ h.2⟩
  ·cases h
 ·rename_i g args fr hk
  split at h
  ·obtain⟨res,h1,h2,h⟩:=h
   refine⟨res,h1,h2,?_⟩
   split at h
   ·exact⟨h.1,hK _ h.2⟩
   ·cases h
  ·cases h
 ·split at h
  ·obtain⟨hpl,res,h1,h2,h3,h⟩:=h
   exact⟨hpl,res,h1,h2,h3,hK _ h⟩
  ·cases h
 ·cases h
theorem Fa {P:Program} {e:Env} {cons:List (Nat × Nat)} {S:List (List Nat)}:∀ {sos:List bM} {sees:List (List Nat)} {acc:List AV} {Q:List AV→Prop},Dt P e cons S sos sees acc Q →
  ∃ vs,vs.length=acc.length+sos.length∧(∃ ws,vs=acc++ws)∧Q vs∧∀ (k:Nat) (so:bM),sos[k]?=some so→aff P e cons S so (sees.getD k []) vs (acc.length+k)
 | [],sees,acc,Q,h=>⟨acc,by simp,⟨[],by simp⟩,h,fun k so hk=>by simp at hk⟩
 | so::rest,sees,acc,Q,h=>by
  simp only[Dt] at h
  obtain⟨hdst,h⟩:=h
  have hd:sees.headD []=sees.getD 0 []:=by cases sees<;>rfl
  have ht:∀ k,sees.tail.getD k []=sees.getD (k+1) []:=fun k=>by cases sees<;>simp
  have go:∀ (v:AV) (Q' L:List AV→Prop),(∀ vs,Q' vs→L vs∧Q vs)→Dt P e cons S rest sees.tail (acc++[v]) Q'→(∀ vs:List AV,vs.take acc.length=acc→vs[acc.length]?=some v→L vs→aff P e cons S so (sees.getD 0 []) vs acc.length) →
    ∃ vs,vs.length=acc.length+(so::rest).length∧(∃ ws,vs=acc++ws)∧Q vs∧∀ (k:Nat) (so':bM),(so::rest)[k]?=some so'→aff P e cons S so' (sees.getD k []) vs (acc.length+k):=by
   intro v Q' L hQ' hr hv
   obtain⟨vs,h1,⟨ws,rfl⟩,h3,h4⟩:=Fa hr
   refine⟨_,by rw[h1];simp;omega,⟨[v]++ws,by simp⟩,(hQ' _ h3).2,fun k so' hk=>?_⟩
   cases k with
   | zero =>
    simp at hk;subst hk
    exact hv _ (by simp) (by simp) (hQ' _ h3).1
   | succ k =>
    have:=h4 k so' (by simpa using hk)
    rw[ht] at this
    simpa [Nat.add_assoc,Nat.add_comm 1 k] using this
  rw[hd] at h
  split at h
  ·rename_i j hj
   split at h
   ·rename_i hg
    obtain⟨v,h1,h2⟩:=GY h
    refine go v (EX e so Q) (fun vs=>isApp so=true→(e++vs).all (kw e)=true) (fun _ h=>h) h2 fun vs ht hv hlv=>⟨hdst,?_⟩
    rw[hj,hg]
    simp only[ht]
    exact⟨hlv,ou (fun u hu=>by rw[hu];exact hv) h1⟩
   ·rename_i s b hg
    split at h
    ·rename_i hb
     obtain⟨v,h1,h2⟩:=GY h
     refine go v (EX e so Q) (fun vs=>isApp so=true→(e++vs).all (kw e)=true) (fun _ h=>h) h2 fun vs ht hv hlv=>⟨hdst,?_⟩
     rw[hj,hg]
     simp only[ht,hb]
     exact⟨hlv,ou (fun u hu=>by rw[hu];exact hv) h1⟩
    ·rename_i hb
     refine go (skV so.k) Q (fun _=>True) (fun _ h=>⟨trivial,h⟩) h fun vs ht hv _=>⟨hdst,?_⟩
     rw[hj,hg]
     simp only[ht,hb]
     exact hv
    ·cases h
  ·rename_i hj
   split at h
   ·rename_i hg
    obtain⟨v,h1,h2⟩:=GX h
    refine go v Q (fun _=>True) (fun _ h=>⟨trivial,h⟩) h2 fun vs ht hv _=>⟨hdst,?_⟩
    rw[hj,hg]
    simp only[ht]
    exact oq (fun u hu=>by rw[hu];exact hv) h1
   ·rename_i s b hg
    split at h
    ·rename_i hb
     obtain⟨v,h1,h2⟩:=GX h
     refine go v Q (fun _=>True) (fun _ h=>⟨trivial,h⟩) h2 fun vs ht hv _=>⟨hdst,?_⟩
     rw[hj,hg]
     simp only[ht,hb]
     exact oq (fun u hu=>by rw[hu];exact hv) h1
    ·rename_i hb
     refine go (skV so.k) Q (fun _=>True) (fun _ h=>⟨trivial,h⟩) h fun vs ht hv _=>⟨hdst,?_⟩
     rw[hj,hg]
     simp only[ht,hb]
     exact hv
    ·cases h
theorem mf {p:Nat→Bool}:∀ {vs:List AV} {k i:Nat},(gp p k vs)[i]?=(vs[i]?).map fun v=>if p (k+i) then v else .dead
 | [],k,i=>by simp[gp]
 | v::vs,k,0=>by simp[gp]
 | v::vs,k,i+1=>by simp[gp,mf,Nat.add_assoc,Nat.add_comm 1 i]
theorem ja {p:Nat→Bool}:∀ {vs:List AV} {k:Nat},(gp p k vs).length=vs.length
 | [],k=>rfl
 | v::vs,k=>by simp[gp,ja]
def lw (e:Env) (p:Nat→Bool) (vs:List AV) (r:Nat):Env:=e++gp p 0 vs++List.replicate r .dead
theorem yD {e:Env} {p:Nat→Bool} {vs:List AV} {r:Nat}:(lw e p vs r).length=e.length+(vs.length+r):=by simp[lw,ja,Nat.add_assoc]
theorem lu {e:Env} {p:Nat→Bool} {vs:List AV} {r i:Nat}:(lw e p vs r)[e.length+i]?=if i<vs.length then (vs[i]?).map (fun v=>if p i then v else .dead) else if i<vs.length+r then some .dead else none:=by
 unfold lw
 rw[List.append_assoc,List.getElem?_append_right (by omega)]
 simp only[Nat.add_sub_cancel_left]
 split
 ·rename_i h
  rw[List.getElem?_append_left (by simpa [ja] using h),mf];simp
 ·rename_i h
  rw[List.getElem?_append_right (by simp[ja];omega),ja,List.getElem?_replicate]
  split<;>split<;>first|rfl|omega
theorem ny {e:Env} {p:Nat→Bool} {vs:List AV} {r i:Nat} (h:i<e.length):(lw e p vs r)[i]?=e[i]?:=by
 unfold lw
 rw[List.append_assoc,List.getElem?_append_left h]
theorem Yn {e:Env} {p q:Nat→Bool} {vs:List AV} {r k:Nat} (h:∀ i,i<k→q i=true→p i=true):Le (e++gp q 0 (vs.take k)) (lw e p vs r):=by
 intro i v hi hv
 by_cases hlt:i<e.length
 ·rw[List.getElem?_append_left hlt] at hi
  rw[ny hlt,hi]
 ·obtain⟨j,rfl⟩:∃ j,i=e.length+j:=⟨i-e.length,by omega⟩
  rw[List.getElem?_append_right (by omega)] at hi
  simp only[Nat.add_sub_cancel_left,mf,Nat.zero_add] at hi
  rw[lu]
  rw[List.getElem?_take] at hi
  by_cases hjk:j<k
  ·rw[if_pos hjk] at hi
   cases hu:vs[j]? with
   | none=>simp[hu] at hi
   | some u =>
    have hjl:=(List.getElem?_eq_some_iff.1 hu).1
    rw[if_pos hjl]
    by_cases hq:q j=true
    ·rw[hu] at hi
     simp only[hq,if_true,Option.map_some] at hi
     simpa [h j hjk hq] using hi
    ·rw[hu] at hi
     simp[hq] at hi
     exact absurd hi.symm hv
  ·rw[if_neg hjk] at hi
   simp at hi
theorem Ro {e:Env} {p:Nat→Bool} {vs:List AV} {r k:Nat} {v:AV} (hk:vs[k]?=some v) (q:Nat→Bool) (hq:∀ i,q i=(p i||i==k)):(lw e p vs r).set (e.length+k) v=lw e q vs r:=by
 have hkl:=(List.getElem?_eq_some_iff.1 hk).1
 apply List.ext_getElem?
 intro i
 by_cases hlt:i<e.length
 ·rw[List.getElem?_set_ne (by omega),ny hlt,ny hlt]
 ·obtain⟨j,rfl⟩:∃ j,i=e.length+j:=⟨i-e.length,by omega⟩
  by_cases hjk:k=j
  ·subst hjk
   rw[List.getElem?_set_self (by rw[yD];omega),lu,if_pos hkl,hk]
   simp[hq]
  ·rw[List.getElem?_set_ne (by omega),lu,lu]
   have:q j=p j:=by rw[hq];simp[show (j==k)=false by simp;omega]
   rw[this]
def Qc (ops:Array Oper) (x:Nat):Bool:=match ops[x]? with
 | some o=>(match o.op with | .extract _ _=>true | .move _=>true | .assign _=>true | .binOp .rem _ (.tmp _) (.tmp _) _=>true|_=>false)&&o.guard.isNone
 | none=>false
def U2 (ops:Array Oper) (sees:List (List Nat)) (t x:Nat):Bool:=decide (x<t)&&Qc ops x&&(match ops[x]? with
 | some o=>(List.range ops.size).all fun j=>j==x||(decide (j<t)&&(!Qc ops j||(sees.getD x []).contains j))||(match ops[j]? with
  | some oj=>oj.after.toList.any (fun d=>Region.binds .any d&&d.on==x)||o.apart ops oj
  | none=>true)
 | none=>false)
def Nz (ops:Array Oper) (sees:List (List Nat)) (t k:Nat):Bool :=
 match ops[k]? with
 | some o=>o.after.toList.all (fun d=>!Region.binds .any d||decide (d.on<k)) &&
   (sees.getD k []).all (fun x=>decide (x<k)&&o.after.toList.any fun d=>Region.binds .any d&&(d.on==x||(sees.getD d.on []).contains x)) &&
   (decide (k<t)||(List.range k).all fun x=>(sees.getD k []).contains x||U2 ops sees t x)
 | none=>false
def yN (ops:Array Oper) (sees:List (List Nat)) (t:Nat):Bool:=Region.noSelect ops&&(List.range ops.size).all (Nz ops sees t)
structure aLz (ops:Array Oper) (sees:List (List Nat)) (t k:Nat) (o:Oper):Prop where
 back:∀ d∈o.after,Region.binds .any d=true→d.on<k
 lt:∀ x∈sees.getD k [],x<k
 why:∀ x∈sees.getD k [],∃ d∈o.after,Region.binds .any d=true∧(d.on=x∨x∈sees.getD d.on [])
 all:t≤k→∀ x,x<k→x∈sees.getD k []∨U2 ops sees t x=true
theorem iT {ops:Array Oper} {sees:List (List Nat)} {t k:Nat} {o:Oper} (h:yN ops sees t=true) (hk:ops[k]?=some o):aLz ops sees t k o:=by
 have hlt:=(Array.getElem?_eq_some_iff.1 hk).1
 simp only[yN,Bool.and_eq_true] at h
 have h:=List.all_eq_true.1 h.2 k (List.mem_range.2 hlt)
 unfold Nz at h
 rw[hk] at h
 simp only[Bool.and_eq_true,List.all_eq_true,Bool.or_eq_true,decide_eq_true_eq,List.any_eq_true,Bool.not_eq_true',beq_iff_eq,List.contains_iff_mem,List.mem_range,Array.mem_toList_iff] at h
 obtain⟨⟨h1,h2⟩,h3⟩:=h
 refine⟨fun d hd hb=>(h1 d hd).resolve_left (by simp[hb]),fun x hx=>(h2 x hx).1,fun x hx=>?_,fun ht x hx=>?_⟩
 ·obtain⟨d,hd,hb,hor⟩:=(h2 x hx).2
  exact⟨d,hd,hb,hor⟩
 ·rcases h3 with h|h
  ·omega
  ·exact h x hx
theorem mF {ops:Array Oper} {sees:List (List Nat)} {t k:Nat} {listed:Array Bool} (hs:yN ops sees t=true) (hc:∀ y,y<ops.size→listed.getD y false=true→∀ x∈sees.getD y [],listed.getD x false=true) (hsz:listed.size=ops.size)
  (hr:k∈Region.ready .any ops listed):∀ x∈sees.getD k [],listed.getD x false=true:=by
 obtain⟨_,o,ho,hall⟩:=mem_ready.1 hr
 intro x hx
 obtain⟨d,hd,hb,hor⟩:=(iT hs ho).why x hx
 have hl:=hall d hd hb
 rcases hor with rfl|hor
 ·exact hl
 ·refine hc d.on ?_ hl x hor
  by_cases h:d.on<ops.size
  ·exact h
  ·rw[Array.getD_eq_getD_getElem?,Array.getElem?_eq_none (by omega)] at hl
   simp at hl
section
variable {P : Program} {C : Cx} {V D : List Nat} {n : Nat} {ops : Array Oper} {sees : List (List Nat)} {t : Nat} {QQ : Exit → Act → World → Prop} {Q : Env → Prop} {sos : List bM}
theorem XN {a b v:AV} (h:Lu .rem a b=some v):∃ k m n,a=.int k m∧b=.int k n∧v=.int k (m.tmod n):=by
 cases a<;>cases b<;>simp[Lu] at h
 obtain⟨rfl,_,rfl⟩:=h
 exact⟨_,_,_,rfl,rfl,rfl⟩
theorem XO {k:Nat} {o:Oper} {so:bM} {e:Env} {ρ:List Value} {tmps:Array Value} {w:World} {Φ:Nat→Prop} {f:Cnt} {QE:Env→Prop} {t t2:TypeId} {x y:Tmp} (ho:o.op=.binOp .rem t (.tmp x) (.tmp y) t2) (hg:o.guard=none) (hok1:Gx P V D n k ops o so=true)
  (hst:St P C (V++D) n e ρ tmps w Φ f) (h:LJ P V.length k so e QE):∃ v,∀ w',(execOp (⟨tmps,[]⟩:Act).eval o).run P w'=.ok (.value v) w':=by
 obtain⟨hdst,hguard,hk⟩:=yt hok1
 have hsg:so.guard=none:=by
  rcases hguard with ⟨_,h⟩|⟨_,_,_,_,h,_⟩
  ·exact h
  ·rw[hg] at h;cases h
 simp only[LJ,hsg] at h
 unfold OpW at h
 rcases hk with ⟨s,hs,hoks⟩|⟨g,args,fr,c,hs,ho2,_⟩|⟨_,args,c,_,hs,ho2,_⟩|⟨_,args,c,_,hs,ho2,_⟩
 ·rw[hs] at h
  simp only at h
  split at h
  ·rename_i v e' hx
   have hb:∃ x' y',s=.bin .rem x' y':=by
    rw[ho] at hoks
    cases s<;>simp[dQ] at hoks
    obtain⟨⟨⟨_,_⟩,rfl⟩,_⟩:=hoks
    exact⟨_,_,rfl⟩
   obtain⟨x',y',rfl⟩:=hb
   simp only[opx] at hx
   split at hx
   ·rename_i a b ha hb
    split at hx
    ·rename_i u hu
     obtain⟨kk,m1,m2,rfl,rfl,rfl⟩:=XN hu
     have hoks2:=hoks
     rw[ho] at hoks2
     simp only[dQ,Bool.and_eq_true] at hoks2
     have c1:=iF (bi (a:=⟨tmps,[]⟩) hst.rel hst.lk hoks2.1.1.1 ha (fun _=>0) (fun _=>rfl))
     have c2:=iF (bi (a:=⟨tmps,[]⟩) hst.rel hst.lk hoks2.1.1.2 hb (fun _=>0) (fun _=>rfl))
     refine⟨.int kk (m1.tmod m2),fun w'=>?_⟩
     have h0:CR P w' (fun _=>False) C.σ [.int kk m1,.int kk m2] [.int kk m1,.int kk m2] [.int kk m1,.int kk m2] (fun _=>0):=by
      have:=CR_cons (P:=P) (w:=w') (Φ:=fun _=>False) (σ:=C.σ) (ρ:=[.int kk m1,.int kk m2]) (tN (k:=kk) (n:=m1) (fun _=>0) (fun _=>rfl)) (CR_cons (tN (k:=kk) (n:=m2) (fun _=>0) (fun _=>rfl)) CR_nil)
      simpa using this
     have hl0:LK [x,y] [.int kk m1,.int kk m2] [AV.int kk m1,.int kk m2] tmps:=fun j cv hj=>by
      match j,hj with
      | 0,hj=>simp at hj;subst hj;exact .inr ⟨x,rfl,c1⟩
      | 1,hj=>simp at hj;subst hj;exact .inr ⟨y,rfl,c2⟩
      | j+2,hj=>simp at hj
     obtain⟨_,cv,hy,hv⟩:=afC (a:=⟨tmps,[]⟩) (o:=o) (ν:=[x,y]) (op:=.rem) (x:=.slot 0) (y:=.slot 1) (v:=.int kk (m1.tmod m2)) (e':=[.int kk m1,.int kk m2]) h0 hl0 (by simp[dQ,ho,okX,wU]) (by simp[opx,ev,lzv,lz1,hu])
     have:=iF (hv (fun _=>0) (fun _=>rfl))
     subst this
     exact hy
    ·cases hx
   ·cases hx
  ·cases h
 ·rw[ho] at ho2;cases ho2
 ·rw[ho] at ho2;cases ho2
 ·rw[ho] at ho2;cases ho2
theorem sF:∀ {os:List Oper} {sos:List bM} {k i:Nat} {o:Oper},iM P V D n ops k os sos=true→os[i]?=some o→∃ so,sos[i]?=some so∧Gx P V D n (k+i) ops o so=true
 | [],sos,k,i,o,h,hi=>by simp at hi
 | o'::os,[],k,i,o,h,hi=>by simp[iM] at h
 | o'::os,so::sos,k,0,o,h,hi=>by
  simp only[iM,Bool.and_eq_true] at h
  simp at hi;subst hi
  exact⟨so,rfl,h.1⟩
 | o'::os,so::sos,k,i+1,o,h,hi=>by
  simp only[iM,Bool.and_eq_true] at h
  obtain⟨so',h1,h2⟩:=sF h.2 (by simpa using hi)
  exact⟨so',by simpa using h1,by rwa [show k+(i+1)=k+1+i by omega]⟩
theorem kJ:∀ {os:List Oper} {sos:List bM} {k:Nat},iM P V D n ops k os sos=true→os.length=sos.length
 | [],[],k,h=>rfl
 | [],_::_,k,h=>by simp[iM] at h
 | _::_,[],k,h=>by simp[iM] at h
 | o'::os,so::sos,k,h=>by
  simp only[iM,Bool.and_eq_true] at h
  simp[kJ h.2]
theorem qI {listed:Array Bool} {j:Nat} (h:j<listed.size):listed.getD j true=listed.getD j false:=by
 simp[Array.getD_eq_getD_getElem?,Array.getElem?_eq_getElem h]
theorem PM (hν:(V++D).Nodup) (hok:iM P V D n ops 0 ops.toList sos=true) (hs:yN ops sees t=true)
  (hQ:∀ e ρ tmps w Φ f,St P C (V++D) n e ρ tmps w Φ f→Q e→QQ .normal ⟨tmps,[]⟩ w) :
  ∀ (fuel i:Nat) (listed:Array Bool) (e:Env) (ρ:List Value) (tmps:Array Value) (w:World) (Φ:Nat→Prop) (f:Cnt),listed.size=ops.size→(∀ j,j<ops.size→(listed.getD j false=true↔j<i))→t≤i→i≤ops.size→ops.size≤fuel+i →
   St P C (V++D) n e ρ tmps w Φ f→e.length=V.length+ops.size→(∀ j,i≤j→j<ops.size→ρ[V.length+j]?=some unk)→jC P V.length i (sos.drop i) e Q→wpAny P .any ops QQ fuel listed ⟨tmps,[]⟩ w:=by
 intro fuel
 have hl:=kJ hok
 have hend:∀ (i:Nat) (listed:Array Bool) (e:Env) (ρ:List Value) (tmps:Array Value) (w:World) (Φ:Nat→Prop) (f:Cnt),i=ops.size→St P C (V++D) n e ρ tmps w Φ f→jC P V.length i (sos.drop i) e Q→QQ .normal ⟨tmps,[]⟩ w:=by
  intro i listed e ρ tmps w Φ f hi hst h
  rw[List.drop_eq_nil_of_le (by rw[←hl,hi];simp)] at h
  exact hQ _ _ _ _ _ _ hst (by simpa only[jC] using h)
 have hrd:∀ (i j:Nat) (listed:Array Bool),listed.size=ops.size→(∀ j,j<ops.size→(listed.getD j false=true↔j<i))→t≤i→j∈Region.ready .any ops listed→j=i:=by
  intro i j listed hsz hl hti hj
  have hsee:=mF hs (fun y hy hly x hx=>by
   have:=(iT hs (Array.getElem?_eq_getElem hy)).lt x hx
   have h2:=(hl y hy).1 hly
   exact (hl x (by omega)).2 (by omega)) hsz hj
  obtain⟨h0,o,ho,_⟩:=mem_ready.1 hj
  have hjs:=(Array.getElem?_eq_some_iff.1 ho).1
  rw[qI (by omega)] at h0
  have hge:¬j<i:=fun h=>by rw[(hl j hjs).2 h] at h0;cases h0
  by_cases hji:i<j
  ·have:=hsee i (((iT hs ho).all (by omega) i hji).resolve_right (fun h=>by simp only[U2,Bool.and_eq_true,decide_eq_true_eq] at h;omega))
   have:=(hl i (by omega)).1 this
   omega
  ·omega
 induction fuel with
 | zero =>
  intro i listed e ρ tmps w Φ f hsz hlst hti his hf hst hlen hund h
  have hi:i=ops.size:=by omega
  refine⟨?_,hend i listed e ρ tmps w Φ f hi hst h⟩
  cases hr:Region.ready .any ops listed with
  | nil=>rfl
  | cons j _ =>
   have hj:j∈Region.ready .any ops listed:=by rw[hr];simp
   have:=hrd i j listed hsz hlst hti hj
   obtain⟨_,o,ho,_⟩:=mem_ready.1 hj
   have:=(Array.getElem?_eq_some_iff.1 ho).1
   omega
 | succ fuel ih =>
  intro i listed e ρ tmps w Φ f hsz hlst hti his hf hst hlen hund h
  refine⟨fun hr=>?_,fun j hj=>?_⟩
  ·by_cases hi:i=ops.size
   ·exact hend i listed e ρ tmps w Φ f hi hst h
   ·exfalso
    have hilt:i<ops.size:=by omega
    have:i∈Region.ready .any ops listed:=mem_ready.2 ⟨by
     rw[qI (by omega)]
     cases hb:listed.getD i false with
     | false=>rfl
     | true=>have:=(hlst i hilt).1 hb;omega,_,Array.getElem?_eq_getElem hilt,fun d hd hb=>by
     have:=(iT hs (Array.getElem?_eq_getElem hilt)).back d hd hb
     exact (hlst d.on (by omega)).2 this⟩
    rw[hr] at this;cases this
  ·obtain rfl:=hrd i j listed hsz hlst hti hj
   obtain⟨_,o,ho,_⟩:=mem_ready.1 hj
   have hjs:=(Array.getElem?_eq_some_iff.1 ho).1
   obtain⟨so,hso,hokr⟩:=sF hok (i:=j) (by simpa using ho)
   rw[Nat.zero_add] at hokr
   have hdrop:sos.drop j=so::sos.drop (j+1):=by
    rw[List.drop_eq_getElem_cons (List.getElem?_eq_some_iff.1 hso).1,(List.getElem?_eq_some_iff.1 hso).2]
   rw[hdrop] at h
   have hρl:e.length=ρ.length:=aV hst.rel
   have:=BB (QQ:=QQ) (ops:=ops) (K:=wpAny P .any ops QQ fuel (listed.setIfInBounds j true)) hν hokr hst (hund j (Nat.le_refl _) hjs) (EZ h) (fun e2 ρ2 tmps2 w2 Φ2 g hst2 hl2 hu2 hrun =>
    ih (j+1) _ e2 ρ2 tmps2 w2 Φ2 g (by simpa using hsz) (fun x hx=>by
     by_cases hxj:j=x
     ·subst hxj;simp[hsz,hjs]
     ·rw[getD_set_ne false hxj,hlst x hx];omega) (by omega) (by omega) (by omega) hst2 (by rw[aV hst2.rel,hl2,←hρl];exact hlen) (fun x hx hxs=>by
     rw[hu2 _ (by omega) (by omega)];exact hund x (by omega) hxs) hrun)
   unfold wpOp
   rw[ho]
   simp only
   split
   ·rename_i hw;rw[if_pos hw] at this;exact .inl this
   ·rename_i hw;rw[if_neg hw] at this;exact this
def EM (listed:Array Bool):Nat→Nat
 | 0=>0
 | t+1=>EM listed t+if listed.getD t false then 0 else 1
theorem NZ {listed:Array Bool} {k:Nat}:∀ {t:Nat},t≤k→EM (listed.setIfInBounds k true) t=EM listed t
 | 0,_=>rfl
 | t+1,h=>by
  simp only[EM]
  rw[NZ (by omega),getD_set_ne false (by omega)]
theorem Jf {listed:Array Bool} {k:Nat} (hk:listed.getD k false=false) (hs:k<listed.size):∀ {t:Nat},k<t→EM (listed.setIfInBounds k true) t+1=EM listed t
 | 0,h=>by omega
 | t+1,h=>by
  simp only[EM]
  by_cases hkt:k=t
  ·subst hkt
   rw[NZ (Nat.le_refl _),hk]
   simp[hs]
  ·have:=Jf hk hs (t:=t) (by omega)
   rw[getD_set_ne false hkt]
   omega
theorem Jg {listed:Array Bool} {k:Nat} (hk:listed.getD k false=false):∀ {t:Nat},k<t→1≤EM listed t
 | 0,h=>by omega
 | t+1,h=>by
  simp only[EM]
  by_cases hkt:k=t
  ·subst hkt;rw[hk];simp
  ·have:=Jg hk (t:=t) (by omega)
   omega
theorem vW {e:Env} {cons:List (Nat × Nat)} {S:List (List Nat)} {so:bM} {see:List Nat} {vs:List AV} {k r:Nat} {p:Nat→Bool} (h:aff P e cons S so see vs k) (hk:k<vs.length) (hp:p k=false) (hsee:∀ i,i<k→qA cons S k see i=true→p i=true) :
  LJ P e.length k so (lw e p vs r) fun e2=>∃ v,vs[k]?=some v∧match o8 cons k with
   | some js=>∀ i,i ∉ js.map (e.length + ·)→e2[i]?=((lw e p vs r).set (e.length+k) v)[i]?
   | none=>e2=(lw e p vs r).set (e.length+k) v:=by
 have hle:Le (e++gp (qA cons S k see) 0 (vs.take k)) (lw e p vs r):=Yn fun i hi hq=>hsee i hi hq
 obtain⟨hd,h⟩:=h
 split at h
 ·rename_i js hj
  have hopc:∀ (hlv:isApp so=true→(e++vs).all (kw e)=true) (h:OpC so (e++gp (qA cons S k see) 0 (vs.take k)) (js.map (e.length + ·)) fun v=>vs[k]?=some v),OpW P e.length k so (lw e p vs r) fun e2=>∃ v,vs[k]?=some v∧∀ i,i ∉ js.map (e.length + ·)→e2[i]?=((lw e p vs r).set (e.length+k) v)[i]?:=by
   intro hlv h
   unfold OpC at h
   unfold OpW
   split at h
   ·rename_i t n z ps hs
    split at h
    ·rename_i v e1 hx
     obtain⟨h1,h2,h3⟩:=h
     obtain⟨e1',k1,k2,k3⟩:=ae3 hle hx
     simp only[hs,k1,hd,nG]
     refine⟨v,h3,fun i hij=>?_⟩
     by_cases hik:e.length+k=i
     ·subst hik
      by_cases hl:e.length+k<(lw e p vs r).length
      ·rw[List.getElem?_set_self (by rw[k3];exact hl),List.getElem?_set_self hl]
      ·rw[List.getElem?_eq_none (by simp[k3];omega),List.getElem?_eq_none (by simp;omega)]
     ·rw[List.getElem?_set_ne hik,List.getElem?_set_ne hik]
      have hsame:=Eo h2 hij
      rcases k2 i with ⟨_,b⟩|⟨a,b⟩
      ·exact b
      ·rw[←a,hsame,b]
    ·cases h
   ·rename_i t sz s x hs
    split at h
    ·rename_i v e1 hx
     obtain⟨h1,h2,h3⟩:=h
     obtain⟨e1',k1,k2,k3⟩:=ae8 hle hx
     have hlv':=hlv (by simp[isApp,hs])
     simp only[hs,opx,k1,hd,nG]
     have same:∀ i,i ∉ js.map (e.length + ·)→e1'[i]?=(lw e p vs r)[i]?:=by
      intro i hij
      have hsame:=Eo h2 hij
      rcases k2 i with ⟨_,b⟩|⟨a,b⟩
      ·exact b
      ·rw[←a,hsame,b]
     refine⟨v,h3,?_⟩
     have low:∀ i,i<e.length→e1'[i]?=e[i]?:=fun i hi=>by rw[same i (by simp only[List.mem_map,not_exists,not_and];intro x _;omega),ny hi]
     have live:∀ (i:Nat) (u:AV),(lw e p vs r)[i]?=some u→kw e1' u=true:=by
      intro i u hu
      refine O5 low ?_
      rw[List.all_eq_true] at hlv'
      by_cases hi:i<e.length
      ·rw[ny hi] at hu
       exact hlv' u (List.mem_append_left _ (List.mem_of_getElem? hu))
      ·obtain⟨i2,rfl⟩:∃ i2,i=e.length+i2:=⟨i-e.length,by omega⟩
       rw[lu] at hu
       split at hu
       ·cases hv:vs[i2]? with
        | none=>simp[hv] at hu
        | some w =>
         simp only[hv,Option.map_some,Option.some.injEq] at hu
         subst hu
         split
         ·exact hlv' w (List.mem_append_right _ (List.mem_of_getElem? hv))
         ·rfl
       ·split at hu
        ·obtain rfl:=Option.some.inj hu;rfl
        ·cases hu
     intro i hij
     by_cases hik:e.length+k=i
     ·subst hik
      by_cases hl:e.length+k<(lw e p vs r).length
      ·rw[List.getElem?_set_self (by simp[Kq,k3];exact hl),List.getElem?_set_self hl]
      ·rw[List.getElem?_eq_none (by simp[Kq,k3];omega),List.getElem?_eq_none (by simp;omega)]
     ·rw[List.getElem?_set_ne hik,List.getElem?_set_ne hik]
      simp only[Kq,List.getElem?_map]
      rw[same i hij]
      cases hu:(lw e p vs r)[i]? with
      | none=>rfl
      | some u=>simp only[Option.map_some,live i u hu,if_true]
    ·cases h
   ·cases h
  unfold LJ
  split at h
  ·rename_i hg;rw[hg];exact hopc h.1 h.2
  ·rename_i s b hg
   rw[hg]
   have hle2:∀ c,jv b (e++gp (qA cons S k see) 0 (vs.take k))[s]?=some c→jv b (lw e p vs r)[s]?=some c:=by
    intro c hc
    rcases pO hc with ⟨b',he,hb⟩|⟨he,hb⟩
    ·rw[hle s _ he (by simp)];simp[jv,hb]
    ·rw[hle s _ he (by simp)];simp[jv,hb]
   split at h
   ·rename_i hb
    simp only[hle2 _ hb]
    exact hopc h.1 h.2
   ·rename_i hb
    simp only[hle2 _ hb]
    exact⟨skV so.k,h,fun i _=>by rw[SC]⟩
   ·cases h
 rename_i hj
 have hop:∀ (h:OpV P so (e++gp (qA cons S k see) 0 (vs.take k)) fun v=>vs[k]?=some v),OpW P e.length k so (lw e p vs r) fun e2=>∃ v,vs[k]?=some v∧e2=(lw e p vs r).set (e.length+k) v:=by
  intro h
  unfold OpV at h
  unfold OpW
  split at h
  ·rename_i s hs
   obtain⟨h1,h⟩:=h
   split at h
   ·rename_i v e' hx
    have hv:v≠.dead:=by rintro rfl;simp[jb] at h
    simp only[hs,QS hle h1 hx hv,hd,nG]
    exact⟨v,h.2,rfl⟩
   ·cases h
  ·rename_i g args fr hs
   split at h
   ·rename_i avs live hpx
    simp only[hs,uO hle hpx]
    obtain⟨res,h1,h2,h⟩:=h
    refine⟨res,h1,h2,?_⟩
    split at h
    ·rename_i v hv
     simp only[hv,hd,nG]
     exact⟨v,h.2,rfl⟩
    ·cases h
   ·cases h
  ·rename_i x args hs
   split at h
   ·rename_i g caps avs live hcal hpx
    simp only[hs,FU hle hcal,uO hle hpx]
    obtain⟨hpl,res,h1,h2,h3,h⟩:=h
    refine⟨hpl,res,h1,h2,?_⟩
    simp only[hd,nG]
    exact⟨res,h,rfl⟩
   ·cases h
  ·cases h
 unfold LJ
 split at h
 ·rename_i hg;rw[hg];exact hop h
 ·rename_i s b hg
  rw[hg]
  have hle2:∀ c,jv b (e++gp (qA cons S k see) 0 (vs.take k))[s]?=some c→jv b (lw e p vs r)[s]?=some c:=by
   intro c hc
   rcases pO hc with ⟨b',he,hb⟩|⟨he,hb⟩
   ·rw[hle s _ he (by simp)];simp[jv,hb]
   ·rw[hle s _ he (by simp)];simp[jv,hb]
  split at h
  ·rename_i hb
   simp only[hle2 _ hb]
   exact hop h
  ·rename_i hb
   simp only[hle2 _ hb]
   exact⟨skV so.k,h,SC⟩
  ·cases h
def tH (cons:List (Nat × Nat)) (sees:List (List Nat)) (t:Nat):Bool:=cons.all fun c=>((sees.getD c.1 []).contains c.2||decide (t≤c.2))&&decide (c.1<t)
theorem pz {cons:List (Nat × Nat)} {sees:List (List Nat)} {t:Nat} (h:tH cons sees t=true):∀ c∈cons,(c.2∈sees.getD c.1 []∨t≤c.2)∧c.1<t:=by
 simp only[tH,List.all_eq_true,Bool.and_eq_true,List.contains_iff_mem,decide_eq_true_eq,Bool.or_eq_true] at h
 exact h
theorem AA {cons:List (Nat × Nat)} {k:Nat} {js:List Nat} (h:o8 cons k=some js) {j:Nat}:j∈js↔(k,j)∈cons:=by
 unfold o8 at h
 split at h
 ·cases h
 ·rename_i hne
  cases h
  simp only[List.mem_map,List.mem_filter,beq_iff_eq]
  constructor
  ·rintro⟨⟨a,b⟩,⟨h1,h2⟩,h3⟩
   simp only at h2 h3
   subst h2 h3;exact h1
  ·intro h;exact⟨_,⟨h,rfl⟩,rfl⟩
theorem H8 {cons:List (Nat × Nat)} {k:Nat} (h:o8 cons k=none):∀ c∈cons,c.1≠k:=by
 unfold o8 at h
 split at h
 ·rename_i he
  intro c hc hck
  have:c.2∈(cons.filter fun c=>c.1==k).map (·.2):=List.mem_map.2 ⟨c,List.mem_filter.2 ⟨hc,by simpa using hck⟩,rfl⟩
  rw[he] at this
  cases this
 ·cases h
def vis (cons:List (Nat × Nat)) (listed:Array Bool) (i:Nat):Bool:=listed.getD i false&&!(cons.any fun c=>c.2==i&&listed.getD c.1 false)
def Sj (cons:List (Nat × Nat)) (i:Nat):Bool:=!(cons.any fun c=>c.2==i)
theorem Ba {x:Opd} {e:Env} {ρ:List Value} {tmps:Array Value} {w:World} {Φ:Nat→Prop} {f:Cnt} (h:St P C V n e ρ tmps w Φ f):∃ f',St P C V n (yT x e) ρ tmps w Φ f':=by
 cases x with
 | con v=>exact⟨f,h⟩
 | slot j =>
  simp only[yT]
  cases hj:e[j]? with
  | none =>
   rw[List.set_eq_of_length_le (by simpa using hj)]
   exact⟨f,h⟩
  | some u =>
   obtain⟨cv,f1,f2,hv,_,hf,hset⟩:=bT j h.rel hj
   have:=hset .dead cv (fun _=>0) (by simp[VR])
   rw[ed hv] at this
   refine⟨_,this,h.lk,h.inv.le (fun b=>?_),h.ext,h.sub,h.new,fun b hb=>h.own b ?_,h.size⟩
   ·show 0+f2 b≤f b
    have:=hf b;omega
   ·have hb':1≤0+f2 b:=hb
    have:=hf b;omega
theorem Jq:∀ (ds:List Nat) {e:Env} {ρ:List Value} {tmps:Array Value} {w:World} {Φ:Nat→Prop} {f:Cnt} {N:Nat},St P C V N e ρ tmps w Φ f→∃ f',St P C V N (mM e ds) ρ tmps w Φ f'
 | [],_,_,_,_,_,f,_,h=>⟨f,h⟩
 | d::ds,_,_,_,_,_,_,_,h=>by
  obtain⟨f',h'⟩:=Ba (x:=.slot d) h
  exact Jq ds h'
theorem PN {e:Env} {cons:List (Nat × Nat)} {vs:List AV} (hν:(V++D).Nodup) (hok:iM P V D n ops 0 ops.toList sos=true) (hs:yN ops sees t=true) (hco:tH cons sees t=true) (hm:e.length=V.length) (ht:t≤ops.size) (hvs:vs.length=t)
  (hQ:∀ e ρ tmps w Φ f,St P C (V++D) n e ρ tmps w Φ f→Q e→QQ .normal ⟨tmps,[]⟩ w) (hQp:∀ c a w,¬QQ (.panic c) a w)
  (hv:∀ k so,k<t→sos[k]?=some so→aff P e cons sees so (sees.getD k []) vs k) (htail:jC P V.length t (sos.drop t) (e++gp (Sj cons) 0 vs++List.replicate (ops.size-t) .dead) Q) :
  ∀ (fuel:Nat) (listed:Array Bool) (ρ:List Value) (tmps:Array Value) (w:World) (Φ:Nat→Prop) (f:Cnt),listed.size=ops.size→(∀ j,t≤j→j<ops.size→listed.getD j false=false)→EM listed t+(ops.size-t)≤fuel →
   (∀ y,y<ops.size→listed.getD y false=true→∀ x∈sees.getD y [],listed.getD x false=true) →
   St P C (V++D) n (lw e (vis cons listed) vs (ops.size-t)) ρ tmps w Φ f→(∀ j,j<ops.size→listed.getD j false=false→ρ[V.length+j]?=some unk)→wpAny P .any ops QQ fuel listed ⟨tmps,[]⟩ w:=by
 have hl:=kJ hok
 have full:∀ (fuel:Nat) (listed:Array Bool) (ρ:List Value) (tmps:Array Value) (w:World) (Φ:Nat→Prop) (f:Cnt),listed.size=ops.size→(∀ j,t≤j→j<ops.size→listed.getD j false=false)→ops.size-t≤fuel →
   (∀ j,j<t→listed.getD j false=true)→St P C (V++D) n (lw e (vis cons listed) vs (ops.size-t)) ρ tmps w Φ f→(∀ j,j<ops.size→listed.getD j false=false→ρ[V.length+j]?=some unk)→wpAny P .any ops QQ fuel listed ⟨tmps,[]⟩ w:=by
  intro fuel listed ρ tmps w Φ f hsz htl hfu hall hst hund
  have he:lw e (vis cons listed) vs (ops.size-t)=e++gp (Sj cons) 0 vs++List.replicate (ops.size-t) .dead:=by
   have:gp (vis cons listed) 0 vs=gp (Sj cons) 0 vs:=by
    apply List.ext_getElem?
    intro i
    rw[mf,mf]
    cases hi:vs[i]? with
    | none=>rfl
    | some v =>
     have hil:=(List.getElem?_eq_some_iff.1 hi).1
     have:vis cons listed (0+i)=Sj cons (0+i):=by
      simp only[vis,Sj,Nat.zero_add,hall i (by omega),Bool.true_and]
      congr 1
      rw[Bool.eq_iff_iff]
      simp only[List.any_eq_true,Bool.and_eq_true]
      exact⟨fun⟨c,h1,h2,_⟩=>⟨c,h1,h2⟩,fun⟨c,h1,h2⟩=>⟨c,h1,h2,hall c.1 ((pz hco) c h1).2⟩⟩
     simp only[Option.map_some,this]
   rw[lw,this]
  rw[he] at hst
  refine PM hν hok hs hQ fuel t listed _ ρ tmps w Φ f hsz (fun j hj=>⟨fun h=>?_,fun h=>hall j h⟩) (Nat.le_refl _) ht (by omega) hst (by simp[hm,hvs,ja];omega) (fun j hj hjs=>hund j hjs (htl j hj hjs)) htail
  by_cases hjt:j<t
  ·exact hjt
  ·rw[htl j (by omega) hj] at h;cases h
 intro fuel
 induction fuel with
 | zero =>
  intro listed ρ tmps w Φ f hsz htl hfu hcl hst hund
  refine full 0 listed ρ tmps w Φ f hsz htl (by omega) (fun j hj=>?_) hst hund
  cases hb:listed.getD j false with
  | true=>rfl
  | false=>have:=Jg hb hj;omega
 | succ fuel ih =>
  intro listed ρ tmps w Φ f hsz htl hfu hcl hst hund
  by_cases hall:∀ j,j<t→listed.getD j false=true
  ·exact full (fuel+1) listed ρ tmps w Φ f hsz htl (by omega) hall hst hund
  ·have step:∀ k o,k∈Region.ready .any ops listed→ops[k]?=some o→k<t→if Region.wanted o (yielded ops tmps) then o.wp P ⟨tmps,[]⟩ w (wpAny P .any ops QQ fuel (listed.setIfInBounds k true)) QQ else wpAny P .any ops QQ fuel (listed.setIfInBounds k true) ((⟨tmps,[]⟩:Act).put o.dst undef) w:=by
    intro k o hk ho hkt
    have hsee:=mF hs hcl hsz hk
    obtain⟨h0,_⟩:=mem_ready.1 hk
    have hks:=(Array.getElem?_eq_some_iff.1 ho).1
    rw[qI (by omega)] at h0
    obtain⟨so,hso,hokr⟩:=sF hok (i:=k) (by simpa using ho)
    rw[Nat.zero_add] at hokr
    have hc1:=pz hco
    have hvk0:vis cons listed k=false:=by simp[vis,h0]
    have hw:=vW (r:=ops.size-t) (p:=vis cons listed) (hv k so hkt hso) (by omega) hvk0 (fun i _ hi=>by
     simp only[qA,Bool.and_eq_true,List.contains_iff_mem,Bool.not_eq_true',List.any_eq_false,bne_iff_ne,beq_iff_eq] at hi
     simp only[vis,Bool.and_eq_true,Bool.not_eq_true',List.any_eq_false,beq_iff_eq]
     refine⟨hsee i hi.1,fun c hc hcc=>?_⟩
     have hck:c.1≠k:=fun h=>by rw[h,h0] at hcc;cases hcc.2
     have h9:c.1<ops.size:=by have:=(hc1 c hc).2;omega
     by_cases hck2:k∈sees.getD c.1 []
     ·have:=hcl c.1 h9 hcc.2 k hck2
      rw[h0] at this;cases this
     ·exact hi.2 c hc ⟨⟨hcc.1,hck⟩,by simpa using hck2⟩)
    rw[hm] at hw
    have hself:∀ c∈cons,c.2=k→(listed.setIfInBounds k true).getD c.1 false=true→False:=fun c hc hck hl=>by
     have hcs:=(hc1 c hc).1.resolve_right (by omega)
     by_cases hck1:k=c.1
     ·have hlt:=(iT hs ho).lt c.2 (by rw[hck1];exact hcs)
      omega
     ·rw[getD_set_ne false hck1] at hl
      have h9:c.1<ops.size:=by
       by_cases h:c.1<ops.size
       ·exact h
       ·rw[Array.getD_eq_getD_getElem?,Array.getElem?_eq_none (by omega)] at hl;simp at hl
      have:=hcl c.1 h9 hl c.2 hcs
      rw[hck,h0] at this;cases this
    have hk1:vis cons (listed.setIfInBounds k true) k=true:=by
     have:(listed.setIfInBounds k true).getD k false=true:=by simp[hsz,hks]
     simp only[vis,this,Bool.true_and,Bool.not_eq_true',List.any_eq_false,Bool.and_eq_true,beq_iff_eq]
     exact fun c hc hcc=>hself c hc hcc.1 hcc.2
    have:=BB (QQ:=QQ) (ops:=ops) (K:=wpAny P .any ops QQ fuel (listed.setIfInBounds k true)) hν hokr hst (hund k hks h0) hw (fun e2 ρ2 tmps2 w2 Φ2 g hst2 hl2 hu2 hrun=>by
     obtain⟨v,hvk,hrun⟩:=hrun
     have hset:=Ro (e:=e) (p:=vis cons listed) (r:=ops.size-t) hvk (fun i=>vis cons listed i||i==k) (fun i=>rfl)
     rw[hm] at hset
     obtain⟨g,hst2⟩:∃ g,St P C (V++D) n (lw e (vis cons (listed.setIfInBounds k true)) vs (ops.size-t)) ρ2 tmps2 w2 Φ2 g:=by
      cases hj:o8 cons k with
      | none =>
       rw[hj] at hrun
       simp only at hrun
       subst hrun
       rw[hset] at hst2
       refine⟨g,?_⟩
       have:(fun i=>vis cons listed i||i==k)=vis cons (listed.setIfInBounds k true):=funext fun i=>by
        by_cases hik:k=i
        ·subst hik;rw[hk1];simp
        ·have e0:(i==k)=false:=by simp;omega
         simp only[vis,e0,Bool.or_false,getD_set_ne false hik]
         congr 2
         rw[Bool.eq_iff_iff]
         simp only[List.any_eq_true,Bool.and_eq_true]
         have hne:∀ c∈cons,k≠c.1:=fun c hc h=>H8 hj c hc h.symm
         exact⟨fun⟨c,h1,h2,h3⟩=>⟨c,h1,h2,by rw[getD_set_ne false (hne c h1)];exact h3⟩,fun⟨c,h1,h2,h3⟩=>⟨c,h1,h2,by rw[getD_set_ne false (hne c h1)] at h3;exact h3⟩⟩
       rw[this] at hst2;exact hst2
      | some js =>
       rw[hj] at hrun
       simp only at hrun
       obtain⟨g',hst3⟩:=Jq (js.map (V.length + ·)) hst2
       refine⟨g',?_⟩
       have hlen:e2.length=e.length+(vs.length+(ops.size-t)):=by rw[aV hst2.rel,hl2,←aV hst.rel,yD]
       have e1:mM e2 (js.map (V.length + ·))=lw e (vis cons (listed.setIfInBounds k true)) vs (ops.size-t):=by
        apply List.ext_getElem?
        intro i
        rw[xH,hlen]
        by_cases hin:i∈js.map (V.length + ·)
        ·obtain⟨q,hqj,rfl⟩:=List.mem_map.1 hin
         have hkq:=(AA hj).1 hqj
         rw[←hm,lu]
         by_cases hq:q<vs.length
         ·rw[if_pos ⟨by rw[hm];exact hin,by omega⟩,if_pos hq]
          have:vis cons (listed.setIfInBounds k true) q=false:=by
           simp only[vis,Bool.and_eq_false_iff,Bool.not_eq_false',List.any_eq_true,Bool.and_eq_true,beq_iff_eq]
           exact .inr ⟨_,hkq,rfl,by simp[hsz,hks]⟩
          rw[this]
          obtain⟨u,hu⟩:∃ u,vs[q]?=some u:=⟨_,List.getElem?_eq_getElem hq⟩
          simp[hu]
         ·rw[if_neg hq]
          by_cases hq2:q<vs.length+(ops.size-t)
          ·rw[if_pos ⟨by rw[hm];exact hin,by omega⟩,if_pos hq2]
          ·rw[if_neg (by omega),if_neg hq2,List.getElem?_eq_none (by omega)]
        ·rw[if_neg (fun h=>hin h.1),hrun i hin,hset]
         by_cases hil:i<e.length
         ·rw[ny hil,ny hil]
         ·obtain⟨q,rfl⟩:∃ q,i=e.length+q:=⟨i-e.length,by omega⟩
          rw[lu,lu]
          have:(vis cons listed q||q==k)=vis cons (listed.setIfInBounds k true) q:=by
           by_cases hik:k=q
           ·subst hik;rw[hk1];simp
           ·have e0:(q==k)=false:=by simp;omega
            simp only[vis,e0,Bool.or_false,getD_set_ne false hik]
            congr 2
            rw[Bool.eq_iff_iff]
            simp only[List.any_eq_true,Bool.and_eq_true,beq_iff_eq]
            have hne:∀ c∈cons,c.2=q→k≠c.1:=fun c hc h h2=>by
             refine hin (List.mem_map.2 ⟨q,(AA hj).2 ?_,by omega⟩)
             obtain⟨c1,c2⟩:=c
             simp only at h h2
             subst h h2;exact hc
            exact⟨fun⟨c,h1,h2,h3⟩=>⟨c,h1,h2,by rw[getD_set_ne false (hne c h1 h2)];exact h3⟩,fun⟨c,h1,h2,h3⟩=>⟨c,h1,h2,by rw[getD_set_ne false (hne c h1 h2)] at h3;exact h3⟩⟩
          rw[this]
       rw[e1] at hst3;exact hst3
     refine ih _ ρ2 tmps2 w2 Φ2 g (by simpa using hsz) (fun j hj hjs=>by rw[getD_set_ne false (by omega)];exact htl j hj hjs) (by have:=Jf h0 (by omega) hkt;omega) (fun y hy hly x hx=>?_) hst2 (fun j hj hjl=>?_)
     ·by_cases hky:k=y
      ·subst hky
       exact getD_set_true (hsee x hx)
      ·rw[getD_set_ne false hky] at hly
       exact getD_set_true (hcl y hy hly x hx)
     ·by_cases hkj:k=j
      ·subst hkj;simp[hsz,hks] at hjl
      ·rw[getD_set_ne false hkj] at hjl
       rw[hu2 _ (by omega) (by omega)]
       exact hund j hj hjl)
    exact this
   have rem:∀ k o,k∈Region.ready .any ops listed→ops[k]?=some o→k<t→o.guard=none→∀ t1 x y t2,o.op=.binOp .rem t1 (.tmp x) (.tmp y) t2→∃ v,∀ w',(execOp (⟨tmps,[]⟩:Act).eval o).run P w'=.ok (.value v) w':=by
    intro k o hk ho hkt
    have hsee:=mF hs hcl hsz hk
    obtain⟨h0,_⟩:=mem_ready.1 hk
    have hks:=(Array.getElem?_eq_some_iff.1 ho).1
    rw[qI (by omega)] at h0
    obtain⟨so,hso,hokr⟩:=sF hok (i:=k) (by simpa using ho)
    rw[Nat.zero_add] at hokr
    have hc1:=pz hco
    have hvk0:vis cons listed k=false:=by simp[vis,h0]
    have hw:=vW (r:=ops.size-t) (p:=vis cons listed) (hv k so hkt hso) (by omega) hvk0 (fun i _ hi=>by
     simp only[qA,Bool.and_eq_true,List.contains_iff_mem,Bool.not_eq_true',List.any_eq_false,bne_iff_ne,beq_iff_eq] at hi
     simp only[vis,Bool.and_eq_true,Bool.not_eq_true',List.any_eq_false,beq_iff_eq]
     refine⟨hsee i hi.1,fun c hc hcc=>?_⟩
     have hck:c.1≠k:=fun h=>by rw[h,h0] at hcc;cases hcc.2
     have h9:c.1<ops.size:=by have:=(hc1 c hc).2;omega
     by_cases hck2:k∈sees.getD c.1 []
     ·have:=hcl c.1 h9 hcc.2 k hck2
      rw[h0] at this;cases this
     ·exact hi.2 c hc ⟨⟨hcc.1,hck⟩,by simpa using hck2⟩)
    rw[hm] at hw
    intro hgn t1 x y t2 hop
    exact XO hop hgn hokr hst hw
   by_cases hfl:∀ j,j<t→listed.getD j false=false→U2 ops sees t j=true
   ·-- what is left ahead are components of tuples: the least is taken first
    obtain⟨k,hkt,hk0,hkl⟩:∃ k,k<t∧listed.getD k false=false∧∀ j,j<k→listed.getD j false=true:=by
     have:∀ m,m≤t→(∀ j,j<m→listed.getD j false=true)∨∃ k,k<t∧listed.getD k false=false∧∀ j,j<k→listed.getD j false=true:=by
      intro m
      induction m with
      | zero=>exact fun _=>.inl fun j hj=>by omega
      | succ m ihm =>
       intro hmt
       rcases ihm (by omega) with h|h
       ·cases hb:listed.getD m false with
        | true =>
         left
         intro j hj
         by_cases hjm:j=m
         ·subst hjm;exact hb
         ·exact h j (by omega)
        | false=>exact .inr ⟨m,by omega,hb,h⟩
       ·exact .inr h
     rcases this t (Nat.le_refl _) with h|h
     ·exact absurd h hall
     ·exact h
    have hks:k<ops.size:=by omega
    obtain⟨o,ho⟩:∃ o,ops[k]?=some o:=⟨_,Array.getElem?_eq_getElem hks⟩
    have hr:k∈Region.ready .any ops listed:=mem_ready.2 ⟨by rw[qI (by omega)];exact hk0,o,ho,fun d hd hb=>hkl _ ((iT hs ho).back d hd hb)⟩
    have hst1:=step k o hr ho hkt
    have hf:=hfl k hkt hk0
    simp only[U2,Qc,ho,Bool.and_eq_true,decide_eq_true_eq,List.all_eq_true,List.mem_range,Bool.or_eq_true,beq_iff_eq] at hf
    obtain⟨⟨_,hex,hgu⟩,hap⟩:=hf
    have hgn:o.guard=none:=by simpa using hgu
    have hwant:Region.wanted o (yielded ops tmps)=true:=by simp[Region.wanted,hgn]
    rw[if_pos hwant] at hst1
    obtain⟨v,hv1,hv2⟩:∃ v,(∀ w',(execOp (⟨tmps,[]⟩:Act).eval o).run P w'=.ok (.value v) w')∧wpAny P .any ops QQ fuel (listed.setIfInBounds k true) ((⟨tmps,[]⟩:Act).put o.dst v) w:=by
     unfold Oper.wp at hst1
     have copy:∀ x,(∀ w',(execOp (⟨tmps,[]⟩:Act).eval o).run P w'=.ok (.value ((⟨tmps,[]⟩:Act).eval x)) w')→∃ v,(∀ w',(execOp (⟨tmps,[]⟩:Act).eval o).run P w'=.ok (.value v) w')∧wpAny P .any ops QQ fuel (listed.setIfInBounds k true) ((⟨tmps,[]⟩:Act).put o.dst v) w:=fun x hx=>⟨_,hx,by
      rw[hx w] at hst1
      simpa only[Oper.upon] using hst1⟩
     cases hop:o.op with
     | move x=>exact copy x fun w'=>by simp only[execOp,hop];rfl
     | binOp b t1 x y t2 =>
      rw[hop] at hex
      cases b<;>cases x<;>cases y<;>first|(cases hex;done)|skip
      obtain⟨v,hv⟩:=rem k o hr ho hkt hgn _ _ _ _ hop
      refine⟨v,hv,?_⟩
      rw[hv w] at hst1
      simpa only[Oper.upon] using hst1
     | assign x=>exact copy x fun w'=>by simp only[execOp,hop];rfl
     | extract x ix =>
      have hexec:∀ w',(execOp (⟨tmps,[]⟩:Act).eval o).run P w'=((Instr.extract ((⟨tmps,[]⟩:Act).eval x) ix) >>= fun v=>pure (Next.value v)).run P w':=fun w'=>by simp only[execOp,hop]
      rw[hexec] at hst1
      cases hx:(⟨tmps,[]⟩:Act).eval x with
      | tuple vs =>
       cases hvx:vs[ix]? with
       | some v =>
        refine⟨v,fun w'=>by rw[hexec];simp[Instr.extract,hx,hvx],?_⟩
        simpa [Instr.extract,hx,hvx,Oper.upon] using hst1
       | none=>exfalso;revert hst1;simp[Instr.extract,hx,hvx,Oper.upon]
      | _=>exfalso;revert hst1;simp[Instr.extract,hx,Oper.upon]
     | _=>rw[hop] at hex;cases hex
    refine wpAny_first ho (Region.noSelect_spec (by simp only[yN,Bool.and_eq_true] at hs;exact hs.1)) (fun c a w h=>absurd h (hQp c _ w)) fuel listed _ w (fun j oj hj hjk hjl hno=>?_) hr (.inl ⟨hwant,hv1⟩) hv2
    have hjs:=(Array.getElem?_eq_some_iff.1 hj).1
    rw[qI (by omega)] at hjl
    rcases hap j hjs with (h|h)|h
    ·exact absurd h hjk
    ·rcases h.2 with h2|h2
     ·have:=hfl j h.1 hjl
      simp only[U2,Bool.and_eq_true] at this
      have h3:=this.1.2
      simp only[Qc] at h3 h2
      rw[h3] at h2;cases h2
     ·have:=mF hs hcl hsz hr j (by simpa using h2)
      rw[hjl] at this;cases this
    ·rw[hj] at h
     simp only[Bool.or_eq_true,List.any_eq_true,Bool.and_eq_true,beq_iff_eq,Array.mem_toList_iff] at h
     rcases h with ⟨d,hd,hb,he⟩|h
     ·exact absurd he (hno d hd hb)
     ·exact h
   ·refine⟨fun hr=>?_,fun k hk=>?_⟩
    ·-- some operation can come up
     exfalso
     apply hall
     intro j
     induction j using Nat.strongRecOn with
     | _ j ihj =>
      intro hjt
      cases hb:listed.getD j false with
      | true=>rfl
      | false =>
       exfalso
       have hjs:j<ops.size:=by omega
       have:j∈Region.ready .any ops listed:=mem_ready.2 ⟨by rw[qI (by omega)];exact hb,_,Array.getElem?_eq_getElem hjs,fun d hd hbd=>by
        have:=(iT hs (Array.getElem?_eq_getElem hjs)).back d hd hbd
        exact ihj d.on this (by omega)⟩
       rw[hr] at this;cases this
    ·have hsee:=mF hs hcl hsz hk
     obtain⟨h0,o,ho,_⟩:=mem_ready.1 hk
     have hks:=(Array.getElem?_eq_some_iff.1 ho).1
     have hkt:k<t:=by
      by_cases h:k<t
      ·exact h
      ·exfalso
       apply hfl
       intro j hj hjl
       rcases (iT hs ho).all (by omega) j (by omega) with h2|h2
       ·rw[hsee j h2] at hjl;cases hjl
       ·exact h2
     have:=step k o hk ho hkt
     unfold wpOp
     rw[ho]
     simp only
     split
     ·rename_i hw;rw[if_pos hw] at this;exact .inl this
     ·rename_i hw;rw[if_neg hw] at this;exact this
end
def dR:List Bool→List AV→List AV
 | _,[]=>[]
 | b::bs,v::vs=>(if b then v else .dead)::dR bs vs
 | [],_::vs=>.dead::dR [] vs
def df (P:Program) (e:Env):List bM→List (List Bool × Option (List Nat))→List AV→(List AV→Prop)→Prop
 | [],_,acc,Q=>Q acc
 | so::rest,(bs,some js)::info,acc,Q=>so.dst=none∧match so.guard with
  | none=>OpC so (e++dR bs acc) (js.map (e.length + ·)) fun v=>df P e rest info (acc++[v]) (EX e so Q)
  | some (s,b)=>match jv b (e++dR bs acc)[s]? with
   | some true=>OpC so (e++dR bs acc) (js.map (e.length + ·)) fun v=>df P e rest info (acc++[v]) (EX e so Q)
   | some false=>df P e rest info (acc++[skV so.k]) Q
   | none=>False
 | so::rest,(bs,none)::info,acc,Q=>so.dst=none∧match so.guard with
  | none=>OpV P so (e++dR bs acc) fun v=>df P e rest info (acc++[v]) Q
  | some (s,b)=>match jv b (e++dR bs acc)[s]? with
   | some true=>OpV P so (e++dR bs acc) fun v=>df P e rest info (acc++[v]) Q
   | some false=>df P e rest info (acc++[skV so.k]) Q
   | none=>False
 | _::_,[],_,_=>False
def vX (cons:List (Nat × Nat)) (sees:List (List Nat)) (t:Nat) (info:List (List Bool × Option (List Nat))) (fin:List Bool):Bool :=
 ((List.range t).all fun k=>info[k]?==some ((List.range k).map (qA cons sees k (sees.getD k [])),o8 cons k))&&fin==(List.range t).map (Sj cons)
theorem F6 {p:Nat→Bool}:∀ {vs:List AV} {k n:Nat},vs.length=n→dR ((List.range' k n).map p) vs=gp p k vs
 | [],k,n,h=>by cases n<;>simp[dR,gp]
 | v::vs,k,n,h=>by
  cases n with
  | zero=>simp at h
  | succ n =>
   rw[List.range'_succ,List.map_cons]
   simp only[dR,gp]
   rw[F6 (by simpa using h)]
theorem Bg {P:Program} {e:Env} {cons:List (Nat × Nat)} {S:List (List Nat)}:∀ {sos:List bM} {info:List (List Bool × Option (List Nat))} {sees:List (List Nat)} {acc:List AV} {Q:List AV→Prop},
  (∀ i,i<sos.length→info[i]?=some ((List.range (acc.length+i)).map (qA cons S (acc.length+i) (sees.getD i [])),o8 cons (acc.length+i)))→df P e sos info acc Q→Dt P e cons S sos sees acc Q
 | [],info,sees,acc,Q,_,h=>by simpa only[Dt,df] using h
 | so::rest,[],sees,acc,Q,_,h=>by simp only[df] at h
 | so::rest,(bs,c)::info,sees,acc,Q,hi,h=>by
  have h0:=hi 0 (by simp)
  simp only[List.getElem?_cons_zero,Option.some.injEq,Prod.mk.injEq,Nat.add_zero] at h0
  obtain⟨h1,h2⟩:=h0
  have hd:sees.headD []=sees.getD 0 []:=by cases sees<;>rfl
  have ht:∀ k,sees.tail.getD k []=sees.getD (k+1) []:=fun k=>by cases sees<;>simp
  have hm:dR bs acc=gp (qA cons S acc.length (sees.headD [])) 0 acc:=by
   rw[h1,hd,List.range_eq_range']
   exact F6 rfl
  have next:∀ {Q:List AV→Prop} v,df P e rest info (acc++[v]) Q→Dt P e cons S rest sees.tail (acc++[v]) Q:=fun v hv=>Bg (fun i hil=>by
   have:=hi (i+1) (by simpa using hil)
   simp only[List.getElem?_cons_succ] at this
   rw[this,ht]
   simp[Nat.add_assoc,Nat.add_comm 1 i]) hv
  simp only[Dt]
  cases c with
  | some j =>
   simp only[df] at h
   rw[←h2,←hm]
   refine⟨h.1,?_⟩
   have h:=h.2
   simp only
   split at h
   ·exact ou next h
   ·split at h
    ·exact ou next h
    ·exact next _ h
    ·cases h
  | none =>
   simp only[df] at h
   rw[←h2,←hm]
   refine⟨h.1,?_⟩
   have h:=h.2
   simp only
   split at h
   ·exact oq next h
   ·split at h
    ·exact oq next h
    ·exact next _ h
    ·cases h
end Go.AM
namespace Go.AM
open Go
def gq (n:Nat):Env:=List.replicate n .dead
def endOk (m:Nat) (e:Env):Bool:=decide (m≤e.length)&&(e.take m).all (U8 m)
def yP (m j k:Nat) (e:Env):Option Env:=match e[m+k]? with
 | some v=>if dS v||(e.take m).any dS then none else some ((e.take m).set j v)
 | none=>none
def outOf (id:Nat):Exit→Exit
 | .exit i=>if i=id then .normal else .exit i
 | ex=>ex
def lJ:AV→Option AV
 | .osl s t n cs=>jd (.osl s t n cs)
 | .bx s t cs=>match jg cs with
  | some cs'=>some (.bx s t cs')
  | none=>none
 | .agg cs=>match jg cs with
  | some cs'=>some (.agg cs')
  | none=>none
 | _=>none
inductive lD (P:Program) (m:Nat):ah→Env→Exit→Env→Prop where
 | skip {e:Env}:lD P m .skip e .normal e
 | reg {D:List Nat} {ops:List bM} {e e2:Env} (h:jC P m 0 ops (e++gq ops.length) (fun e1=>e1=e2)) (hr:endOk m e2=true):lD P m (.reg D ops) e .normal (e2.take m)
 | dreg {D:List Nat} {ops:List bM} {sees:List (List Nat)} {t:Nat} {cons:List (Nat × Nat)} {info:List (List Bool × Option (List Nat))} {fin:List Bool} {e e2:Env} (h:df P e (ops.take t) info [] fun vs=>jC P m t (ops.drop t) (e++dR fin vs++gq (ops.length-t)) (fun e1=>e1=e2))
   (hr:endOk m e2=true):lD P m (.dreg D ops sees t cons info fin) e .normal (e2.take m)
 | dregm {j k:Nat} {D:List Nat} {ops:List bM} {sees:List (List Nat)} {t:Nat} {cons:List (Nat × Nat)} {info:List (List Bool × Option (List Nat))} {fin:List Bool} {e e2 e3:Env} (hd:e.any dS=false) (h:df P (e.set j .dead) (ops.take t) info [] fun vs=>jC P m t (ops.drop t) (e.set j .dead++dR fin vs++gq (ops.length-t)) (fun e1=>e1=e2))
   (hr:endOk m e2=true) (hv:yP m j k e2=some e3):lD P m (.dregm j k D ops sees t cons info fin) e .normal e3
 | seq {a b:ah} {e e1 e2:Env} {ex:Exit} (h1:lD P m a e .normal e1) (h2:lD P m b e1 ex e2):lD P m (.seq a b) e ex e2
 | seqOut {a b:ah} {e e1:Env} {ex:Exit} (h1:lD P m a e ex e1) (hx:ex≠.normal):lD P m (.seq a b) e ex e1
 | cond {x:Opd} {a b:ah} {e e2:Env} {ex:Exit} {t:Bool} (hx:ev e x=some (.bool t)) (h:lD P m (if t then a else b) (yT x e) ex e2):lD P m (.cond x a b) e ex e2
 | condk {x:Opd} {a b:ah} {e e2:Env} {ex:Exit} {t:Bool} (hx:ev e x=some (.bool t)) (h:lD P m (if t then a else b) e ex e2):lD P m (.condk x a b) e ex e2
 | block {id:Nat} {b:ah} {e e2:Env} {ex:Exit} (h:lD P m b e ex e2):lD P m (.block id b) e (outOf id ex) e2
 | loop {b:ah} {e e1 e2:Env} {ex:Exit} (h1:lD P m b e .normal e1) (h2:lD P m (.loop b) e1 ex e2):lD P m (.loop b) e ex e2
 | loopOut {b:ah} {e e1:Env} {ex:Exit} (h1:lD P m b e ex e1) (hx:ex≠.normal):lD P m (.loop b) e ex e1
 | exit {id:Nat} {e:Env}:lD P m (.exit id) e (.exit id) e
 | ret {e:Env}:lD P m .ret e .ret e
 | forget {sc:ah} {e e2:Env} {ex:Exit} (j:Nat) (h:lD P m sc (e.set j .dead) ex e2):lD P m sc e ex e2
 | frz {b:ah} {e e2:Env} {ex:Exit} {j:Nat} {v v':AV} (he:e[j]?=some v) (hf:lJ v=some v') (h:lD P m b (e.set j v') ex e2):lD P m (.frz j b) e ex e2
 | freeze {sc:ah} {e e2:Env} {ex:Exit} (j:Nat) (v v':AV) (he:e[j]?=some v) (hf:lJ v=some v') (h:lD P m sc (e.set j v') ex e2):lD P m sc e ex e2
def nodupB:List Nat→Bool
 | []=>true
 | x::xs=>!(xs.contains x)&&nodupB xs
theorem nN:∀ {l:List Nat},nodupB l=true→l.Nodup
 | [],_=>List.nodup_nil
 | x::xs,h=>by
  simp only[nodupB,Bool.and_eq_true,Bool.not_eq_true'] at h
  exact List.nodup_cons.2 ⟨by simpa using h.1,nN h.2⟩
def di (P:Program) (V:List Nat) (n:Nat):Code→ah→Bool
 | c,.frz _ b=>di P V n c b
 | .skip,.skip=>true
 | .region _ ops false,.reg D sops=>nodupB (V++D)&&(D.length==sops.length)&&iM P V D n ops 0 ops.toList sops
 | .region _ ops true,.dreg D sops sees t cons info fin=>nodupB (V++D)&&(D.length==sops.length)&&iM P V D n ops 0 ops.toList sops&&yN ops sees t&&decide (t≤sops.length)&&P.follows .mixedOrders&&tH cons sees t&&vX cons sees t info fin
 | .region _ ops true,.dregm j k D sops sees t cons info fin=>decide (j<V.length)&&(V[j]?==D[k]?)&&decide (k<D.length)&&nodupB (V.set j (n+999)++D)&&(D.length==sops.length)&&iM P (V.set j (n+999)) D n ops 0 ops.toList sops&&yN ops sees t&&decide (t≤sops.length)&&P.follows .mixedOrders&&tH cons sees t&&vX cons sees t info fin
 | _,.bad=>true
 | .seq a b,.seq a' b'=>di P V n a a'&&di P V n b b'
 | .cond c a b,.cond x a' b'=>okX V c x&&di P V n a a'&&di P V n b b'
 | .cond c a b,.condk x a' b'=>okX V c x&&di P V n a a'&&di P V n b b'
 | .block i b,.block i' b'=>i==i'&&di P V n b b'
 | .loop b,.loop b'=>di P V n b b'
 | .exit i,.exit i'=>i==i'
 | .ret,.ret=>true
 | _,_=>false
def Post (P:Program) (C:Cx) (V:List Nat) (n:Nat) (ex:Exit) (e:Env) (ex':Exit) (a:Act) (w:World):Prop :=
 ex'=ex∧∃ ρ tmps Φ f,a=⟨tmps,[]⟩∧St P C V n e ρ tmps w Φ f
section
variable {P : Program} {C : Cx} {V D : List Nat} {n : Nat}
theorem CB {w:World} {Φ:Nat→Prop} {σ:Nat→Value} {ρ:List Value}:∀ k,CR P w Φ σ ρ (gq k) (List.replicate k unk) (fun _=>0)
 | 0=>CR_nil
 | k+1=>by
  have h:VR P w Φ σ ρ .dead unk (fun _=>0):=by simp[VR]
  simpa [gq,List.replicate_succ] using CR_cons h (CB k)
theorem afc {w:World} {Φ:Nat→Prop} {σ:Nat→Value} {ρ:List Value} (x:List Value) (v:AV) (cv:Value) (g:Cnt) (h:VR P w Φ σ ρ v cv g):VR P w Φ σ (ρ++x) v cv g:=by
 have low:∀ {r:Nat} {row},rowOf ρ r=row→row≠[]→rowOf (ρ++x) r=row:=by
  intro r row h hne
  unfold rowOf at h ⊢
  cases hr:ρ[r]? with
  | none=>simp[hr] at h;exact absurd h hne
  | some v=>rw[List.getElem?_append_left (List.getElem?_eq_some_iff.1 hr).1,hr];simpa [hr] using h
 have hne:∀ {r p bo row},walk w none (rowOf ρ r) p=some (bo,row)→(row≠[]∨∃ b,bo=some b)→rowOf ρ r≠[]:=by
  rintro r p bo row hw hor h
  rw[h] at hw
  cases p with
  | nil=>simp[walk] at hw;obtain⟨rfl,rfl⟩:=hw;rcases hor with h|⟨b,h⟩<;>simp at h
  | cons o p=>simp[walk] at hw
 refine Dw w Φ (ρ++x) (fun _ _=>rfl) (fun _ h=>h) ?_ ?_ ?_ v cv g (fun _ _=>rfl) h
 ·intro r p o cv f h
  simp only[VR] at h ⊢
  obtain⟨⟨bo,row,a,n,c,hw,h1,h2⟩,hz⟩:=h
  have:=hne hw (.inl (by rintro rfl;simp at h1))
  exact⟨⟨bo,row,a,n,c,by rw[low rfl this];exact hw,h1,h2⟩,hz⟩
 ·intro r p o cv f h
  simp only[VR] at h ⊢
  obtain⟨⟨b0,row,hw,h1⟩,hz⟩:=h
  have:=hne hw (.inr ⟨b0,rfl⟩)
  exact⟨⟨b0,row,by rw[low rfl this];exact hw,h1⟩,hz⟩
 ·intro r p o cv f h
  simp only[VR] at h ⊢
  obtain⟨⟨bo,row,g,fs,cs,hw,h1,h2⟩,hz⟩:=h
  have:=hne hw (.inl (by rintro rfl;simp at h1))
  exact⟨⟨bo,row,g,fs,cs,by rw[low rfl this];exact hw,h1,h2⟩,hz⟩
theorem Oj {w:World} {Φ:Nat→Prop} {σ:Nat→Value} {ρ:List Value} (x:List Value):∀ (cs:List AV) (vs:List Value) (g:Cnt),CR P w Φ σ ρ cs vs g→CR P w Φ σ (ρ++x) cs vs g
 | [],vs,g,h=>by simpa only[CR] using h
 | c::cs,vs,g,h=>by
  simp only[CR] at h ⊢
  obtain⟨v,vs',f1,f2,e,h1,h2,hb⟩:=h
  exact⟨v,vs',f1,f2,e,afc x _ _ _ h1,Oj x _ _ _ h2,hb⟩
theorem agB {e:Env} {ρ:List Value} {tmps:Array Value} {w:World} {Φ:Nat→Prop} {f:Cnt} (h:St P C V n e ρ tmps w Φ f) (hl:e.length=V.length) (k:Nat) :
  St P C (V++D) n (e++gq k) (ρ++List.replicate k unk) tmps w Φ f:=by
 refine⟨?_,?_,h.inv,h.ext,h.sub,h.new,h.own,h.size⟩
 ·have:=gm (Oj (List.replicate k unk) _ _ _ h.rel) (CB (P:=P) (w:=w) (Φ:=Φ) (σ:=C.σ) (ρ:=ρ++List.replicate k unk) k)
  simpa using this
 ·intro j cv hj
  have hρ:ρ.length=V.length:=by rw[←aV h.rel,hl]
  by_cases hjl:j<ρ.length
  ·rw[List.getElem?_append_left hjl] at hj
   rcases h.lk j cv hj with h1|⟨t,ht,h2⟩
   ·exact .inl h1
   ·exact .inr ⟨t,by rw[List.getElem?_append_left (by omega)];exact ht,h2⟩
  ·rw[List.getElem?_append_right (by omega),List.getElem?_replicate] at hj
   split at hj
   ·simp at hj;exact .inl hj.symm
   ·cases hj
theorem sO {w:World} {Φ:Nat→Prop} {σ:Nat→Value} {ρ:List Value}:∀ {cs:List AV} {vs:List Value} {f:Cnt},CR P w Φ σ ρ cs vs f→cs.any dS=false→hrs cs=false
 | [],vs,f,_,_=>rfl
 | c::cs,vs,f,h,ha=>by
  simp only[CR] at h
  obtain⟨v,vs',f1,f2,rfl,h1,h2,_⟩:=h
  simp only[List.any_cons,Bool.or_eq_false_iff] at ha
  simp only[hrs,Bool.or_eq_false_iff]
  exact⟨jQ h1 ha.1,sO h2 ha.2⟩
theorem Ol {w:World} {Φ:Nat→Prop} {σ:Nat→Value} {ρ:List Value} {m:Nat}:∀ {cs:List AV} {vs:List Value} {f:Cnt},CR P w Φ σ ρ cs vs f→cs.all (U8 m)=true→CR P w Φ σ (ρ.take m) cs vs f
 | [],vs,f,h,_=>by simpa only[CR] using h
 | c::cs,vs,f,h,ha=>by
  simp only[List.all_cons,Bool.and_eq_true] at ha
  simp only[CR] at h ⊢
  obtain⟨v,vs',f1,f2,e,h1,h2,hb⟩:=h
  refine⟨v,vs',f1,f2,e,?_,Ol h2 ha.2,hb⟩
  have plain:dS c=false→VR P w Φ σ (ρ.take m) c v f1:=fun h0=>vM w Φ (ρ.take m) (fun _ _=>rfl) (fun _ h=>h) c v f1 (jQ h1 h0) (fun _ _=>rfl) h1
  have hc:=ha.1
  simp only[U8,Bool.or_eq_true,Bool.not_eq_true'] at hc
  rcases hc with hc|hc
  ·exact plain hc
  cases c<;>simp only[aDt] at hc<;>try (cases hc;done)
  rename_i r p o
  simp only[decide_eq_true_eq] at hc
  have e2:rowOf (ρ.take m) r=rowOf ρ r:=by unfold rowOf;rw[List.getElem?_take,if_pos hc]
  simp only[VR] at h1 ⊢
  rw[e2];exact h1
theorem W9 {e:Env} {ρ:List Value} {tmps:Array Value} {w:World} {Φ:Nat→Prop} {f:Cnt} (h:St P C (V++D) n e ρ tmps w Φ f) (hr:(e.take V.length).all (U8 V.length)=true) :
  ∃ f',St P C V n (e.take V.length) (ρ.take V.length) tmps w Φ f':=by
 obtain⟨f1,f2,h1,h2,hf⟩:=bF V.length h.rel
 refine⟨f1,Ol h1 hr,fun j cv hj=>?_,h.inv.le (fun b=>by have:=hf b;omega),h.ext,h.sub,h.new,fun b hb=>h.own b (by have:=hf b;omega),h.size⟩
 rw[List.getElem?_take] at hj
 split at hj
 ·rename_i hjl
  rcases h.lk j cv hj with h1|⟨t,ht,h2⟩
  ·exact .inl h1
  ·exact .inr ⟨t,by rw[List.getElem?_append_left hjl] at ht;exact ht,h2⟩
 ·cases hj
theorem RZ {e:Env} {ρ:List Value} {tmps:Array Value} {w:World} {Φ:Nat→Prop} {f:Cnt} (h:St P C V n e ρ tmps w Φ f):St P C V n e ρ tmps { w with drawn:=w.drawn+1 } Φ f :=
 ⟨qO (w:=w) (w':={ w with drawn:=w.drawn+1 }) (fun _ _=>rfl) h.inv.fz _ _ _ h.inv.lt h.rel,h.lk,⟨h.inv.sep,h.inv.lt,h.inv.fz,h.inv.apart,fZ h.inv.tab (fun _ _=>rfl) (fun _ h=>h)⟩,h.ext.trans ⟨rfl,rfl,rfl,Nat.le_refl _,fun _ _ _=>rfl⟩ h.own,h.sub,h.new,h.own,h.size⟩
theorem ul {k i:Nat} {ρ:List Value} (h1:ρ.length≤i) (h2:i<ρ.length+k):(ρ++List.replicate k unk)[i]?=some unk:=by
 rw[List.getElem?_append_right h1,List.getElem?_replicate,if_pos (by omega)]
theorem Rw {t k:Nat}:EM (Array.replicate k false) t=t:=by
 induction t with
 | zero=>rfl
 | succ t ih =>
  simp only[EM,ih]
  by_cases h:t<k
  ·simp[h]
  ·simp[Array.getElem?_eq_none,h]
theorem vC {m:Nat} {e:Env} (h:endOk m e=true):(e.take m).length=m∧(e.take m).all (U8 m)=true:=by
 simp only[endOk,Bool.and_eq_true,decide_eq_true_eq] at h
 exact⟨by simp;omega,h.2⟩
theorem FO {x:Opd} {e:Env}:(yT x e).length=e.length:=by cases x<;>simp[yT]
theorem yu {c:Code} {b:ah} (h:di P V n c (.loop b)=true):∃ c',c=.loop c'∧di P V n c' b=true:=by
 cases c<;>simp[di] at h
 ·exact⟨_,rfl,h⟩
theorem xZ {e:Env} {ρ:List Value} {tmps:Array Value} {w:World} {Φ:Nat→Prop} {f:Cnt} (h:St P C V n e ρ tmps w Φ f) {j:Nat} {v v':AV} (he:e[j]?=some v) (hf:lJ v=some v') :
  ∃ Φ' f',St P C V n (e.set j v') ρ tmps w Φ' f':=by
 obtain⟨cv,f1,f2,hcv,hv,hff,hset⟩:=bT j h.rel he
 have hd:=hset .dead cv (fun _=>0) (by simp only[VR];intro b;trivial)
 have e1:ρ.set j cv=ρ:=ed hcv
 rw[e1] at hd
 have lift:∀ (Φ':Nat→Prop),(∀ b,Φ b→Φ' b)→∀ {cs:List AV} {vs:List Value} {g:Cnt},CR P w Φ C.σ ρ cs vs g→CR P w Φ' C.σ ρ cs vs g:=by
  intro Φ' hsub cs
  induction cs with
  | nil=>intro vs g h;simpa only[CR] using h
  | cons c cs ih =>
   intro vs g h
   simp only[CR] at h ⊢
   obtain⟨u,us,g1,g2,e,h1,h2,hb⟩:=h
   exact⟨u,us,g1,g2,e,Dw w Φ' ρ (fun _ _=>rfl) hsub (fun _ _ _ _ _ h=>by simpa only[VR] using h) (fun _ _ _ _ _ h=>by simpa only[VR] using h) (fun _ _ _ _ _ h=>by simpa only[VR] using h) _ _ _ (fun _ _=>rfl) h1,ih h2,hb⟩
 have key:∀ (g k:Cnt),(∀ b,f1 b=g b+k b)→(∀ Φ':Nat→Prop,(∀ b,Φ b→Φ' b)→(∀ b,1≤g b→Φ' b)→VR P w Φ' C.σ ρ v' cv k)→∃ Φ' f',St P C V n (e.set j v') ρ tmps w Φ' f':=by
  intro g k hgk hvr
  have hΦ':∀ b,Φ b→Φ b∨1≤g b:=fun b hb=>.inl hb
  have hd':=lift (fun b=>Φ b∨1≤g b) hΦ' hd
  have hj:(e.set j .dead)[j]?=some .dead:=by rw[List.getElem?_set_self (List.getElem?_eq_some_iff.1 he).1]
  obtain⟨cv2,h1,h2,hcv2,hv2,hff2,hset2⟩:=bT j hd' hj
  rw[hcv] at hcv2
  obtain rfl:=Option.some.inj hcv2
  have hn:=hset2 v' cv k (hvr _ hΦ' (fun b hb=>.inr hb))
  rw[List.set_set,e1] at hn
  have hz:∀ b,h1 b=0:=by simpa only[VR] using hv2
  refine⟨fun b=>Φ b∨1≤g b,_,⟨hn,fun i c hi=>h.lk i c hi,⟨fun b=>?_,fun b hb=>?_,fun b hb=>?_,fun b hb=>?_,fZ h.inv.tab (fun _ _=>rfl) hΦ'⟩,h.ext,fun b hb=>.inl (h.sub b hb),fun b hb=>?_,fun b hb=>?_,h.size⟩⟩
  ·have a1:=h.inv.sep b;have a2:=hff b;have a3:=hff2 b;have a4:=hgk b;have a5:=hz b
   show k b+h2 b≤1;omega
  ·have a2:=hff b;have a3:=hff2 b;have a4:=hgk b;have a5:=hz b
   have hb':1≤k b+h2 b:=hb
   exact h.inv.lt b (by omega)
  ·have a2:=hff b;have a4:=hgk b
   rcases hb with hb|hb
   ·exact h.inv.fz b hb
   ·exact h.inv.lt b (by omega)
  ·have a1:=h.inv.sep b;have a2:=hff b;have a3:=hff2 b;have a4:=hgk b;have a5:=hz b
   show k b+h2 b=0
   rcases hb with hb|hb
   ·have:=h.inv.apart b hb;omega
   ·omega
  ·have a2:=hff b;have a4:=hgk b
   rcases hb with hb|hb
   ·exact h.new b hb
   ·have:=h.own b (by omega)
    rcases this with h1|h1
    ·exact .inr (.inl h1)
    ·exact .inr (.inr h1)
  ·have a2:=hff b;have a3:=hff2 b;have a4:=hgk b;have a5:=hz b
   have hb':1≤k b+h2 b:=hb
   exact h.own b (by omega)
 have cells:∀ (cs cs':List AV) (vs:List Value) (g:Cnt) (Φ':Nat→Prop),(∀ b,Φ b→Φ' b)→jg cs=some cs'→CR P w Φ C.σ ρ cs vs g→(∀ b,1≤g b→Φ' b)→CR P w Φ' C.σ ρ cs' vs (fun _=>0)∧hrs cs'=false:=by
  intro cs
  induction cs with
  | nil=>intro cs' vs g Φ' _ hz hc _;simp[jg] at hz;subst hz;simp only[CR] at hc;obtain⟨rfl,_⟩:=hc;exact⟨CR_nil,rfl⟩
  | cons c cs ih =>
   intro cs' vs g Φ' hsub hz hc hg
   simp only[jg] at hz
   cases h1:jd c with
   | none=>rw[h1] at hz;cases hz
   | some c' =>
    rw[h1] at hz
    cases h2:jg cs with
    | none=>rw[h2] at hz;cases hz
    | some cs2 =>
     rw[h2] at hz
     obtain rfl:=Option.some.inj hz
     simp only[CR] at hc
     obtain⟨u,us,g1,g2,rfl,hu,hus,hb⟩:=hc
     obtain⟨k1,k2⟩:=uh Φ' hsub c c' u g1 h1 (fun b hb1=>hg b (by have:=hb b;omega)) hu
     obtain⟨k3,k4⟩:=ih cs2 us g2 Φ' hsub h2 hus (fun b hb1=>hg b (by have:=hb b;omega))
     refine⟨?_,by simp only[hrs,Bool.or_eq_false_iff];exact⟨jm k1,k4⟩⟩
     have:=CR_cons (k2 (fun _=>0) (fun _=>rfl)) k3
     simpa using this
 cases v with
 | osl s t m cs =>
  simp only[lJ] at hf
  exact key f1 (fun _=>0) (fun b=>by simp) fun Φ' hsub hg=>(uh Φ' hsub _ _ _ _ hf hg hv).2 _ (fun _=>rfl)
 | bx s t cs =>
  simp only[lJ] at hf
  cases h1:jg cs with
  | none=>rw[h1] at hf;cases hf
  | some cs' =>
   rw[h1] at hf
   obtain rfl:=Option.some.inj hf
   simp only[VR] at hv
   obtain⟨hs,hx,b0,arr,g,rfl,hg0,hc,hb⟩:=hv
   refine key g (fun b=>if b=b0 then 1 else 0) (fun b=>by rw[hb b];omega) fun Φ' hsub hg=>?_
   obtain⟨k1,k2⟩:=cells cs cs' _ g Φ' hsub h1 hc hg
   simp only[VR]
   exact⟨hs,k2,b0,arr,fun _=>0,rfl,hg0,k1,fun b=>by simp⟩
 | agg cs =>
  simp only[lJ] at hf
  cases h1:jg cs with
  | none=>rw[h1] at hf;cases hf
  | some cs' =>
   rw[h1] at hf
   obtain rfl:=Option.some.inj hf
   simp only[VR] at hv
   obtain⟨arr,rfl,hc⟩:=hv
   refine key f1 (fun _=>0) (fun b=>by simp) fun Φ' hsub hg=>?_
   simp only[VR]
   exact⟨arr,rfl,(cells cs cs' _ f1 Φ' hsub h1 hc hg).1⟩
 | _=>simp[lJ] at hf
structure aB6 (P:Program) (C:Cx) (V:List Nat) (n:Nat) (sc:ah) (e:Env) (ex:Exit) (e2:Env):Prop where
 len:e2.length=V.length
 wp:∀ (c:Code),di P V n c sc=true→∀ ρ tmps w Φ f,St P C V n e ρ tmps w Φ f→c.wp P (Post P C V n ex e2) ⟨tmps,[]⟩ w
 loop:∀ b,sc=.loop b→∃ k,∀ (c:Code),di P V n c b=true→∀ ρ tmps w Φ f,St P C V n e ρ tmps w Φ f→Code.rounds P c (Post P C V n ex e2) k ⟨tmps,[]⟩ w
theorem Am {D:List Nat} {ops:List bM} {sees:List (List Nat)} {t:Nat} {cons:List (Nat × Nat)} {info:List (List Bool × Option (List Nat))} {fin:List Bool} {e e2:Env} {id:Nat} {os:Array Oper} {ρ:List Value} {tmps:Array Value} {w:World} {Φ:Nat→Prop} {f:Cnt}
  {Q:Exit→Act→World→Prop} (hl:e.length=V.length) (hnd:nodupB (V++D)=true) (hok:iM P V D n os 0 os.toList ops=true) (hsee:yN os sees t=true) (ht:t≤ops.length) (hmix:P.follows .mixedOrders=true) (hco:tH cons sees t=true) (hinf:vX cons sees t info fin=true)
  (hst:St P C V n e ρ tmps w Φ f) (h:df P e (ops.take t) info [] fun vs=>jC P V.length t (ops.drop t) (e++dR fin vs++gq (ops.length-t)) (fun e1=>e1=e2))
  (hQ:∀ ρ1 tmps1 w1 Φ1 f1,St P C (V++D) n e2 ρ1 tmps1 w1 Φ1 f1→Q .normal ⟨tmps1,[]⟩ w1) (hQp:∀ c a w,¬Q (.panic c) a w):(Code.region id os true).wp P Q ⟨tmps,[]⟩ w:=by
 simp only[vX,Bool.and_eq_true,List.all_eq_true,List.mem_range,beq_iff_eq] at hinf
 replace h:=Bg (cons:=cons) (S:=sees) (sees:=sees) (fun i hi=>by simpa using hinf.1 i (by simp at hi;omega)) h
 have hρ:ρ.length=V.length:=by rw[←aV hst.rel];omega
 have hos:os.size=ops.length:=by have:=kJ hok;simpa using this
 obtain⟨vs,hvl,⟨ws,hws⟩,htail,hvals⟩:=Fa h
 simp only[List.length_nil,Nat.zero_add,List.length_take] at hvl
 have hvt:vs.length=t:=by omega
 rw[hinf.2,List.range_eq_range',F6 hvt] at htail
 have hst0:=RZ (agB (D:=D) hst (by omega) ops.length)
 refine wp_region_any hmix (PN (C:=C) (Q:=fun e1=>e1=e2) (e:=e) (vs:=vs) (nN hnd) hok hsee hco (by omega) (by omega) hvt (fun e1 ρ1 tmps1 w1 Φ1 f1 hst1 he1=>?_) hQp (fun k so hk hso=>?_) ?_ os.size _ (ρ++List.replicate ops.length unk) tmps _ Φ f (by simp) (fun j _ hj=>by simp[hj]) (by rw[Rw];omega)
  (fun y hy hly=>by simp[hy] at hly) ?_ (fun j hj _=>ul (by omega) (by omega)))
 ·subst he1
  exact hQ _ _ _ _ _ hst1
 ·have:=hvals k so (by rw[List.getElem?_take,if_pos hk];exact hso)
  simpa using this
 ·rw[hos];exact htail
 ·have:lw e (vis cons (Array.replicate os.size false)) vs (os.size-t)=e++gq ops.length:=by
   have hmask:gp (vis cons (Array.replicate os.size false)) 0 vs=gq t:=by
    apply List.ext_getElem?
    intro i
    rw[mf]
    simp only[gq,List.getElem?_replicate,Nat.zero_add]
    by_cases hi:i<t
    ·rw[if_pos hi,List.getElem?_eq_getElem (by omega)]
     have:vis cons (Array.replicate os.size false) i=false:=by simp[vis,show i<os.size by omega]
     simp[this]
    ·rw[if_neg hi,List.getElem?_eq_none (by omega)];rfl
   rw[lw,hmask,gq,gq,List.append_assoc,List.replicate_append_replicate,hos]
   congr 2
   omega
  rw[this]
  exact hst0
theorem aPo {e:Env} {ρ:List Value} {w:World} {Φ:Nat→Prop} {σ:Nat→Value} {f:Cnt} (h:CR P w Φ σ ρ e ρ f) (hr:e.any dS=false):hrs e=false:=sO h hr
theorem RY {e:Env} {ρ:List Value} {tmps:Array Value} {w:World} {Φ:Nat→Prop} {f:Cnt} {j:Nat} (h:St P C V n e ρ tmps w Φ f) (hl:e.length=V.length) (hr:e.any dS=false) (hj:j<V.length) :
  ∃ f',St P C (V.set j (n+999)) n (e.set j .dead) (ρ.set j unk) tmps w Φ f':=by
 have s:=fJ w Φ (ρ.set j unk) (fun _ _=>rfl) (fun _ h=>h) _ _ _ (sO h.rel hr) (fun _ _=>rfl) h.rel
 have hd:e[j]?=some (e[j]'(by omega)):=List.getElem?_eq_getElem (by omega)
 obtain⟨cv,f1,f2,hcv,hv,hf,hset⟩:=bT j s hd
 have s2:=hset .dead unk (fun _=>0) (by simp[VR])
 have hle:∀ b,(fun b=>0+f2 b) b≤f b:=fun b=>by have:=hf b;show 0+f2 b≤f b;omega
 refine⟨_,s2,fun i u hi=>?_,h.inv.le hle,h.ext,h.sub,h.new,fun b hb=>h.own b (Nat.le_trans hb (hle b)),h.size⟩
 rw[List.getElem?_set] at hi
 split at hi
 ·split at hi
  ·exact .inl (Option.some.inj hi).symm
  ·cases hi
 ·rename_i hne
  rcases h.lk i u hi with h1|⟨t,ht,h2⟩
  ·exact .inl h1
  ·exact .inr ⟨t,by rw[List.getElem?_set_ne hne];exact ht,h2⟩
theorem RX {e:Env} {ρ:List Value} {tmps:Array Value} {w:World} {Φ:Nat→Prop} {f:Cnt} {j k x:Nat} {v:AV} (h:St P C (V.set j x++D) n e ρ tmps w Φ f) (hr:(e.take V.length).any dS=false) (hj:j<V.length) (hjk:V[j]?=D[k]?) (hk:k<D.length)
  (hv:e[V.length+k]?=some v) (hvr:dS v=false):∃ ρ' f',St P C V n ((e.take V.length).set j v) ρ' tmps w Φ f':=by
 obtain⟨f1,f2,h1,h2,hf⟩:=bF V.length h.rel
 obtain⟨cv,g1,g2,hcv,hvr1,hg,_⟩:=bT k h2 (by rw[List.getElem?_drop];exact hv)
 have hcv':ρ[V.length+k]?=some cv:=by rw[List.getElem?_drop] at hcv;exact hcv
 have s1:=fJ w Φ ((ρ.take V.length).set j cv) (fun _ _=>rfl) (fun _ h=>h) _ _ _ (sO h1 hr) (fun _ _=>rfl) h1
 have s2:=vM w Φ ((ρ.take V.length).set j cv) (fun _ _=>rfl) (fun _ h=>h) v cv g1 (jQ hvr1 hvr) (fun _ _=>rfl) hvr1
 have hlen:V.length≤e.length:=by have:=(List.getElem?_eq_some_iff.1 hv).1;omega
 obtain⟨g,hg1,hg2⟩:=MV s1 s2 (i:=j) (by simp;omega)
 have hle:∀ b,g b≤f b:=fun b=>by have:=hg2 b;have:=hf b;have:=hg b;omega
 refine⟨(ρ.take V.length).set j cv,g,⟨hg1,fun i u hi=>?_,h.inv.le hle,h.ext,h.sub,h.new,fun b hb=>h.own b (Nat.le_trans hb (hle b)),h.size⟩⟩
 rw[List.getElem?_set] at hi
 split at hi
 ·rename_i hij
  subst hij
  split at hi
  ·have hu:=Option.some.inj hi
   subst hu
   rcases h.lk _ _ hcv' with h1|⟨t,ht,h2⟩
   ·exact .inl h1
   ·refine .inr ⟨t,?_,h2⟩
    rw[List.getElem?_append_right (by simp)] at ht
    simp at ht
    rw[hjk];exact ht
  ·cases hi
 ·rename_i hne
  rw[List.getElem?_take] at hi
  split at hi
  ·rename_i hil
   rcases h.lk i u hi with h1|⟨t,ht,h2⟩
   ·exact .inl h1
   ·rw[List.getElem?_append_left (by simpa using hil),List.getElem?_set_ne hne] at ht
    exact .inr ⟨t,ht,h2⟩
  ·cases hi
theorem LH {m:Nat} (hm:m=V.length) {sc:ah} {e e2:Env} {ex:Exit} (h:lD P m sc e ex e2):e.length=m→aB6 P C V n sc e ex e2:=by
 induction h with
 | skip =>
  intro hl
  refine⟨by omega,fun c hc ρ tmps w Φ f hst=>?_,fun b hb=>by cases hb⟩
  cases c<;>simp[di] at hc
  ·exact wp_skip ⟨rfl,ρ,tmps,Φ,f,rfl,hst⟩
 | reg h hr =>
  rename_i D ops e e2
  intro hl
  obtain⟨h1,h2⟩:=vC hr
  refine⟨by omega,fun c hc ρ tmps w Φ f hst=>?_,fun b hb=>by cases hb⟩
  cases c<;>try (simp[di] at hc;done)
  rename_i id os dr
  cases dr<;>simp[di] at hc
  obtain⟨⟨hnd,hDl⟩,hok⟩:=hc
  have hρ:ρ.length=V.length:=by rw[←aV hst.rel];omega
  refine wp_region_list (Bc (C:=C) (nN hnd) (Q:=fun e1=>e1=e2) (fun e1 ρ1 tmps1 w1 Φ1 f1 hst1 he1=>?_) ops os.toList 0 _ _ tmps w Φ f hok (agB hst (by omega) ops.length) (by simp[gq];omega) (fun i hi hi2=>?_) (by rw[←hm];exact h))
  ·subst he1
   rw[hm] at h2 ⊢
   obtain⟨f',hst'⟩:=W9 hst1 h2
   exact⟨rfl,_,_,_,_,rfl,hst'⟩
  ·simp at hi2
   exact ul (by omega) (by omega)
 | dreg h hr =>
  rename_i D ops sees t cons info fin e e2
  intro hl
  obtain⟨h1,h2⟩:=vC hr
  refine⟨by omega,fun c hc ρ tmps w Φ f hst=>?_,fun b hb=>by cases hb⟩
  cases c<;>try (simp[di] at hc;done)
  rename_i id os dr
  cases dr<;>simp[di] at hc
  obtain⟨⟨⟨⟨⟨⟨⟨hnd,hDl⟩,hok⟩,hsee⟩,ht⟩,hmix⟩,hco⟩,hinf⟩:=hc
  simp only[vX,Bool.and_eq_true,List.all_eq_true,List.mem_range,beq_iff_eq] at hinf
  refine Am (e2:=e2) (by omega) hnd hok hsee ht hmix hco (by simpa [vX] using hinf) hst (hm▸h) (fun ρ1 tmps1 w1 Φ1 f1 hst1=>?_) (fun c a w h=>nomatch h.1)
  rw[hm] at h2 ⊢
  obtain⟨f',hst'⟩:=W9 hst1 h2
  exact⟨rfl,_,_,_,_,rfl,hst'⟩
 | dregm hd h hr hv =>
  rename_i j k D ops sees t cons info fin e e2 e3
  intro hl
  obtain⟨h1,h2⟩:=vC hr
  unfold yP at hv
  split at hv
  ·rename_i v hkv
   split at hv
   ·cases hv
   ·rename_i hvr
    simp only[Option.some.injEq] at hv
    subst hv
    refine⟨by rw[List.length_set];omega,fun c hc ρ tmps w Φ f hst=>?_,fun b hb=>by cases hb⟩
    cases c<;>try (simp[di] at hc;done)
    rename_i id os dr
    cases dr<;>simp[di] at hc
    obtain⟨⟨⟨⟨⟨⟨⟨⟨⟨⟨hj,hjk⟩,hk⟩,hnd⟩,hDl⟩,hok⟩,hsee⟩,ht⟩,hmix⟩,hco⟩,hinf⟩:=hc
    obtain⟨f1,hst'⟩:=RY hst (by omega) hd hj
    refine Am (e2:=e2) (by simp;omega) hnd hok hsee ht hmix hco (by simpa [vX] using hinf) hst' (by simpa [hm] using h) (fun ρ1 tmps1 w1 Φ1 f1 hst1=>?_) (fun c a w h=>nomatch h.1)
    simp only[Bool.or_eq_true,not_or,Bool.not_eq_true] at hvr
    rw[hm] at hvr hkv ⊢
    obtain⟨ρ2,f',hst2⟩:=RX hst1 hvr.2 hj hjk hk hkv hvr.1
    exact⟨rfl,_,_,_,_,rfl,hst2⟩
  ·cases hv
 | seq h1 h2 ih1 ih2 =>
  rename_i a b e e1 e2 ex
  intro hl
  have i1:=ih1 hl
  have i2:=ih2 (by rw[i1.len,hm])
  refine⟨i2.len,fun c hc ρ tmps w Φ f hst=>?_,fun b hb=>by cases hb⟩
  cases c<;>try (simp[di] at hc;done)
  ·rename_i x y
   simp only[di,Bool.and_eq_true] at hc
   refine wp_seq (wp_mono (i1.wp x hc.1 ρ tmps w Φ f hst) ?_)
   rintro ex' a' w' ⟨rfl,ρ1,tmps1,Φ1,f1,rfl,hst1⟩
   exact i2.wp y hc.2 ρ1 tmps1 w' Φ1 f1 hst1
 | seqOut h1 hx ih1 =>
  rename_i a b e e1 ex
  intro hl
  have i1:=ih1 hl
  refine⟨i1.len,fun c hc ρ tmps w Φ f hst=>?_,fun b hb=>by cases hb⟩
  cases c<;>try (simp[di] at hc;done)
  ·rename_i x y
   simp only[di,Bool.and_eq_true] at hc
   refine wp_seq (wp_mono (i1.wp x hc.1 ρ tmps w Φ f hst) ?_)
   rintro ex' a' w' ⟨rfl,hrest⟩
   cases ex'<;>first|exact absurd rfl hx|exact⟨rfl,hrest⟩
 | cond hx h ih =>
  rename_i x a b e e2 ex t
  intro hl
  have i1:=ih (by rw[FO,hl])
  refine⟨i1.len,fun c hc ρ tmps w Φ f hst=>?_,fun b hb=>by cases hb⟩
  cases c<;>try (simp[di] at hc;done)
  ·rename_i cx y z
   simp only[di,Bool.and_eq_true] at hc
   obtain⟨⟨hc1,hc2⟩,hc3⟩:=hc
   have hv:=oh (bi (a:=⟨tmps,[]⟩) hst.rel hst.lk hc1 hx (fun _=>0) (fun _=>rfl))
   obtain⟨f',hst'⟩:=Ba (x:=x) hst
   refine wp_cond hv ?_
   cases t
   ·exact i1.wp z hc3 ρ tmps w Φ f' hst'
   ·exact i1.wp y hc2 ρ tmps w Φ f' hst'
 | condk hx h ih =>
  rename_i x a b e e2 ex t
  intro hl
  have i1:=ih hl
  refine⟨i1.len,fun c hc ρ tmps w Φ f hst=>?_,fun b hb=>by cases hb⟩
  cases c<;>try (simp[di] at hc;done)
  ·rename_i cx y z
   simp only[di,Bool.and_eq_true] at hc
   obtain⟨⟨hc1,hc2⟩,hc3⟩:=hc
   have hv:=oh (bi (a:=⟨tmps,[]⟩) hst.rel hst.lk hc1 hx (fun _=>0) (fun _=>rfl))
   refine wp_cond hv ?_
   cases t
   ·exact i1.wp z hc3 ρ tmps w Φ f hst
   ·exact i1.wp y hc2 ρ tmps w Φ f hst
 | block h ih =>
  rename_i id b e e2 ex
  intro hl
  have i1:=ih hl
  refine⟨i1.len,fun c hc ρ tmps w Φ f hst=>?_,fun b hb=>by cases hb⟩
  cases c<;>try (simp[di] at hc;done)
  ·rename_i id' y
   simp only[di,Bool.and_eq_true,beq_iff_eq] at hc
   obtain⟨rfl,hc⟩:=hc
   refine wp_block (wp_mono (i1.wp y hc ρ tmps w Φ f hst) ?_)
   rintro ex' a' w' ⟨rfl,hrest⟩
   cases ex'<;>try exact⟨rfl,hrest⟩
   rename_i i
   simp only[Exit.inBlock,outOf]
   split
   ·exact⟨rfl,hrest⟩
   ·exact⟨rfl,hrest⟩
 | loop h1 h2 ih1 ih2 =>
  rename_i b e e1 e2 ex
  intro hl
  have i1:=ih1 hl
  have i2:=ih2 (by rw[i1.len,hm])
  obtain⟨k,hk⟩:=i2.loop b rfl
  have go:∀ (c:Code),di P V n c b=true→∀ ρ tmps w Φ f,St P C V n e ρ tmps w Φ f→Code.rounds P c (Post P C V n ex e2) (k+1) ⟨tmps,[]⟩ w:=by
   intro c hc ρ tmps w Φ f hst
   rw[rounds_succ]
   refine wp_mono (i1.wp c hc ρ tmps w Φ f hst) ?_
   rintro ex' a' w' ⟨rfl,ρ1,tmps1,Φ1,f1,rfl,hst1⟩
   exact hk c hc ρ1 tmps1 w' Φ1 f1 hst1
  refine⟨i2.len,fun c hc ρ tmps w Φ f hst=>?_,fun b' hb=>?_⟩
  ·obtain⟨c',rfl,hc'⟩:=yu hc
   exact wp_loop_rounds (k+1) (go c' hc' ρ tmps w Φ f hst)
  ·cases hb;exact⟨k+1,go⟩
 | loopOut h1 hx ih1 =>
  rename_i b e e1 ex
  intro hl
  have i1:=ih1 hl
  have go:∀ (c:Code),di P V n c b=true→∀ ρ tmps w Φ f,St P C V n e ρ tmps w Φ f→Code.rounds P c (Post P C V n ex e1) 1 ⟨tmps,[]⟩ w:=by
   intro c hc ρ tmps w Φ f hst
   rw[rounds_succ]
   refine wp_mono (i1.wp c hc ρ tmps w Φ f hst) ?_
   rintro ex' a' w' ⟨rfl,hrest⟩
   cases ex'<;>first|exact absurd rfl hx|exact⟨rfl,hrest⟩
  refine⟨i1.len,fun c hc ρ tmps w Φ f hst=>?_,fun b' hb=>?_⟩
  ·obtain⟨c',rfl,hc'⟩:=yu hc
   exact wp_loop_rounds 1 (go c' hc' ρ tmps w Φ f hst)
  ·cases hb;exact⟨1,go⟩
 | forget j h1 ih1 =>
  intro hl
  have i1:=ih1 (by simpa using hl)
  refine⟨i1.len,fun c hc ρ tmps w Φ f hst=>?_,fun b hb=>?_⟩
  ·obtain⟨f',hst'⟩:=Ba (x:=.slot j) hst
   exact i1.wp c hc ρ tmps w Φ f' hst'
  ·obtain⟨k,hk⟩:=i1.loop b hb
   refine⟨k,fun c hc ρ tmps w Φ f hst=>?_⟩
   obtain⟨f',hst'⟩:=Ba (x:=.slot j) hst
   exact hk c hc ρ tmps w Φ f' hst'
 | frz he hf h1 ih1 =>
  intro hl
  have i1:=ih1 (by simpa using hl)
  refine⟨i1.len,fun c hc ρ tmps w Φ f hst=>?_,fun b hb=>by cases hb⟩
  obtain⟨Φ',f',hst'⟩:=xZ hst he hf
  exact i1.wp c (by simpa only[di] using hc) ρ tmps w Φ' f' hst'
 | freeze j v v' he hf h1 ih1 =>
  intro hl
  have i1:=ih1 (by simpa using hl)
  refine⟨i1.len,fun c hc ρ tmps w Φ f hst=>?_,fun b hb=>?_⟩
  ·obtain⟨Φ',f',hst'⟩:=xZ hst he hf
   exact i1.wp c hc ρ tmps w Φ' f' hst'
  ·obtain⟨k,hk⟩:=i1.loop b hb
   refine⟨k,fun c hc ρ tmps w Φ f hst=>?_⟩
   obtain⟨Φ',f',hst'⟩:=xZ hst he hf
   exact hk c hc ρ tmps w Φ' f' hst'
 | exit =>
  intro hl
  refine⟨by omega,fun c hc ρ tmps w Φ f hst=>?_,fun b hb=>by cases hb⟩
  cases c<;>try (simp[di] at hc;done)
  ·simp[di] at hc;subst hc
   exact wp_exit ⟨rfl,ρ,tmps,Φ,f,rfl,hst⟩
 | ret =>
  intro hl
  refine⟨by omega,fun c hc ρ tmps w Φ f hst=>?_,fun b hb=>by cases hb⟩
  cases c<;>try (simp[di] at hc;done)
  ·exact wp_ret ⟨rfl,ρ,tmps,Φ,f,rfl,hst⟩
end
end Go.AM
namespace Go.AM
open Go
inductive aG where
 | tmp (j:Nat)
 | cell (j sz:Nat) (ag:Bool)
def mO:AV→Bool
 | .dead=>false
 | .gone=>false
 | .tup _ _=>false
 | _=>true
def SG (e:Env):aG→Option (AV × Env)
 | .tmp j=>match e[j]? with
  | some v=>if dS v=false∧mO v=true then some (v,e.set j .dead) else none
  | none=>none
 | .cell j sz ag=>match e[j]? with
  | some (.bx _ _ cs)=>if cs.length=sz then match mkv ag cs with
    | some v=>if mO v=true then some (v,e.set j .dead) else none
    | none=>none
   else none
  | _=>none
def Iw:Env→List aG→Option (List AV)
 | _,[]=>some []
 | e,r::rs=>match SG e r with
  | some (v,e')=>match Iw e' rs with
   | some vs=>some (v::vs)
   | none=>none
  | none=>none
def tq:Env→List aG→Option (List AV × Env)
 | e,[]=>some ([],e)
 | e,r::rs=>match SG e r with
  | some (v,e')=>match tq e' rs with
   | some (vs,e2)=>some (v::vs,e2)
   | none=>none
  | none=>none
def isS (s:Nat):AV→Bool
 | .osl s' _ _ _=>s'==s
 | .bx s' _ _=>s'==s
 | _=>false
def zk (s:Nat):List AV→Option (AV × List AV)
 | []=>none
 | c::cs=>if isS s c=true then some (c,.gone::cs) else match zk s cs with
  | some (v,cs')=>some (v,c::cs')
  | none=>none
def zl (s:Nat):AV→Option (AV × AV)
 | .bx t k cs=>match zk s cs with
  | some (v,cs')=>some (v,.bx t k cs')
  | none=>none
 | .agg cs=>match zk s cs with
  | some (v,cs')=>some (v,.agg cs')
  | none=>none
 | .fn g cs=>match zk s cs with
  | some (v,cs')=>some (v,.fn g cs')
  | none=>none
 | _=>none
def Gt (s:Nat):Env→Option (AV × Env)
 | []=>none
 | c::cs=>if isS s c=true then some (c,.gone::cs) else match zl s c with
  | some (v,c')=>some (v,c'::cs)
  | none=>match Gt s cs with
   | some (v,cs')=>some (v,c::cs')
   | none=>none
def zM:Env→List Nat→Option (List AV)
 | _,[]=>some []
 | e,s::ss=>match Gt s e with
  | some (v,e')=>match zM e' ss with
   | some vs=>some (v::vs)
   | none=>none
  | none=>none
def shA:AV→Option Nat
 | .agg cs=>some cs.length
 | _=>none
def qQ:List AV→AV
 | [v]=>v
 | vs=>.tup (vs.map shA) (vs.flatMap cellsOf)
def nM (P:Program) (V:List Nat) (n:Nat):List ResultVar→List aG→Bool
 | [],[]=>true
 | .tmp t::rs,.tmp j::ss=>V[j]?==some t&&decide (t<n)&&nM P V n rs ss
 | .cell a t::rs,.cell j sz ag::ss=>V[j]?==some a&&decide (a<n)&&tZ P t==some ag&&(if ag then lT P t==some sz else sz==1)&&nM P V n rs ss
 | _,_=>false
def aJ (P:Program) (fn:Func) (V:List Nat) (sc:ah) (rs:List aG) (k:Nat):Bool :=
 (match fn.body with|some c=>di P V fn.ntmps c sc|none=>false)&&nodupB V&&(V.take k==List.range k)&&decide (k≤V.length)&&decide (k≤fn.ntmps)&&nM P V fn.ntmps fn.results.toList rs
section
variable {P : Program} {w : World} {Φ : Nat → Prop} {σ : Nat → Value} {ρ : List Value}
theorem QW {ag:Bool} {cs:List AV} {v:AV} {us:List Value} {f:Cnt} (hm:mkv ag cs=some v) (hc:CR P w Φ σ ρ cs us f) :
  VR P w Φ σ ρ v (if ag then .agg us.toArray else us.headD undef) f:=by
 cases ag with
 | true =>
  simp[mkv] at hm;subst hm
  simp only[if_true,VR]
  exact⟨_,rfl,by simpa using hc⟩
 | false =>
  simp[mkv] at hm
  split at hm
  ·rename_i c
   simp at hm;subst hm
   simp only[CR] at hc
   obtain⟨u,us',f1,f2,rfl,h1,⟨rfl,h2⟩,h3⟩:=hc
   have:f1=f:=funext fun b=>by have:=h3 b;have:=h2 b;omega
   simpa [this] using h1
  ·cases hm
def res1 (tmps:Array Value):ResultVar→Sem Value
 | .tmp t=>pure (tmps.getD t undef)
 | .cell a t=>do loadVar t (←asAddr (tmps.getD a undef))
theorem ag0 {ag:Bool} {cs:List AV} {v:AV} (h:hrs cs=false) (hm:mkv ag cs=some v):hr v=false:=by
 cases ag with
 | true=>simp[mkv] at hm;subst hm;simpa only[hr] using h
 | false =>
  simp[mkv] at hm
  split at hm
  ·simp at hm;subst hm;simpa [hrs] using h
  ·cases hm
theorem aB3 {v:AV} {f:Cnt} (hv:mO v=true) (h:VR P w Φ σ ρ v unk f):False:=by
 cases v<;>simp only[VR] at h
 ·simp[mO] at hv
 ·simp[mO] at hv
 ·have:=h.1;cases this
 ·have:=h.1;cases this
 ·have:=h.1;cases this
 ·obtain⟨vs,e,_⟩:=h;cases e
 ·have:=h.1;cases this
 ·obtain⟨⟨a,c,e,_⟩,_⟩:=h;cases e
 ·obtain⟨⟨a,c,e,_⟩,_⟩:=h;cases e
 ·obtain⟨⟨a,e,_⟩,_⟩:=h;cases e
 ·obtain⟨_,_,xs,f1,ho,_⟩:=h;obtain⟨a,c,e,_⟩:=bf ho;cases e
 ·obtain⟨_,_,b0,arr,f1,e,_⟩:=h;cases e
 ·obtain⟨arr,e,_⟩:=h;cases e
 ·simp[mO] at hv
 ·obtain⟨⟨bo,row,a,n,c,_,_,e⟩,_⟩:=h;cases e
 ·obtain⟨⟨b0,row,_,e⟩,_⟩:=h;cases e
 ·obtain⟨⟨bo,row,g,fs,cs,_,_,e⟩,_⟩:=h;cases e
 ·obtain⟨⟨bo,row,a,n,c,_,_,_,e⟩,_⟩:=h;cases e
theorem RV {v:AV} {cv:Value} {f:Cnt} (hv:mO v=true) (h:VR P w Φ σ ρ v cv f):shp cv=shA v∧CR P w Φ σ ρ (cellsOf v) cv.cells.toList f:=by
 have one:∀ {v:AV},cellsOf v=[v]→shA v=none→VR P w Φ σ ρ v cv f→shp cv=none→cv.cells.toList=[cv]→shp cv=shA v∧CR P w Φ σ ρ (cellsOf v) cv.cells.toList f:=by
  intro v h1 h2 h3 h4 h5
  rw[h1,h2,h4,h5]
  refine⟨rfl,?_⟩
  have:=CR_cons h3 (CR_nil (P:=P) (w:=w) (Φ:=Φ) (σ:=σ) (ρ:=ρ))
  simpa using this
 have h0:=h
 cases v<;>simp only[VR] at h
 ·simp[mO] at hv
 ·simp[mO] at hv
 ·obtain⟨rfl,_⟩:=h;exact one rfl rfl h0 rfl rfl
 ·obtain⟨rfl,_⟩:=h;exact one rfl rfl h0 rfl rfl
 ·obtain⟨rfl,_⟩:=h;exact one rfl rfl h0 rfl rfl
 ·obtain⟨vs,rfl,_⟩:=h;exact one rfl rfl h0 rfl rfl
 ·obtain⟨rfl,_⟩:=h;exact one rfl rfl h0 rfl rfl
 ·obtain⟨⟨a,c,rfl,_⟩,_⟩:=h;exact one rfl rfl h0 rfl rfl
 ·obtain⟨⟨a,c,rfl,_⟩,_⟩:=h;exact one rfl rfl h0 rfl rfl
 ·obtain⟨⟨a,rfl,_⟩,_⟩:=h;exact one rfl rfl h0 rfl rfl
 ·obtain⟨_,_,xs,f1,ho,_⟩:=h;obtain⟨a,c,rfl,_⟩:=bf ho;exact one rfl rfl h0 rfl rfl
 ·obtain⟨_,_,b0,arr,f1,rfl,_⟩:=h;exact one rfl rfl h0 rfl rfl
 ·obtain⟨arr,rfl,h1⟩:=h
  exact⟨by simp[shp,shA,aV h1],h1⟩
 ·simp[mO] at hv
 ·obtain⟨⟨bo,row,a,n,c,_,_,rfl⟩,_⟩:=h;exact one rfl rfl h0 rfl rfl
 ·obtain⟨⟨b0,row,_,rfl⟩,_⟩:=h;exact one rfl rfl h0 rfl rfl
 ·obtain⟨⟨bo,row,g,fs,cs,_,_,rfl⟩,_⟩:=h;exact one rfl rfl h0 rfl rfl
 ·obtain⟨⟨bo,row,a,n,c,_,_,_,rfl⟩,_⟩:=h;exact one rfl rfl h0 rfl rfl
theorem Iy {V:List Nat} {n:Nat} {rv:ResultVar} {r:aG} {e e':Env} {v:AV} {tmps:Array Value} {f:Cnt} (hok:nM P V n [rv] [r]=true) (hrel:CR P w Φ σ ρ e ρ f) (hl:LK V ρ e tmps) (hx:SG e r=some (v,e')) :
  ∃ cv f1 f2,(res1 tmps rv).run P w=.ok cv w∧VR P w Φ σ ρ v cv f1∧hr v=false∧mO v=true∧CR P w Φ σ ρ e' ρ f2∧∀ b,f1 b+f2 b≤f b:=by
 have lkv:∀ {j t:Nat} {cv:Value},V[j]?=some t→ρ[j]?=some cv→cv≠unk→tmps.getD t undef=cv:=by
  intro j t cv hj hc hne
  rcases hl j cv hc with h|⟨t',ht,h⟩
  ·exact absurd h hne
  ·rw[hj] at ht;cases ht;exact h
 have drop:∀ {j:Nat} {u:AV},e[j]?=some u→∃ cv f1 f2,ρ[j]?=some cv∧VR P w Φ σ ρ u cv f1∧(∀ b,f b=f1 b+f2 b)∧CR P w Φ σ ρ (e.set j .dead) ρ f2:=by
  intro j u hj
  obtain⟨cv,f1,f2,hv,hvr,hf,hset⟩:=bT j hrel hj
  have:=hset .dead cv (fun _=>0) (by simp[VR])
  rw[ed hv] at this
  simp only[Nat.zero_add] at this
  exact⟨cv,f1,f2,hv,hvr,hf,this⟩
 cases r with
 | tmp j =>
  cases rv<;>simp[nM] at hok
  rename_i t
  simp only[SG] at hx
  split at hx
  ·rename_i u hu
   split at hx
   ·rename_i hc
    simp at hx
    obtain⟨rfl,rfl⟩:=hx
    obtain⟨cv,f1,f2,hv,hvr,hf,hset⟩:=drop hu
    refine⟨tmps.getD t undef,f1,f2,rfl,?_,jQ hvr hc.1,hc.2,hset,fun b=>by have:=hf b;omega⟩
    rw[lkv hok.1 hv (by rintro rfl;exact aB3 hc.2 hvr)];exact hvr
   ·cases hx
  ·cases hx
 | cell j sz ag =>
  cases rv<;>simp[nM] at hok
  rename_i a t
  obtain⟨⟨⟨h1,h2⟩,h3⟩,h4⟩:=hok
  simp only[SG] at hx
  split at hx
  ·rename_i s bt cs hj
   split at hx
   ·rename_i hlen
    split at hx
    ·rename_i u hm
     obtain⟨hval,rfl,rfl⟩:mO u=true∧u=v∧e.set j .dead=e':=by simpa using hx
     obtain⟨cv,f1,f2,hv,hvr,hf,hset⟩:=drop hj
     have hvr0:=hvr
     simp only[VR] at hvr
     obtain⟨_,hrf,b0,arr,g1,rfl,hheap,hcr,hg⟩:=hvr
     have hus:arr.toList.length=sz:=by rw[←aV hcr];exact hlen
     have hr:=ru (P:=P) (w:=w) (ad:=⟨b0,0,none⟩) h3 (by cases ag<;>simpa using h4) hus (fun i u hi=>by
      rw[add_lit,cell_of_row w b0 _ arr bt (0,0) hheap]
      simpa using hi)
     refine⟨_,g1,f2,?_,QW hm hcr,ag0 hrf hm,hval,hset,fun b=>by have:=hf b;have:=hg b;omega⟩
     simp only[res1]
     rw[lkv h1 hv (by simp)]
     simpa [asAddr] using hr
    ·cases hx
   ·cases hx
  ·cases hx
theorem zS {V:List Nat} {n:Nat} {rv:ResultVar} {rvs:List ResultVar} {r:aG} {rs:List aG} (h:nM P V n (rv::rvs) (r::rs)=true):nM P V n [rv] [r]=true∧nM P V n rvs rs=true:=by
 cases rv<;>cases r<;>simp[nM] at h ⊢
 ·exact⟨h.1,h.2⟩
 ·exact⟨h.1,h.2⟩
theorem QK {V:List Nat} {n:Nat} {tmps:Array Value}:∀ {rvs:List ResultVar} {rs:List aG} {e:Env} {vs:List AV} {f:Cnt},nM P V n rvs rs=true→CR P w Φ σ ρ e ρ f→LK V ρ e tmps→Iw e rs=some vs →
  ∃ cvs f1,(rvs.mapM (res1 tmps)).run P w=.ok cvs w∧CR P w Φ σ ρ vs cvs f1∧hrs vs=false∧(∀ v∈vs,mO v=true)∧∀ b,f1 b≤f b
 | [],[],e,vs,f,hok,hrel,hl,hx=>by
  simp[Iw] at hx;subst hx
  exact⟨[],fun _=>0,by simp,CR_nil,rfl,by simp,fun b=>Nat.zero_le _⟩
 | rv::rvs,r::rs,e,vs,f,hok,hrel,hl,hx=>by
  obtain⟨hok1,hok2⟩:=zS hok
  simp only[Iw] at hx
  split at hx
  ·rename_i v e' h1
   split at hx
   ·rename_i vs' h2
    simp at hx;subst hx
    obtain⟨cv,f1,f2,k1,k2,k3,k4,k5,k6⟩:=Iy hok1 hrel hl h1
    obtain⟨cvs,g1,m1,m2,m3,m4,m5⟩:=QK (tmps:=tmps) hok2 k5 (fun j cv hj=>hl j cv hj) h2
    refine⟨cv::cvs,_,?_,CR_cons k2 m2,by simp[hrs,k3,m3],?_,fun b=>?_⟩
    ·rw[List.mapM_cons,Sem.run_bind,k1]
     simp only[Result.andThen_ok]
     rw[Sem.run_bind,m1]
     simp
    ·intro v' hv'
     rcases List.mem_cons.1 hv' with rfl|h
     ·exact k4
     ·exact m4 _ h
    ·have:=k6 b
     have:=m5 b
     show f1 b+g1 b≤f b
     omega
   ·cases hx
  ·cases hx
 | [],_::_,e,vs,f,hok,_,_,_=>by simp[nM] at hok
 | rv::_,[],e,vs,f,hok,_,_,_=>by cases rv<;>simp[nM] at hok
theorem Iu {V:List Nat} {n:Nat} {tmps:Array Value}:∀ {rvs:List ResultVar} {rs:List aG} {e e2:Env} {vs:List AV} {f:Cnt},nM P V n rvs rs=true→CR P w Φ σ ρ e ρ f→LK V ρ e tmps→tq e rs=some (vs,e2) →
  ∃ cvs f1 f2,(rvs.mapM (res1 tmps)).run P w=.ok cvs w∧CR P w Φ σ ρ vs cvs f1∧hrs vs=false∧(∀ v∈vs,mO v=true)∧CR P w Φ σ ρ e2 ρ f2∧∀ b,f1 b+f2 b≤f b
 | [],[],e,e2,vs,f,hok,hrel,hl,hx=>by
  simp[tq] at hx;obtain⟨rfl,rfl⟩:=hx
  exact⟨[],fun _=>0,f,by simp,CR_nil,rfl,by simp,hrel,fun b=>by simp⟩
 | rv::rvs,r::rs,e,e2,vs,f,hok,hrel,hl,hx=>by
  obtain⟨hok1,hok2⟩:=zS hok
  simp only[tq] at hx
  split at hx
  ·rename_i v e' h1
   split at hx
   ·rename_i vs' e3 h2
    simp at hx;obtain⟨rfl,rfl⟩:=hx
    obtain⟨cv,f1,f2,k1,k2,k3,k4,k5,k6⟩:=Iy hok1 hrel hl h1
    obtain⟨cvs,g1,g2,m1,m2,m3,m4,m5,m6⟩:=Iu (tmps:=tmps) hok2 k5 (fun j cv hj=>hl j cv hj) h2
    refine⟨cv::cvs,_,g2,?_,CR_cons k2 m2,by simp[hrs,k3,m3],?_,m5,fun b=>?_⟩
    ·rw[List.mapM_cons,Sem.run_bind,k1]
     simp only[Result.andThen_ok]
     rw[Sem.run_bind,m1]
     simp
    ·intro v' hv'
     rcases List.mem_cons.1 hv' with rfl|h
     ·exact k4
     ·exact m4 _ h
    ·have:=k6 b
     have:=m6 b
     show f1 b+g1 b+g2 b≤f b
     omega
   ·cases hx
  ·cases hx
 | [],_::_,e,e2,vs,f,hok,_,_,_=>by simp[nM] at hok
 | rv::_,[],e,e2,vs,f,hok,_,_,_=>by cases rv<;>simp[nM] at hok
theorem NL {s:Nat} {v:AV} {cv:Value} {f:Cnt} (hs:s≠0) (hv:isS s v=true) (h:VR P w Φ σ ρ v cv f):σ s=cv∧hr v=false:=by
 cases v<;>simp[isS] at hv
 ·subst hv;simp only[VR] at h;exact⟨h.1 hs,by simpa [hr] using h.2.1⟩
 ·subst hv;simp only[VR] at h;exact⟨h.1 hs,by simpa [hr] using h.2.1⟩
theorem rW {s:Nat} (hs:s≠0):∀ {cs cs':List AV} {v:AV} {vs:List Value} {f:Cnt},zk s cs=some (v,cs')→CR P w Φ σ ρ cs vs f →
  ∃ cv f1 f2,VR P w Φ σ ρ v cv f1∧σ s=cv∧hr v=false∧CR P w Φ σ ρ cs' vs f2∧(∀ b,f b=f1 b+f2 b)∧(hrs cs=false→hrs cs'=false)∧((∀ c∈cs,dB c=true∨hr c=false)→∀ c∈cs',dB c=true∨hr c=false)
 | [],cs',v,vs,f,ht,h=>by simp[zk] at ht
 | c::cs,cs',v,vs,f,ht,h=>by
  simp only[CR] at h
  obtain⟨cv,vs',f1,f2,rfl,h1,h2,hf⟩:=h
  simp only[zk] at ht
  split at ht
  ·rename_i hc
   simp only[Option.some.injEq,Prod.mk.injEq] at ht
   obtain⟨rfl,rfl⟩:=ht
   obtain⟨k1,k2⟩:=NL hs hc h1
   refine⟨cv,f1,_,h1,k1,k2,CR_cons (v:=cv) (c:=.gone) (f1:=fun _=>0) (by unfold VR;exact fun _=>rfl) h2,fun b=>by show f b=f1 b+(0+f2 b);rw[hf b];omega,?_,?_⟩
   ·intro hh;simp only[hrs,Bool.or_eq_false_iff] at hh ⊢;exact⟨rfl,hh.2⟩
   ·intro hh c hc
    rcases List.mem_cons.1 hc with rfl|hc
    ·exact .inr rfl
    ·exact hh c (by simp[hc])
  ·split at ht
   ·rename_i v' cs1 h3
    simp only[Option.some.injEq,Prod.mk.injEq] at ht
    obtain⟨rfl,rfl⟩:=ht
    obtain⟨cw,g1,g2,k1,k2,k3,k4,k5,k6,k7⟩:=rW hs h3 h2
    refine⟨cw,g1,_,k1,k2,k3,CR_cons h1 k4,fun b=>by show f b=g1 b+(f1 b+g2 b);rw[hf b,k5 b];omega,?_,?_⟩
    ·intro hh;simp only[hrs,Bool.or_eq_false_iff] at hh ⊢;exact⟨hh.1,k6 hh.2⟩
    ·intro hh c hc
     rcases List.mem_cons.1 hc with rfl|hc
     ·exact hh _ (by simp)
     ·exact k7 (fun c hc=>hh c (by simp[hc])) c hc
   ·cases ht
theorem Ot {s:Nat} (hs:s≠0) {c c' v:AV} {cv:Value} {f:Cnt} (ht:zl s c=some (v,c')) (h:VR P w Φ σ ρ c cv f) :
  ∃ cw f1 f2,VR P w Φ σ ρ v cw f1∧σ s=cw∧hr v=false∧VR P w Φ σ ρ c' cv f2∧(∀ b,f b=f1 b+f2 b):=by
 cases c with
 | bx t k cs =>
  simp only[zl] at ht
  split at ht
  ·rename_i v' cs1 h3
   simp only[Option.some.injEq,Prod.mk.injEq] at ht
   obtain⟨rfl,rfl⟩:=ht
   simp only[VR] at h
   obtain⟨hst,hx,b0,arr,f1,e,hg,hcr,hb⟩:=h
   obtain⟨cw,g1,g2,k1,k2,k3,k4,k5,k6,_⟩:=rW hs h3 hcr
   refine⟨cw,g1,fun b=>(if b=b0 then 1 else 0)+g2 b,k1,k2,k3,?_,fun b=>by show f b=g1 b+((if b=b0 then 1 else 0)+g2 b);rw[hb b,k5 b];omega⟩
   simp only[VR]
   exact⟨hst,k6 hx,b0,arr,g2,e,hg,k4,fun _=>rfl⟩
  ·cases ht
 | agg cs =>
  simp only[zl] at ht
  split at ht
  ·rename_i v' cs1 h3
   simp only[Option.some.injEq,Prod.mk.injEq] at ht
   obtain⟨rfl,rfl⟩:=ht
   simp only[VR] at h
   obtain⟨arr,e,hcr⟩:=h
   obtain⟨cw,g1,g2,k1,k2,k3,k4,k5,k6,_⟩:=rW hs h3 hcr
   refine⟨cw,g1,g2,k1,k2,k3,?_,k5⟩
   simp only[VR]
   exact⟨arr,e,k4⟩
  ·cases ht
 | fn g cs =>
  simp only[zl] at ht
  split at ht
  ·rename_i v' cs1 h3
   simp only[Option.some.injEq,Prod.mk.injEq] at ht
   obtain⟨rfl,rfl⟩:=ht
   simp only[VR] at h
   obtain⟨vs,e,hq,hcr⟩:=h
   obtain⟨cw,g1,g2,k1,k2,k3,k4,k5,k6,k7⟩:=rW hs h3 hcr
   refine⟨cw,g1,g2,k1,k2,k3,?_,k5⟩
   simp only[VR]
   exact⟨vs,e,k7 hq,k4⟩
  ·cases ht
 | _=>simp[zl] at ht
theorem DR {s:Nat} (hs:s≠0):∀ {e e':List AV} {v:AV} {vs:List Value} {f:Cnt},Gt s e=some (v,e')→CR P w Φ σ ρ e vs f →
  ∃ cv f1 f2,VR P w Φ σ ρ v cv f1∧σ s=cv∧hr v=false∧CR P w Φ σ ρ e' vs f2∧(∀ b,f b=f1 b+f2 b)
 | [],e',v,vs,f,ht,h=>by simp[Gt] at ht
 | c::cs,e',v,vs,f,ht,h=>by
  simp only[CR] at h
  obtain⟨cv,vs',f1,f2,rfl,h1,h2,hf⟩:=h
  simp only[Gt] at ht
  split at ht
  ·rename_i hc
   simp only[Option.some.injEq,Prod.mk.injEq] at ht
   obtain⟨rfl,rfl⟩:=ht
   obtain⟨k1,k2⟩:=NL hs hc h1
   exact⟨cv,f1,_,h1,k1,k2,CR_cons (v:=cv) (c:=.gone) (f1:=fun _=>0) (by unfold VR;exact fun _=>rfl) h2,fun b=>by show f b=f1 b+(0+f2 b);rw[hf b];omega⟩
  ·split at ht
   ·rename_i v' c' h3
    simp only[Option.some.injEq,Prod.mk.injEq] at ht
    obtain⟨rfl,rfl⟩:=ht
    obtain⟨cw,g1,g2,k1,k2,k3,k4,k5⟩:=Ot hs h3 h1
    exact⟨cw,g1,_,k1,k2,k3,CR_cons k4 h2,fun b=>by show f b=g1 b+(g2 b+f2 b);rw[hf b,k5 b];omega⟩
   ·split at ht
    ·rename_i v' cs1 h3
     simp only[Option.some.injEq,Prod.mk.injEq] at ht
     obtain⟨rfl,rfl⟩:=ht
     obtain⟨cw,g1,g2,k1,k2,k3,k4,k5⟩:=DR hs h3 h2
     exact⟨cw,g1,_,k1,k2,k3,CR_cons h1 k4,fun b=>by show f b=g1 b+(f1 b+g2 b);rw[hf b,k5 b];omega⟩
    ·cases ht
theorem Ed:∀ {ss:List Nat} {e:List AV} {os:List AV} {vs:List Value} {f:Cnt},(∀ s∈ss,s≠0)→zM e ss=some os→CR P w Φ σ ρ e vs f →
  ∃ f1 f2 e',CR P w Φ σ ρ os (ss.map σ) f1∧hrs os=false∧CR P w Φ σ ρ e' vs f2∧os.length=ss.length∧(∀ b,f b=f1 b+f2 b)
 | [],e,os,vs,f,hs,ho,h=>by
  simp[zM] at ho;subst ho
  exact⟨fun _=>0,f,e,CR_nil,rfl,h,rfl,fun b=>by simp⟩
 | s::ss,e,os,vs,f,hs,ho,h=>by
  simp only[zM] at ho
  split at ho
  ·rename_i v e1 h1
   split at ho
   ·rename_i os1 h2
    simp only[Option.some.injEq] at ho
    subst ho
    obtain⟨cv,g1,g2,k1,k2,k3,k4,k5⟩:=DR (hs s (by simp)) h1 h
    obtain⟨m1,m2,e2,n1,n2,n3,n4,n5⟩:=Ed (fun s hs'=>hs s (by simp[hs'])) h2 k4
    refine⟨fun b=>g1 b+m1 b,m2,e2,?_,by simp[hrs,k3,n2],n3,by simp[n4],fun b=>?_⟩
    ·simp only[List.map_cons,k2];exact CR_cons k1 n1
    ·show f b=g1 b+m1 b+m2 b;rw[k5 b,n5 b];omega
   ·cases ho
  ·cases ho
theorem I7:∀ {vs:List AV} {cvs:List Value} {f:Cnt},CR P w Φ σ ρ vs cvs f→(∀ v∈vs,mO v=true)→cvs.map shp=vs.map shA∧CR P w Φ σ ρ (vs.flatMap cellsOf) (kY cvs) f
 | [],cvs,f,h,_=>by
  simp only[CR] at h
  obtain⟨rfl,hf⟩:=h
  exact⟨rfl,by simp only[List.flatMap_nil,CR];exact⟨rfl,hf⟩⟩
 | v::vs,cvs,f,h,hv=>by
  simp only[CR] at h
  obtain⟨cv,cvs',f1,f2,rfl,h1,h2,hf⟩:=h
  obtain⟨a1,a2⟩:=RV (hv v (by simp)) h1
  obtain⟨b1,b2⟩:=I7 h2 (fun u hu=>hv u (by simp[hu]))
  refine⟨by simp[a1,b1],?_⟩
  have:=gm a2 b2
  rw[show f=fun b=>f1 b+f2 b from funext hf]
  simpa [kY] using this
theorem IW:∀ {vs:List AV},hrs vs=false→hrs (vs.flatMap cellsOf)=false
 | [],_=>rfl
 | v::vs,h=>by
  simp only[hrs,Bool.or_eq_false_iff] at h
  rw[List.flatMap_cons,eU,IW h.2]
  have:hrs (cellsOf v)=false:=by
   cases v<;>simp only[cellsOf,hrs,Bool.or_false]<;>first|exact h.1|(simpa only[hr] using h.1)
  simp[this]
theorem XE {vs:List AV} {cvs:List Value} {f:Cnt} (h:CR P w Φ σ ρ vs cvs f) (hr0:hrs vs=false) (hv:∀ v∈vs,mO v=true) :
  VR P w Φ σ ρ (qQ vs) (if h:cvs.toArray.size=1 then cvs.toArray[0] else .tuple cvs.toArray) f∧hr (qQ vs)=false:=by
 have hl:=aV h
 match vs,cvs,hl with
 | [v],[cv],_ =>
  simp only[CR] at h
  obtain⟨cv',_,f1,f2,he,h1,⟨_,h2⟩,hf⟩:=h
  simp at he
  obtain⟨rfl,rfl⟩:=he
  have:f=f1:=funext fun b=>by have:=hf b;have:=h2 b;omega
  subst this
  exact⟨by simpa [qQ] using h1,by simpa [qQ,hrs] using hr0⟩
 | [],[],_ =>
  simp only[CR] at h
  refine⟨?_,rfl⟩
  simp only[qQ,List.size_toArray,List.length_nil,VR]
  exact⟨#[],by simp,rfl,by simp[CR,kY];exact h.2⟩
 | v1::v2::vs,c1::c2::cvs,_ =>
  obtain⟨a1,a2⟩:=I7 h hv
  refine⟨?_,?_⟩
  ·rw[dif_neg (by simp)]
   show VR P w Φ σ ρ (.tup _ _) _ f
   simp only[VR]
   exact⟨_,rfl,by simpa using a1,by simpa using a2⟩
  ·simpa [qQ,hr] using IW hr0
theorem E8 {ss:List Nat} {os:List AV} {g:Nat} {fn:Func} {V:List Nat} {sc:ah} {rs:List aG} {args:List AV} {res:AV} (hf:P.funcs[g]?=some fn) (hok:aJ P fn V sc rs args.length=true)
  (h:∃ ex e,lD P V.length sc (args++gq (V.length-args.length)) ex e∧(ex=.normal∨ex=.ret)∧∃ vs e2,tq e rs=some (vs,e2)∧qQ vs=res∧zM e2 ss=some os) (hss:∀ s∈ss,s≠0):Says P g args res (ss.zip os):=by
 intro w Φ σ cargs fa hrel hhr hinv
 simp only[aJ,Bool.and_eq_true,decide_eq_true_eq,beq_iff_eq] at hok
 obtain⟨⟨⟨⟨⟨hc,hnd⟩,htake⟩,hkV⟩,hkn⟩,hres⟩:=hok
 cases hb:fn.body with
 | none=>simp[hb] at hc
 | some c =>
  simp only[hb] at hc
  obtain⟨ex,e,hruns,hex,vs,e2,hvs,rfl,hos⟩:=h
  have hlen:cargs.size=args.length:=by rw[←Array.length_toList,←aV hrel]
  have hV:V.Nodup:=nN hnd
  have hst:St P ⟨w,Φ,fa,σ⟩ V fn.ntmps (args++gq (V.length-args.length)) (cargs.toList++List.replicate (V.length-args.length) unk) (cargs++Array.replicate (fn.ntmps-cargs.size) undef) w Φ fa:=by
   refine⟨?_,fun j cv hj=>?_,hinv,Ext.refl _ _,fun _ h=>h,fun b h=>.inl h,fun b h=>.inl h,by simp;omega⟩
   ·have h1:=fJ w Φ (cargs.toList++List.replicate (V.length-args.length) unk) (fun _ _=>rfl) (fun _ h=>h) _ _ _ hhr (fun _ _=>rfl) hrel
    have:=gm h1 (CB (P:=P) (w:=w) (Φ:=Φ) (σ:=σ) (ρ:=cargs.toList++List.replicate (V.length-args.length) unk) (V.length-args.length))
    simpa using this
   ·by_cases hjl:j<args.length
    ·right
     refine⟨j,?_,?_⟩
     ·have:(V.take args.length)[j]?=some j:=by rw[htake];simp[hjl]
      rw[List.getElem?_take,if_pos hjl] at this
      exact this
     ·rw[List.getElem?_append_left (by simp;omega)] at hj
      rw[Array.getD_eq_getD_getElem?,Array.getElem?_append_left (by omega)]
      simp at hj
      simp[hj]
    ·left
     rw[List.getElem?_append_right (by simp;omega),List.getElem?_replicate] at hj
     split at hj
     ·simp at hj;exact hj.symm
     ·cases hj
  refine calls_of_wp hf hb (wp_mono ((LH (C:=⟨w,Φ,fa,σ⟩) rfl hruns (by simp[gq];omega)).wp c hc _ _ _ _ _ hst) ?_)
  rintro ex' a w' ⟨rfl,ρ',tmps',Φ',f',rfl,hst'⟩
  obtain⟨cvs,f1,f2,k1,k2,k3,k4,k6,k5⟩:=Iu hres hst'.rel hst'.lk hvs
  obtain⟨m1,m2,e3,n1,n2,n3,n4,n5⟩:=Ed hss hos k6
  have z1:(ss.zip os).map (·.2)=os:=List.map_snd_zip (by omega)
  have z2:(ss.zip os).map (fun p=>σ p.1)=ss.map σ:=by
   have:(ss.zip os).map (fun p=>σ p.1)=((ss.zip os).map (·.1)).map σ:=by simp
   rw[this,List.map_fst_zip (by omega)]
  have hrun:(results fn tmps').run P w'=.ok (if h:cvs.toArray.size=1 then cvs.toArray[0] else .tuple cvs.toArray) w':=by
   have e1:results fn tmps'=(do let vs ←fn.results.mapM (res1 tmps');pure (if h:vs.size=1 then vs[0] else .tuple vs)):=rfl
   rw[e1,Sem.run_bind]
   have e2:fn.results.mapM (res1 tmps')=List.toArray <$> fn.results.toList.mapM (res1 tmps'):=by
    rw[Array.mapM_eq_mapM_toList]
   rw[e2,Sem.run_map,k1]
   rfl
  obtain⟨t1,t2⟩:=XE k2 k3 k4
  have fin:∃ v,(results fn tmps').run P w'=.ok v w'∧∃ (cv:Value) (Φ':Nat→Prop) (f1 f2:Cnt),Ending.returned v=.returned cv∧Ext w w' fa∧(∀ b,Φ b→Φ' b)∧(∀ b,Φ' b→Φ b∨1≤fa b∨w.heap.size≤b) ∧
    VR P w' Φ' σ [] (qQ vs) cv f1∧hr (qQ vs)=false∧CR P w' Φ' σ [] ((ss.zip os).map (·.2)) ((ss.zip os).map fun p=>σ p.1) f2∧hrs ((ss.zip os).map (·.2))=false ∧
    Inv P w' Φ' (fun b=>f1 b+f2 b)∧(∀ b,1≤f1 b+f2 b→1≤fa b∨w.heap.size≤b):=by
   refine⟨_,hrun,_,Φ',f1,m1,rfl,hst'.ext,hst'.sub,hst'.new,vM w' Φ' [] (fun _ _=>rfl) (fun _ h=>h) _ _ _ t2 (fun _ _=>rfl) t1,t2,?_,by rw[z1];exact n2,hst'.inv.le (fun b=>by show f1 b+m1 b≤_;have:=k5 b;have:=n5 b;omega),fun b hb=>hst'.own b (by have:=k5 b;have:=n5 b;omega)⟩
   rw[z1,z2]
   exact fJ w' Φ' [] (fun _ _=>rfl) (fun _ h=>h) _ _ _ n2 (fun _ _=>rfl) n1
  rcases hex with rfl|rfl
  ·exact⟨rfl,fin⟩
  ·exact⟨rfl,fin⟩
theorem Nq:∀ {rs:List aG} {e:Env} {vs:List AV},Iw e rs=some vs→∃ e2,tq e rs=some (vs,e2)
 | [],e,vs,h=>by simp[Iw] at h;subst h;exact⟨e,rfl⟩
 | r::rs,e,vs,h=>by
  simp only[Iw] at h
  split at h
  ·rename_i v e' h1
   split at h
   ·rename_i vs' h2
    simp at h;subst h
    obtain⟨e2,h3⟩:=Nq h2
    exact⟨e2,by simp only[tq,h1,h3]⟩
   ·cases h
  ·cases h
theorem Jt {g:Nat} {fn:Func} {V:List Nat} {sc:ah} {rs:List aG} {args:List AV} {res:AV} (hf:P.funcs[g]?=some fn) (hok:aJ P fn V sc rs args.length=true)
  (h:∃ ex e,lD P V.length sc (args++gq (V.length-args.length)) ex e∧(ex=.normal∨ex=.ret)∧∃ vs,Iw e rs=some vs∧qQ vs=res):Says P g args res []:=by
 obtain⟨ex,e,h1,h2,vs,h3,h4⟩:=h
 obtain⟨e2,h5⟩:=Nq h3
 exact E8 (ss:=[]) (os:=[]) hf hok ⟨ex,e,h1,h2,vs,e2,h5,h4,rfl⟩ (by simp)
end
end Go.AM
namespace Go.AM
open Go
def W (P:Program) (m:Nat) (sc:ah) (e:Env) (Q:Exit→Env→Prop):Prop:=∃ ex e2,lD P m sc e ex e2∧Q ex e2
section
variable {P : Program} {m : Nat} {Q : Exit → Env → Prop} {e : Env}
theorem Xb {k:Nat} {so:bM} {e:Env} {Q:Env→Prop} (h:OpW P m k so e Q):∃ e2,OpW P m k so e (fun e1=>e1=e2)∧Q e2:=by
 unfold OpW at h
 split at h
 ·rename_i s hk
  split at h
  ·rename_i v e' hx
   split at h
   ·rename_i e2 hp
    exact⟨e2,by unfold OpW;rw[hk];simp only[hx,hp],h⟩
   ·cases h
  ·cases h
 ·rename_i g args fr hk
  split at h
  ·rename_i avs live hp
   obtain⟨res,h1,h2,h⟩:=h
   split at h
   ·rename_i v hv
    split at h
    ·rename_i e2 hp2
     exact⟨e2,by unfold OpW;rw[hk];simp only[hp];exact⟨res,h1,h2,by rw[hv];simp only[hp2]⟩,h⟩
    ·cases h
   ·cases h
  ·cases h
 ·rename_i x args hk
  split at h
  ·rename_i g caps avs live hc hp
   obtain⟨hpl,res,h1,h2,h⟩:=h
   split at h
   ·rename_i e2 hp2
    exact⟨e2,by unfold OpW;rw[hk];simp only[hc,hp];exact⟨hpl,res,h1,h2,by simp only[hp2]⟩,h⟩
   ·cases h
  ·cases h
 ·rename_i x args hk
  split at h
  ·rename_i e1 b1 vs h1
   split at h
   ·rename_i g caps e2 b2 h2
    split at h
    ·rename_i avs live h3
     obtain⟨q1,q2,res,outs,q3,q4,h⟩:=h
     split at h
     ·rename_i e3 h4
      split at h
      ·rename_i e4 h5
       exact⟨e4,by unfold OpW;rw[hk];simp only[h1,h2,h3];exact⟨q1,q2,res,outs,q3,q4,by simp only[h4,h5]⟩,h⟩
      ·cases h
     ·cases h
    ·cases h
   ·cases h
  ·cases h
theorem Bd {k:Nat} {so:bM} {e:Env} {Q Q':Env→Prop} (hQ:∀ e,Q e→Q' e) (h:OpW P m k so e Q):OpW P m k so e Q':=by
 unfold OpW at h ⊢
 split at h
 ·split at h
  ·split at h
   ·exact hQ _ h
   ·cases h
  ·cases h
 ·split at h
  ·obtain⟨res,h1,h2,h⟩:=h
   refine⟨res,h1,h2,?_⟩
   split at h
   ·split at h
    ·exact hQ _ h
    ·cases h
   ·cases h
  ·cases h
 ·split at h
  ·obtain⟨hpl,res,h1,h2,h⟩:=h
   refine⟨hpl,res,h1,h2,?_⟩
   split at h
   ·exact hQ _ h
   ·cases h
  ·cases h
 ·split at h
  ·split at h
   ·split at h
    ·obtain⟨q1,q2,res,outs,q3,q4,h⟩:=h
     refine⟨q1,q2,res,outs,q3,q4,?_⟩
     split at h
     ·split at h
      ·exact hQ _ h
      ·cases h
     ·cases h
    ·cases h
   ·cases h
  ·cases h
theorem uw:∀ {sos:List bM} {k:Nat} {e:Env} {Q:Env→Prop},jC P m k sos e Q→∃ e2,jC P m k sos e (fun e1=>e1=e2)∧Q e2
 | [],k,e,Q,h=>⟨e,by simp only[jC],by simpa only[jC] using h⟩
 | so::sos,k,e,Q,h=>by
  simp only[jC] at h
  split at h
  ·rename_i hg
   obtain⟨e1,h1,h2⟩:=Xb h
   obtain⟨e2,h3,h4⟩:=uw h2
   exact⟨e2,by simp only[jC,hg];exact Bd (fun e he=>by rw[he];exact h3) h1,h4⟩
  ·rename_i s b hg
   split at h
   ·rename_i hb
    obtain⟨e1,h1,h2⟩:=Xb h
    obtain⟨e2,h3,h4⟩:=uw h2
    exact⟨e2,by simp only[jC,hg,hb];exact Bd (fun e he=>by rw[he];exact h3) h1,h4⟩
   ·rename_i hb
    obtain⟨e2,h3,h4⟩:=uw h
    exact⟨e2,by simp only[jC,hg,hb];exact h3,h4⟩
   ·cases h
theorem gB:∀ {sos:List bM} {info:List (List Bool × Option (List Nat))} {acc:List AV} {Q Q':List AV→Prop},(∀ vs,Q vs→Q' vs)→df P e sos info acc Q→df P e sos info acc Q'
 | [],info,acc,Q,Q',hQ,h=>by simp only[df] at h ⊢;exact hQ _ h
 | so::sos,[],acc,Q,Q',hQ,h=>by simp only[df] at h
 | so::sos,(bs,some j)::info,acc,Q,Q',hQ,h=>by
  simp only[df] at h ⊢
  obtain⟨hd,h⟩:=h
  refine⟨hd,?_⟩
  split at h
  ·exact ou (fun u hu=>gB (fun vs hv=>⟨hv.1,hQ _ hv.2⟩) hu) h
  ·split at h
   ·exact ou (fun u hu=>gB (fun vs hv=>⟨hv.1,hQ _ hv.2⟩) hu) h
   ·exact gB hQ h
   ·cases h
 | so::sos,(bs,none)::info,acc,Q,Q',hQ,h=>by
  simp only[df] at h ⊢
  obtain⟨hd,h⟩:=h
  refine⟨hd,?_⟩
  split at h
  ·exact oq (fun u hu=>gB hQ hu) h
  ·split at h
   ·exact oq (fun u hu=>gB hQ hu) h
   ·exact gB hQ h
   ·cases h
theorem lF:∀ {sos:List bM} {info:List (List Bool × Option (List Nat))} {acc:List AV} {Q:List AV→Prop},df P e sos info acc Q→∃ vs,df P e sos info acc (fun us=>us=vs)∧Q vs
 | [],info,acc,Q,h=>⟨acc,by simp only[df],by simpa only[df] using h⟩
 | so::sos,[],acc,Q,h=>by simp only[df] at h
 | so::sos,(bs,some j)::info,acc,Q,h=>by
  simp only[df] at h
  obtain⟨hd,h⟩:=h
  split at h
  ·rename_i hg
   obtain⟨v,h1,h2⟩:=GY h
   obtain⟨vs,h3,h4⟩:=lF h2
   exact⟨vs,by simp only[df,hg];exact⟨hd,ou (fun u hu=>by rw[hu];exact gB (fun us hus=>by subst hus;exact⟨h4.1,rfl⟩) h3) h1⟩,h4.2⟩
  ·rename_i s b hg
   split at h
   ·rename_i hb
    obtain⟨v,h1,h2⟩:=GY h
    obtain⟨vs,h3,h4⟩:=lF h2
    exact⟨vs,by simp only[df,hg,hb];exact⟨hd,ou (fun u hu=>by rw[hu];exact gB (fun us hus=>by subst hus;exact⟨h4.1,rfl⟩) h3) h1⟩,h4.2⟩
   ·rename_i hb
    obtain⟨vs,h3,h4⟩:=lF h
    exact⟨vs,by simp only[df,hg,hb];exact⟨hd,h3⟩,h4⟩
   ·cases h
 | so::sos,(bs,none)::info,acc,Q,h=>by
  simp only[df] at h
  obtain⟨hd,h⟩:=h
  split at h
  ·rename_i hg
   obtain⟨v,h1,h2⟩:=GX h
   obtain⟨vs,h3,h4⟩:=lF h2
   exact⟨vs,by simp only[df,hg];exact⟨hd,oq (fun u hu=>by rw[hu];exact h3) h1⟩,h4⟩
  ·rename_i s b hg
   split at h
   ·rename_i hb
    obtain⟨v,h1,h2⟩:=GX h
    obtain⟨vs,h3,h4⟩:=lF h2
    exact⟨vs,by simp only[df,hg,hb];exact⟨hd,oq (fun u hu=>by rw[hu];exact h3) h1⟩,h4⟩
   ·rename_i hb
    obtain⟨vs,h3,h4⟩:=lF h
    exact⟨vs,by simp only[df,hg,hb];exact⟨hd,h3⟩,h4⟩
   ·cases h
def wpS (P:Program) (m:Nat):ah→Env→(Exit→Env→Prop)→Prop
 | .skip,e,Q=>Q .normal e
 | .reg _ ops,e,Q=>jC P m 0 ops (e++gq ops.length) fun e2=>endOk m e2=true∧Q .normal (e2.take m)
 | .bad,_,_=>False
 | .dreg _ ops _ t _ info fin,e,Q=>df P e (ops.take t) info [] fun vs=>jC P m t (ops.drop t) (e++dR fin vs++gq (ops.length-t)) fun e2=>endOk m e2=true∧Q .normal (e2.take m)
 | .dregm j k _ ops _ t _ info fin,e,Q=>e.any dS=false∧df P (e.set j .dead) (ops.take t) info [] fun vs=>jC P m t (ops.drop t) (e.set j .dead++dR fin vs++gq (ops.length-t)) fun e2=>endOk m e2=true∧match yP m j k e2 with
  | some e3=>Q .normal e3
  | none=>False
 | .seq a b,e,Q=>wpS P m a e fun ex e1=>match ex with
  | .normal=>wpS P m b e1 Q
  | ex=>Q ex e1
 | .cond x a b,e,Q=>match ev e x with
  | some (.bool t)=>(t=true→wpS P m a (yT x e) Q)∧(t=false→wpS P m b (yT x e) Q)
  | _=>False
 | .condk x a b,e,Q=>match ev e x with
  | some (.bool t)=>(t=true→wpS P m a e Q)∧(t=false→wpS P m b e Q)
  | _=>False
 | .frz j b,e,Q=>match (e[j]?).bind lJ with
  | some v'=>wpS P m b (e.set j v') Q
  | none=>False
 | .block id b,e,Q=>wpS P m b e fun ex e1=>Q (outOf id ex) e1
 | .loop b,e,Q=>W P m (.loop b) e Q
 | .exit id,e,Q=>Q (.exit id) e
 | .ret,e,Q=>Q .ret e
theorem gz:∀ {sc:ah} {e:Env} {Q:Exit→Env→Prop},wpS P m sc e Q→W P m sc e Q
 | .frz j b,e,Q,h=>by
  simp only[wpS] at h
  cases he:e[j]? with
  | none=>rw[he] at h;exact h.elim
  | some v =>
   rw[he] at h
   simp only[Option.bind_some] at h
   cases hf:lJ v with
   | none=>rw[hf] at h;exact h.elim
   | some v' =>
    rw[hf] at h
    obtain⟨ex,e2,h1,h2⟩:=gz h
    exact⟨_,_,.frz he hf h1,h2⟩
 | .skip,e,Q,h=>⟨_,_,.skip,h⟩
 | .reg D ops,e,Q,h=>by
  obtain⟨e2,h1,h2,h3⟩:=uw h
  exact⟨_,_,.reg h1 h2,h3⟩
 | .bad,e,Q,h=>h.elim
 | .dreg D ops sees t cons info fin,e,Q,h=>by
  obtain⟨vs,h1,h2⟩:=lF h
  obtain⟨e2,h3,h4,h5⟩:=uw h2
  exact⟨_,_,.dreg (gB (fun us hu=>by subst hu;exact h3) h1) h4,h5⟩
 | .dregm j k D ops sees t cons info fin,e,Q,h=>by
  obtain⟨h0,h⟩:=h
  obtain⟨vs,h1,h2⟩:=lF h
  obtain⟨e2,h3,h4,h5⟩:=uw h2
  cases hm:yP m j k e2 with
  | none=>rw[hm] at h5;exact h5.elim
  | some e3 =>
   rw[hm] at h5
   exact⟨_,_,.dregm h0 (gB (fun us hu=>by subst hu;exact h3) h1) h4 hm,h5⟩
 | .seq a b,e,Q,h=>by
  obtain⟨ex,e1,h1,h2⟩:=gz (sc:=a) (by simpa only[wpS] using h)
  cases ex with
  | normal =>
   obtain⟨ex2,e2,h3,h4⟩:=gz (sc:=b) h2
   exact⟨_,_,.seq h1 h3,h4⟩
  | _=>exact⟨_,_,.seqOut h1 (by simp),h2⟩
 | .cond x a b,e,Q,h=>by
  simp only[wpS] at h
  split at h
  ·rename_i t hx
   cases t
   ·obtain⟨ex,e1,h1,h2⟩:=gz (sc:=b) (h.2 rfl)
    exact⟨_,_,.cond (t:=false) hx h1,h2⟩
   ·obtain⟨ex,e1,h1,h2⟩:=gz (sc:=a) (h.1 rfl)
    exact⟨_,_,.cond (t:=true) hx h1,h2⟩
  ·cases h
 | .condk x a b,e,Q,h=>by
  simp only[wpS] at h
  split at h
  ·rename_i t hx
   cases t
   ·obtain⟨ex,e1,h1,h2⟩:=gz (sc:=b) (h.2 rfl)
    exact⟨_,_,.condk (t:=false) hx h1,h2⟩
   ·obtain⟨ex,e1,h1,h2⟩:=gz (sc:=a) (h.1 rfl)
    exact⟨_,_,.condk (t:=true) hx h1,h2⟩
  ·cases h
 | .block id b,e,Q,h=>by
  obtain⟨ex,e1,h1,h2⟩:=gz (sc:=b) (by simpa only[wpS] using h)
  exact⟨_,_,.block h1,h2⟩
 | .loop b,e,Q,h=>h
 | .exit id,e,Q,h=>⟨_,_,.exit,h⟩
 | .ret,e,Q,h=>⟨_,_,.ret,h⟩
theorem y7 {b:ah} {e:Env} {Q:Exit→Env→Prop} (h:wpS P m b e fun ex e1=>match ex with
  | .normal=>W P m (.loop b) e1 Q
  | ex=>Q ex e1):W P m (.loop b) e Q:=by
 obtain⟨ex,e1,h1,h2⟩:=gz h
 cases ex with
 | normal =>
  obtain⟨ex2,e2,h3,h4⟩:=h2
  exact⟨_,_,.loop h1 h3,h4⟩
 | _=>exact⟨_,_,.loopOut h1 (by simp),h2⟩
theorem o9:∀ {sos:List bM} {k:Nat} {e:Env} {Q Q':Env→Prop},(∀ e,Q e→Q' e)→jC P m k sos e Q→jC P m k sos e Q'
 | [],k,e,Q,Q',hQ,h=>by simp only[jC] at h ⊢;exact hQ _ h
 | so::sos,k,e,Q,Q',hQ,h=>by
  simp only[jC] at h ⊢
  split at h
  ·exact Bd (fun e he=>o9 hQ he) h
  ·split at h
   ·exact Bd (fun e he=>o9 hQ he) h
   ·exact o9 hQ h
   ·cases h
theorem aB2 {sc:ah} {e:Env} {Q Q':Exit→Env→Prop} (hQ:∀ ex e,Q ex e→Q' ex e) (h:W P m sc e Q):W P m sc e Q':=by
 obtain⟨ex,e2,h1,h2⟩:=h
 exact⟨ex,e2,h1,hQ _ _ h2⟩
theorem jh:∀ {sc:ah} {e:Env} {Q Q':Exit→Env→Prop},(∀ ex e,Q ex e→Q' ex e)→wpS P m sc e Q→wpS P m sc e Q'
 | .skip,e,Q,Q',hQ,h=>hQ _ _ h
 | .reg D ops,e,Q,Q',hQ,h=>o9 (fun e h=>⟨h.1,hQ _ _ h.2⟩) h
 | .bad,e,Q,Q',hQ,h=>h.elim
 | .dreg D ops sees t cons info fin,e,Q,Q',hQ,h=>gB (fun vs h=>o9 (fun e h=>⟨h.1,hQ _ _ h.2⟩) h) h
 | .dregm j k D ops sees t cons info fin,e,Q,Q',hQ,h=>⟨h.1,gB (fun vs h=>o9 (fun e h=>⟨h.1,by have:=h.2;revert this;cases yP m j k e with|none=>exact id|some e3=>exact hQ _ _⟩) h) h.2⟩
 | .seq a b,e,Q,Q',hQ,h=>by
  simp only[wpS] at h ⊢
  refine jh (sc:=a) (fun ex e h=>?_) h
  cases ex with
  | normal=>exact jh (sc:=b) hQ h
  | _=>exact hQ _ _ h
 | .cond x a b,e,Q,Q',hQ,h=>by
  simp only[wpS] at h ⊢
  split at h
  ·exact⟨fun t=>jh (sc:=a) hQ (h.1 t),fun t=>jh (sc:=b) hQ (h.2 t)⟩
  ·cases h
 | .frz j b,e,Q,Q',hQ,h=>by
  simp only[wpS] at h ⊢
  cases hf:(e[j]?).bind lJ with
  | none=>rw[hf] at h;exact h.elim
  | some v'=>rw[hf] at h;exact jh (sc:=b) hQ h
 | .condk x a b,e,Q,Q',hQ,h=>by
  simp only[wpS] at h ⊢
  split at h
  ·exact⟨fun t=>jh (sc:=a) hQ (h.1 t),fun t=>jh (sc:=b) hQ (h.2 t)⟩
  ·cases h
 | .block id b,e,Q,Q',hQ,h=>by
  simp only[wpS] at h ⊢
  exact jh (sc:=b) (fun ex e h=>hQ _ _ h) h
 | .loop b,e,Q,Q',hQ,h=>aB2 hQ h
 | .exit id,e,Q,Q',hQ,h=>hQ _ _ h
 | .ret,e,Q,Q',hQ,h=>hQ _ _ h
theorem aPr {l b:ah} {e:Env} {Q:Exit→Env→Prop} (hl:l=.loop b) (h:wpS P m b e fun ex e1=>match ex with
  | .normal=>W P m l e1 Q
  | ex=>Q ex e1):W P m l e Q:=by
 subst hl;exact y7 h
theorem aDA {l b:ah} {e:Env} {Q:Exit→Env→Prop} (hl:l=.loop b):wpS P m l e Q=W P m l e Q:=by
 subst hl;rfl
theorem agA {sc:ah} {e:Env} {Q Q':Exit→Env→Prop} (hQ:∀ ex e,Q ex e→Q' ex e) (h:W P m sc e Q):W P m sc e Q':=by
 obtain⟨ex,e2,h1,h2⟩:=h
 exact⟨ex,e2,h1,hQ _ _ h2⟩
def Qe (rs:List aG) (res:AV) (ex:Exit) (e:Env):Prop:=(ex=.normal∨ex=.ret)∧(Iw e rs).map qQ=some res
theorem Si {g:Nat} {fn:Func} {V:List Nat} {sc:ah} {rs:List aG} {args:List AV} {res:AV} (hf:P.funcs[g]?=some fn) (hok:aJ P fn V sc rs args.length=true)
  (h:wpS P V.length sc (args++gq (V.length-args.length)) (Qe rs res)):Says P g args res []:=by
 obtain⟨ex,e2,h1,h2,h3⟩:=gz h
 rw[Option.map_eq_some_iff] at h3
 exact Jt hf hok ⟨ex,e2,h1,h2,h3⟩
theorem aTY {g:Nat} {fn:Func} {V:List Nat} {sc:ah} {rs:List aG} {args:List AV} {R:AV→Prop} (hf:P.funcs[g]?=some fn) (hok:aJ P fn V sc rs args.length=true)
  (h:wpS P V.length sc (args++gq (V.length-args.length)) fun ex e=>∃ res,R res∧Qe rs res ex e):∃ res,R res∧Says P g args res []:=by
 obtain⟨ex,e2,h1,res,hR,h2,h3⟩:=gz h
 rw[Option.map_eq_some_iff] at h3
 exact⟨res,hR,Jt hf hok ⟨ex,e2,h1,h2,h3⟩⟩
def qB (e:Env) (rs:List aG) (ss:List Nat):Option (AV × List AV):=match tq e rs with
 | some (vs,e2)=>match zM e2 ss with
  | some os=>some (qQ vs,os)
  | none=>none
 | none=>none
def Xm (rs:List aG) (ss:List Nat) (res:AV) (os:List AV) (ex:Exit) (e:Env):Prop:=(ex=.normal∨ex=.ret)∧qB e rs ss=some (res,os)
theorem P5 {g:Nat} {fn:Func} {V:List Nat} {sc:ah} {rs:List aG} {args:List AV} {res:AV} (ss:List Nat) (os:List AV) (hf:P.funcs[g]?=some fn) (hok:aJ P fn V sc rs args.length=true) (hss:∀ s∈ss,s≠0)
  (h:wpS P V.length sc (args++gq (V.length-args.length)) (Xm rs ss res os)):Says P g args res (ss.zip os):=by
 obtain⟨ex,e2,h1,h2,h3⟩:=gz h
 unfold qB at h3
 split at h3
 ·rename_i vs e3 h4
  split at h3
  ·rename_i os' h5
   simp only[Option.some.injEq,Prod.mk.injEq] at h3
   obtain⟨rfl,rfl⟩:=h3
   exact E8 hf hok ⟨ex,e2,h1,h2,vs,e3,h4,rfl,h5⟩ hss
  ·cases h3
 ·cases h3
theorem aDN {sc:ah} {Q:Exit→Env→Prop} {e:Env} (j:Nat) {v v':AV} (he:e[j]?=some v) (hf:lJ v=some v') (h:W P m sc (e.set j v') Q):W P m sc e Q:=by
 obtain⟨ex,e2,h1,h2⟩:=h
 exact⟨ex,e2,.freeze j v v' he hf h1,h2⟩
theorem Ci {sc:ah} {Q:Exit→Env→Prop}:∀ {js:List Nat} {e:Env},W P m sc (js.foldl (fun e j=>e.set j .dead) e) Q→W P m sc e Q
 | [],e,h=>h
 | j::js,e,h=>by
  obtain⟨ex,e2,h1,h2⟩:=Ci (js:=js) (e:=e.set j .dead) h
  exact⟨ex,e2,.forget j h1,h2⟩
theorem RS {l b:ah} {Q:Exit→Env→Prop} (hl:l=.loop b) (js:List Nat) (E:Nat→Env) (I:Nat→Prop) (n:Nat) (hstep:∀ i,i<n→I i→wpS P m b (E i) fun ex e=>match ex with
   | .normal=>js.foldl (fun e j=>e.set j .dead) e=E (i+1)∧I (i+1)
   | ex=>Q ex e) (hlast:I n→wpS P m b (E n) fun ex e=>match ex with
   | .normal=>False
   | ex=>Q ex e):∀ i,i≤n→I i→W P m l (E i) Q:=by
 intro i hi hI
 induction h:n-i generalizing i with
 | zero =>
  obtain rfl:i=n:=by omega
  subst hl
  exact y7 (jh (fun ex e h=>by cases ex<;>first|exact h.elim|exact h) (hlast hI))
 | succ k ih =>
  subst hl
  refine y7 (jh (fun ex e h=>?_) (hstep i (by omega) hI))
  cases ex with
  | normal=>simp only at h ⊢;refine Ci (js:=js) ?_;rw[h.1];exact ih (i+1) (by omega) h.2 (by omega)
  | _=>exact h
theorem aPq {l b:ah} {Q:Exit→Env→Prop} (hl:l=.loop b) (E:Nat→Env) (I:Nat→Prop) (n:Nat) (hstep:∀ i,i<n→I i→wpS P m b (E i) fun ex e=>match ex with
   | .normal=>e=E (i+1)∧I (i+1)
   | ex=>Q ex e) (hlast:I n→wpS P m b (E n) fun ex e=>match ex with
   | .normal=>False
   | ex=>Q ex e):∀ i,i≤n→I i→W P m l (E i) Q:=by
 intro i hi hI
 induction h:n-i generalizing i with
 | zero =>
  obtain rfl:i=n:=by omega
  subst hl
  exact y7 (jh (fun ex e h=>by cases ex<;>first|exact h.elim|exact h) (hlast hI))
 | succ k ih =>
  subst hl
  refine y7 (jh (fun ex e h=>?_) (hstep i (by omega) hI))
  cases ex with
  | normal=>simp only at h ⊢;rw[h.1];exact ih (i+1) (by omega) h.2 (by omega)
  | _=>exact h
end
end Go.AM
namespace Go.AM
open Go
inductive D where
 | I (k:IntKind) (n:Int)
 | B (b:Bool)
 | S (s:List UInt8)
 | L (e n:Nat) (cs:List D)
instance:Inhabited D:=⟨.B false⟩
mutual
def C:D→AV
 | .I k n=>.int k n
 | .B b=>.bool b
 | .S s=>.str s
 | .L _ n cs=>.rsl n (Cs cs)
def Cs:List D→List AV
 | []=>[]
 | d::ds=>C d::Cs ds
end
mutual
def Ow:D→AV
 | .I k n=>.int k n
 | .B b=>.bool b
 | .S s=>.str s
 | .L e n cs=>.osl 0 e n (Ows cs)
def Ows:List D→List AV
 | []=>[]
 | d::ds=>Ow d::Ows ds
end
@[simp] theorem C_I {k:IntKind} {n:Int}:C (.I k n)=.int k n:=by simp only[C]
@[simp] theorem C_B {b:Bool}:C (.B b)=.bool b:=by simp only[C]
@[simp] theorem C_S {s:List UInt8}:C (.S s)=.str s:=by simp only[C]
@[simp] theorem C_L {e n:Nat} {cs:List D}:C (.L e n cs)=.rsl n (Cs cs):=by simp only[C]
@[simp] theorem aTP {k:IntKind} {n:Int}:Ow (.I k n)=.int k n:=by simp only[Ow]
@[simp] theorem aTQ {b:Bool}:Ow (.B b)=.bool b:=by simp only[Ow]
@[simp] theorem aTO {s:List UInt8}:Ow (.S s)=.str s:=by simp only[Ow]
@[simp] theorem aT4 {e n:Nat} {cs:List D}:Ow (.L e n cs)=.osl 0 e n (Ows cs):=by simp only[Ow]
@[simp] theorem aQb:Cs []=[]:=by simp only[Cs]
@[simp] theorem Gs {d:D} {ds:List D}:Cs (d::ds)=C d::Cs ds:=by simp only[Cs]
@[simp] theorem afe:Ows []=[]:=by simp only[Ows]
@[simp] theorem Cm {d:D} {ds:List D}:Ows (d::ds)=Ow d::Ows ds:=by simp only[Ows]
theorem vZ {ds:List D}:Cs ds=ds.map C:=by
 induction ds with
 | nil=>simp
 | cons d ds ih=>simp[ih]
theorem xg {ds:List D}:Ows ds=ds.map Ow:=by
 induction ds with
 | nil=>simp
 | cons d ds ih=>simp[ih]
@[simp] theorem oQ {a b:List D}:Cs (a++b)=Cs a++Cs b:=by simp[vZ]
@[simp] theorem gU {a b:List D}:Ows (a++b)=Ows a++Ows b:=by simp[xg]
@[simp] theorem P7 {a:List D}:(Cs a).length=a.length:=by simp[vZ]
@[simp] theorem bD {a:List D}:(Ows a).length=a.length:=by simp[xg]
theorem aj {a:List D} {n:Nat}:(Cs a).drop n=Cs (a.drop n):=by simp[vZ]
theorem aPL {a:List D} {n:Nat}:(Cs a).take n=Cs (a.take n):=by simp[vZ]
theorem kz {a:List D} {n:Nat}:(Ows a).drop n=Ows (a.drop n):=by simp[xg]
theorem aDP {a:List D} {n:Nat}:(Ows a).take n=Ows (a.take n):=by simp[xg]
@[simp] theorem agZ {d:D}:dN (C d)=true:=by cases d<;>simp[dN]
@[simp] theorem aDH {d:D}:dB (C d)=false:=by cases d<;>rfl
@[simp] theorem aPh {d:D}:oC (C d)=false:=by cases d<;>rfl
@[simp] theorem aDG {d:D}:oC (Ow d)=false:=by cases d<;>rfl
@[simp] theorem aCf {d:D}:dB (Ow d)=false:=by cases d<;>rfl
@[simp] theorem aDK {d:D}:dS (C d)=false:=by cases d<;>rfl
@[simp] theorem aCg {d:D}:dS (Ow d)=false:=by cases d<;>rfl
@[simp] theorem aPV {ds:List D}:(Cs ds).any oC=false:=by simp[vZ]
@[simp] theorem aPp {ds:List D}:(Ows ds).any oC=false:=by simp[xg]
@[simp] theorem aNk {e:Env} {d:D}:dY e (C d)=some (C d,false):=by cases d<;>simp[dY,dN]
@[simp] theorem aCc {e:Env} {ds:List D}:gI e (Cs ds)=some (Cs ds,false):=by
 induction ds with
 | nil=>simp[gI]
 | cons d ds ih=>simp[gI,ih]
@[simp] theorem aNe {e:Env} {d:D}:takeC e (C d)=some (C d,e):=by cases d<;>simp[takeC]
@[simp] theorem aCb {e:Env} {ds:List D}:bP e (Cs ds)=some (Cs ds,e):=by
 induction ds with
 | nil=>simp[bP]
 | cons d ds ih=>simp[bP,ih]
@[simp] theorem aTS {r o:Nat} {p:List Nat} {d:D}:lz1 r p o (C d)=C d:=by cases d<;>simp[lz1]
@[simp] theorem aPS {r:Nat} {p:List Nat} {o:Nat} {ds:List D}:lzc r p o (Cs ds)=Cs ds:=by
 induction ds generalizing o with
 | nil=>simp[lzc]
 | cons d ds ih=>simp[lzc,ih]
@[simp] theorem aTR {j:Nat} {d:D}:lzv j (C d)=C d:=by cases d<;>simp[lzv,lz1]
mutual
theorem Gi:∀ (d:D),jd (Ow d)=some (C d)
 | .I k n=>by simp[jd]
 | .B b=>by simp[jd]
 | .S s=>by simp[jd]
 | .L e n cs=>by simp[jd,BM cs]
theorem BM:∀ (ds:List D),jg (Ows ds)=some (Cs ds)
 | []=>by simp[jg]
 | d::ds=>by simp[jg,Gi d,BM ds]
end
attribute [simp] Gi BM
@[simp] theorem aPT {d:D}:jd (C d)=some (C d):=by cases d<;>simp[jd]
@[simp] theorem aPj {ds:List D}:jg (Cs ds)=some (Cs ds):=by
 induction ds with
 | nil=>simp[jg]
 | cons d ds ih=>simp[jg,ih]
mutual
theorem II:∀ (d:D),gy (Ow d)=true
 | .I k n=>by simp[gy]
 | .B b=>by simp[gy]
 | .S s=>by simp[gy]
 | .L e n cs=>by simp[gy,uQ cs]
theorem uQ:∀ (ds:List D),ik (Ows ds)=true
 | []=>by simp[ik]
 | d::ds=>by simp[ik,II d,uQ ds]
end
attribute [simp] II uQ
theorem aDJ {e n:Nat} {d:D} {cs:List D}:inner (Ow (.L e n (d::cs)))=some (Ows (d::cs)):=by simp[inner]
theorem agP {α:Type} (f:α→List D) (k:Nat):∀ (xs:List α) (i:Nat) (x:α),(∀ x∈xs,(f x).length=k)→xs[i]?=some x→((xs.flatMap f).drop (i*k)).take k=f x∧i*k+k≤(xs.flatMap f).length
 | [],i,x,_,h=>by simp at h
 | y::ys,0,x,hl,h=>by
  simp at h;subst h
  have:=hl y (by simp)
  simp[←this]
 | y::ys,i+1,x,hl,h=>by
  have h1:=hl y (by simp)
  obtain⟨a,b⟩:=agP f k ys i x (fun x hx=>hl x (by simp[hx])) (by simpa using h)
  have e:(i+1)*k=(f y).length+i*k:=by rw[h1,Nat.add_mul];omega
  rw[List.flatMap_cons,e,List.drop_append,List.drop_eq_nil_of_le (by omega)]
  refine⟨by simpa using a,?_⟩
  rw[List.length_append]
  omega
theorem aA {x:Int} (h1:-9223372036854775808≤x) (h2:x<9223372036854775808):IntKind.i64.wrap x=x:=by
 simp only[IntKind.wrap,IntKind.bits,IntKind.signed]
 simp
 split<;>omega
@[simp] theorem aB8:IntKind.i64.wrap 0=0:=by decide
@[simp] theorem wrap_one:IntKind.i64.wrap 1=1:=by decide
@[simp] theorem aB9:IntKind.i64.wrap (-1)=-1:=by decide
@[simp] theorem aDI {s t:Nat} {cs:List AV}:inner (.bx s t cs)=some cs:=rfl
@[simp] theorem ig {s e n:Nat} {cs:List AV} (h:cs≠[]):inner (.osl s e n cs)=some cs:=by
 cases cs with
 | nil=>exact absurd rfl h
 | cons c cs=>rfl
@[simp] theorem afp {s t n:Nat} {e:Env}:takeC e (.osl s t 0 [])=some (.osl s t 0 [],e):=rfl
theorem uD {A B Z cs:List AV} {o:Nat} (ho:A.length=o) (hb:B.length=cs.length):splice (A++(B++Z)) o cs=A++(cs++Z):=by
 subst ho
 simp[splice,←hb,List.drop_append]
theorem Yd {r r' o o':Nat} {p p':List Nat} (v:AV):lz1 r p o (lz1 r' p' o' v)=lz1 r' p' o' v:=by
 cases v with
 | fn f cs=>cases cs<;>rfl
 | _=>rfl
@[simp] theorem aPg {r r':Nat} {p p':List Nat} {cs:List AV} {o o':Nat}:lzc r p o (lzc r' p' o' cs)=lzc r' p' o' cs:=by
 induction cs generalizing o o' with
 | nil=>rfl
 | cons c cs ih=>simp[lzc,ih,Yd]
@[simp] theorem aft {row cs:List AV} (h:row.length≤cs.length):splice row 0 cs=cs:=by
 simp[splice,List.drop_eq_nil_of_le h]
def gn:D→AV
 | .L _ _ _=>.gone
 | d=>Ow d
def isL:D→Bool
 | .L _ _ _=>true
 | _=>false
@[simp] theorem afO {r:Nat} {p:List Nat} {o:Nat} {cs:List AV}:(lzc r p o cs).length=cs.length:=by
 induction cs generalizing o with
 | nil=>rfl
 | cons c cs ih=>simp[lzc,ih]
theorem G9 {j:Nat}:∀ {ds:List D} {e:Env} {pre:List AV},e[j]?=some (.agg (pre++Ows ds))→bP e (lzc j [] pre.length (Ows ds))=some (Ows ds,e.set j (.agg (pre++ds.map gn))):=by
 intro ds
 induction ds with
 | nil =>
  intro e pre h
  have:e.set j (.agg (pre++[]))=e:=ed (by simpa using h)
  simpa [lzc,bP] using this.symm
 | cons d ds ih =>
  intro e pre h
  have hj:=(List.getElem?_eq_some_iff.1 h).1
  have sc:∀ {v:AV},Ow d=v→gn d=v→lz1 j [] pre.length v=v→takeC e v=some (v,e)→bP e (lzc j [] pre.length (Ows (d::ds)))=some (Ows (d::ds),e.set j (.agg (pre++(d::ds).map gn))):=by
   intro v h1 h2 h3 h4
   have:=ih (e:=e) (pre:=pre++[v]) (by rw[h];simp[h1])
   simp only[List.length_append,List.length_singleton] at this
   simp[lzc,bP,h1,h3,h4,this,h2]
  cases d with
  | I k n=>exact sc (v:=.int k n) (by simp) (by simp[gn]) rfl rfl
  | B b=>exact sc (v:=.bool b) (by simp) (by simp[gn]) rfl rfl
  | S s=>exact sc (v:=.str s) (by simp) (by simp[gn]) rfl rfl
  | L el n cs =>
   have hrow:jc e j []=some (pre++Ows (.L el n cs::ds)):=by simp[jc,h,rowAt,cellsOf]
   have hset:bY e j [] (pre++.gone::Ows ds)=e.set j (.agg (pre++.gone::Ows ds)):=by
    simp[bY,h,setRow,iK]
   have:=ih (e:=e.set j (.agg (pre++.gone::Ows ds))) (pre:=pre++[.gone]) (by simp[hj])
   simp only[List.length_append,List.length_singleton] at this
   simp[lzc,bP,lz1,takeC,hrow,hset,this,gn]
@[simp] theorem afg {j:Nat} {ds:List D} {e:Env} (h:e[j]?=some (.agg (Ows ds))):bP e (lzc j [] 0 (Ows ds))=some (Ows ds,e.set j (.agg (ds.map gn))):=by
 have:=G9 (j:=j) (ds:=ds) (e:=e) (pre:=[]) (by simpa using h)
 simpa using this
theorem JM {r:Nat} {p:List Nat} {e:Env}:∀ {ds:List D} {pre post:List AV},jc e r p=some (pre++(Ows ds++post))→gI e (lzc r p pre.length (Ows ds))=some (Cs ds,ds.any isL):=by
 intro ds
 induction ds with
 | nil=>intro pre post h;simp[lzc,gI]
 | cons d ds ih =>
  intro pre post h
  have sc:∀ {v:AV},Ow d=v→C d=v→isL d=false→lz1 r p pre.length v=v→dY e v=some (v,false)→gI e (lzc r p pre.length (Ows (d::ds)))=some (Cs (d::ds),(d::ds).any isL):=by
   intro v h1 h2 h3 h4 h5
   have:=ih (pre:=pre++[v]) (post:=post) (by rw[h];simp[h1])
   simp only[List.length_append,List.length_singleton] at this
   simp[lzc,gI,h1,h2,h3,h4,h5,this]
  cases d with
  | I k n=>exact sc (v:=.int k n) (by simp) (by simp) rfl rfl (by simp[dY,dN])
  | B b=>exact sc (v:=.bool b) (by simp) (by simp) rfl rfl (by simp[dY,dN])
  | S s=>exact sc (v:=.str s) (by simp) (by simp) rfl rfl (by simp[dY,dN])
  | L el n cs =>
   have:=ih (pre:=pre++[.osl 0 el n (Ows cs)]) (post:=post) (by rw[h];simp)
   simp only[List.length_append,List.length_singleton] at this
   have hs:dY e (.ps r p pre.length)=some (.rsl n (Cs cs),true):=by simp[dY,h,jd]
   simp[lzc,lz1,gI,hs,this,isL]
@[simp] theorem afh {r:Nat} {p:List Nat} {e:Env} {ds:List D} (h:jc e r p=some (Ows ds)):gI e (lzc r p 0 (Ows ds))=some (Cs ds,ds.any isL):=by
 have:=JM (e:=e) (r:=r) (p:=p) (ds:=ds) (pre:=[]) (post:=[]) (by simpa using h)
 simpa using this
section
variable {P : Program} {m k : Nat}
@[congr] theorem aDB {sc:ah} {e e':Env} {Q:Exit→Env→Prop} (h:e=e'):wpS P m sc e Q=wpS P m sc e' Q:=by rw[h]
@[congr] theorem aPW {sc:ah} {e e':Env} {Q:Exit→Env→Prop} (h:e=e'):W P m sc e Q=W P m sc e' Q:=by rw[h]
@[congr] theorem aCi {ops ops':List bM} {e e':Env} {Q:Env→Prop} (ho:ops=ops') (h:e=e'):jC P m k ops e Q=jC P m k ops' e' Q:=by rw[h,ho]
@[congr] theorem aDQ {so:bM} {e e':Env} {Q:Env→Prop} (h:e=e'):OpW P m k so e Q=OpW P m k so e' Q:=by rw[h]
@[congr] theorem agC {e e':Env} {ops ops':List bM} {info:List (List Bool × Option (List Nat))} {acc acc':List AV} {Q:List AV→Prop} (ho:ops=ops') (h:e=e') (ha:acc=acc'):df P e ops info acc Q=df P e' ops' info acc' Q:=by rw[h,ho,ha]
@[congr] theorem aDR {so:bM} {e e':Env} {Q:AV→Prop} (h:e=e'):OpV P so e Q=OpV P so e' Q:=by rw[h]
@[congr] theorem aDS {so:bM} {e e':Env} {d d':List Nat} {Q:AV→Prop} (h:e=e') (hd:d=d'):OpC so e d Q=OpC so e' d' Q:=by rw[h,hd]
end
attribute [simp] Xg aDs U8 aDt afr Nv Ac af6 Dx vY wC wpS jC OpW opx ev nG lzv lz1 lzc endOk qj Dy P9 su Kq kw qR LG dS oC dB Iw SG mO qQ gq yT outOf cellsOf mkv Lu jZ lK dY dN jc rowAt yL takeC bP nZ zQ
 bY setRow iK jK LV dJ sH evs ui gI jd jg frz gy ik mX shA uP df OpV OpC dR jb CS Qe jq Xm qB tq zM Gt zl zk isS num nB ae4 afD iP qU GG Gz vg ve qM nT iZ Qb yU zO D9 yM Gf jE fD hrs hr mX Jz Qp rG upV rP dnV nJ zf
end Go.AM
namespace Go.AM
open Go
inductive Fr where
 | sq (b:ah)
 | bl (id:Nat)
 | mv (j k:Nat)
def Qi (P:Program) (m:Nat):List Fr→(Exit→Env→Prop)→Exit→Env→Prop
 | [],Q,ex,e=>Q ex e
 | .sq b::K,Q,ex,e=>match ex with
  | .normal=>wpS P m b e (Qi P m K Q)
  | ex=>Qi P m K Q ex e
 | .bl id::K,Q,ex,e=>Qi P m K Q (outOf id ex) e
 | .mv _ _::K,Q,ex,e=>False
def R (P:Program) (m:Nat) (ex:Exit) (e:Env) (K:List Fr) (Q:Exit→Env→Prop):Prop:=Qi P m K Q ex e
def G (P:Program) (m:Nat) (sc:ah) (e:Env) (K:List Fr) (Q:Exit→Env→Prop):Prop:=wpS P m sc e (Qi P m K Q)
def aDz (P:Program) (m:Nat) (j:Nat) (b:ah) (e:Env) (K:List Fr) (Q:Exit→Env→Prop):Option AV→Prop
 | some v'=>G P m b (e.set j v') K Q
 | none=>False
@[simp] theorem aCj {P:Program} {m j:Nat} {b:ah} {e:Env} {K:List Fr} {Q:Exit→Env→Prop} {v':AV}:aDz P m j b e K Q (some v')=G P m b (e.set j v') K Q:=rfl
def yV (P:Program) (m:Nat) (a b:ah) (e:Env) (K:List Fr) (Q:Exit→Env→Prop):Option AV→Prop
 | some (.bool t)=>(t=true→G P m a e K Q)∧(t=false→G P m b e K Q)
 | _=>False
def aDu (P:Program) (m:Nat) (e:Env) (Q:Exit→Env→Prop):List Fr→Prop
 | .mv j k::K=>endOk m e=true∧match yP m j k e with
  | some e3=>R P m .normal e3 K Q
  | none=>False
 | K=>endOk m e=true∧R P m .normal (e.take m) K Q
def S (P:Program) (m k:Nat) (ops:List bM) (e:Env) (K:List Fr) (Q:Exit→Env→Prop):Prop:=jC P m k ops e fun e2=>aDu P m e2 Q K
def T3 (P:Program) (m k:Nat) (rest:List bM) (K:List Fr) (Q:Exit→Env→Prop):Option Env→Prop
 | some e2=>S P m (k+1) rest e2 K Q
 | none=>False
def T2 (P:Program) (m k:Nat) (d:Option Nat) (rest:List bM) (K:List Fr) (Q:Exit→Env→Prop):Option (AV × Env)→Prop
 | some (v,e)=>T3 P m k rest K Q (nG m k d v e)
 | none=>False
def Qg (P:Program) (m k:Nat) (d:Option Nat) (rest:List bM) (e:Env) (K:List Fr) (Q:Exit→Env→Prop) (fr:Bool) (g:Nat):Option (List AV × Bool)→Prop
 | some (avs,live)=>∃ res,Says P g avs res []∧(live=true→gy res=true) ∧
   match (if fr then frz res else some res) with
   | some v=>T3 P m k rest K Q (nG m k d v e)
   | none=>False
 | none=>False
def Xn (P:Program) (m k:Nat) (d:Option Nat) (rest:List bM) (e:Env) (K:List Fr) (Q:Exit→Env→Prop):Option (Nat × List AV)→Option (List AV × Bool)→Prop
 | some (g,caps),some (avs,live)=>aY P g=true∧∃ res,Says P g (avs++caps) res []∧(live=true→gy res=true)∧T3 P m k rest K Q (nG m k d res e)
 | _,_=>False
def Xj (e:Env) (x:Opd) (args:List (Opd × Bool)):Option (Env × List Bk × Nat × List AV × Bool):=match vg e 1 args with
 | some (e1,b1,vs)=>match qM e1 (1+nB b1) x with
  | some (g,caps,e2,b2)=>match ve e2 args vs with
   | some (avs,live)=>some (e2,b1++b2,g,avs++caps,live)
   | none=>none
  | none=>none
 | none=>none
def Xo (P:Program) (m k:Nat) (d:Option Nat) (rest:List bM) (K:List Fr) (Q:Exit→Env→Prop):Option (Env × List Bk × Nat × List AV × Bool)→Prop
 | some (e2,bs,g,avs,live)=>aY P g=true∧yU e2 bs=true∧∃ res outs,Says P g avs res (num 1 outs)∧zO (nB bs) live res outs=true ∧
   match iZ (qj e2) bs outs with
   | some e3=>T3 P m k rest K Q (nG m k d res e3)
   | none=>False
 | none=>False
def GZ (P:Program) (m k:Nat) (b:Bool) (so:bM) (rest:List bM) (e:Env) (K:List Fr) (Q:Exit→Env→Prop):Option AV→Prop
 | some (.bool t)=>if t=b then S P m k (so::rest) e K Q else S P m (k+1) rest (skE m k e so.k) K Q
 | some (.tup [] [])=>S P m (k+1) rest (skE m k e so.k) K Q
 | _=>False
def DS (P:Program) (m:Nat) (lf:Bool) (e:Env) (ops:List bM) (info:List (List Bool × Option (List Nat))) (acc:List AV) (fin:List Bool) (t:Nat) (tail:List bM) (r:Nat) (K:List Fr) (Q:Exit→Env→Prop):Prop :=
 df P e ops info acc fun vs=>(lf=true→(e++vs).all (kw e)=true)∧S P m t tail (e++dR fin vs++gq r) K Q
def D2 (P:Program) (m:Nat) (lf:Bool) (e:Env) (ops:List bM) (info:List (List Bool × Option (List Nat))) (acc:List AV) (fin:List Bool) (t:Nat) (tail:List bM) (r:Nat) (K:List Fr) (Q:Exit→Env→Prop):Option (AV × Env)→Prop
 | some (v,_)=>jb v=false∧DS P m lf e ops info (acc++[v]) fin t tail r K Q
 | none=>False
def DD (P:Program) (m:Nat) (lf:Bool) (e em:Env) (d:List Nat) (ops:List bM) (info:List (List Bool × Option (List Nat))) (acc:List AV) (fin:List Bool) (t:Nat) (tail:List bM) (r:Nat) (K:List Fr) (Q:Exit→Env→Prop):Option (AV × Env)→Prop
 | some (v,e1)=>jb v=false∧mM e1 d=mM em d∧DS P m lf e ops info (acc++[v]) fin t tail r K Q
 | none=>False
def Xp (P:Program) (m:Nat) (lf:Bool) (e:Env) (ops:List bM) (info:List (List Bool × Option (List Nat))) (acc:List AV) (fin:List Bool) (t:Nat) (tail:List bM) (r:Nat) (K:List Fr) (Q:Exit→Env→Prop) (fr:Bool) (g:Nat):Option (List AV × Bool)→Prop
 | some (avs,live)=>∃ res,Says P g avs res []∧(live=true→gy res=true) ∧
   match (if fr then frz res else some res) with
   | some v=>jb v=false∧DS P m lf e ops info (acc++[v]) fin t tail r K Q
   | none=>False
 | none=>False
def Xf (P:Program) (m:Nat) (lf:Bool) (e:Env) (ops:List bM) (info:List (List Bool × Option (List Nat))) (acc:List AV) (fin:List Bool) (t:Nat) (tail:List bM) (r:Nat) (K:List Fr) (Q:Exit→Env→Prop):Option (Nat × List AV)→Option (List AV × Bool)→Prop
 | some (g,caps),some (avs,live)=>aY P g=true∧∃ res,Says P g (avs++caps) res []∧(live=true→gy res=true)∧jb res=false∧DS P m lf e ops info (acc++[res]) fin t tail r K Q
 | _,_=>False
def pg (P:Program) (m:Nat) (lf:Bool) (b:Bool) (so:bM) (e:Env) (ops:List bM) (bs:List Bool) (c:Option (List Nat)) (info:List (List Bool × Option (List Nat))) (acc:List AV) (fin:List Bool) (t:Nat) (tail:List bM) (r:Nat) (K:List Fr) (Q:Exit→Env→Prop):Option AV→Prop
 | some (.bool x)=>if x=b then DS P m lf e (so::ops) ((bs,c)::info) acc fin t tail r K Q else DS P m lf e ops info (acc++[skV so.k]) fin t tail r K Q
 | some (.tup [] [])=>DS P m lf e ops info (acc++[skV so.k]) fin t tail r K Q
 | _=>False
section
variable {P : Program} {m k : Nat} {e e' : Env} {K : List Fr} {Q : Exit → Env → Prop}
@[simp] theorem aTU {a b:ah}:G P m (.seq a b) e K Q=G P m a e (.sq b::K) Q:=rfl
@[simp] theorem aPF {id:Nat} {b:ah}:G P m (.block id b) e K Q=G P m b e (.bl id::K) Q:=rfl
@[simp] theorem aP4:G P m .skip e K Q=R P m .normal e K Q:=rfl
@[simp] theorem aP8 {i:Nat}:G P m (.exit i) e K Q=R P m (.exit i) e K Q:=rfl
@[simp] theorem aTV:G P m .ret e K Q=R P m .ret e K Q:=rfl
@[simp] theorem aTX:G P m .bad e K Q=False:=rfl
@[simp] theorem aP9 {x:Opd} {a b:ah}:G P m (.cond x a b) e K Q=yV P m a b (yT x e) K Q (ev e x):=by
 unfold G yV
 simp only[wpS,G]<;>split<;>rename_i h<;>split<;>simp_all
@[simp] theorem aTW {j:Nat} {b:ah}:G P m (.frz j b) e K Q=aDz P m j b e K Q ((e[j]?).bind lJ):=by
 unfold G aDz
 simp only[wpS]
 rfl
attribute [simp] lJ
@[simp] theorem aPE {x:Opd} {a b:ah}:G P m (.condk x a b) e K Q=yV P m a b e K Q (ev e x):=by
 unfold G yV
 simp only[wpS,G]<;>split<;>rename_i h<;>split<;>simp_all
@[simp] theorem aPM {a b:ah}:yV P m a b e K Q (some (.bool true))=G P m a e K Q:=by simp[yV]
@[simp] theorem aPN {a b:ah}:yV P m a b e K Q (some (.bool false))=G P m b e K Q:=by simp[yV]
@[simp low] theorem aPO {a b:ah} {t:Bool}:yV P m a b e K Q (some (.bool t))=((t=true→G P m a e K Q)∧(t=false→G P m b e K Q)):=rfl
@[simp] theorem aTT {ex:Exit}:R P m ex e [] Q=Q ex e:=rfl
@[simp] theorem R_n {b:ah}:R P m .normal e (.sq b::K) Q=G P m b e K Q:=rfl
@[simp] theorem R_x {i:Nat} {b:ah}:R P m (.exit i) e (.sq b::K) Q=R P m (.exit i) e K Q:=rfl
@[simp] theorem R_r {b:ah}:R P m .ret e (.sq b::K) Q=R P m .ret e K Q:=rfl
@[simp] theorem aT3 {i:Nat}:R P m .normal e (.bl i::K) Q=R P m .normal e K Q:=rfl
@[simp] theorem aT2 {i:Nat}:R P m .ret e (.bl i::K) Q=R P m .ret e K Q:=rfl
@[simp] theorem aT1 {i j:Nat}:R P m (.exit j) e (.bl i::K) Q=R P m (if j=i then .normal else .exit j) e K Q:=rfl
@[simp] theorem aP7 {D:List Nat} {ops:List bM}:G P m (.reg D ops) e [] Q=S P m 0 ops (e++gq ops.length) [] Q:=rfl
@[simp] theorem aP6 {D:List Nat} {ops:List bM} {b:ah}:G P m (.reg D ops) e (.sq b::K) Q=S P m 0 ops (e++gq ops.length) (.sq b::K) Q:=rfl
@[simp] theorem aP5 {D:List Nat} {ops:List bM} {id:Nat}:G P m (.reg D ops) e (.bl id::K) Q=S P m 0 ops (e++gq ops.length) (.bl id::K) Q:=rfl
theorem aB5:S P m k [] e K Q=aDu P m e Q K:=rfl
@[simp] theorem aP2:S P m k [] e [] Q=(endOk m e=true∧R P m .normal (e.take m) [] Q):=rfl
@[simp] theorem aP1 {b:ah}:S P m k [] e (.sq b::K) Q=(endOk m e=true∧R P m .normal (e.take m) (.sq b::K) Q):=rfl
@[simp] theorem aP0 {id:Nat}:S P m k [] e (.bl id::K) Q=(endOk m e=true∧R P m .normal (e.take m) (.bl id::K) Q):=rfl
def Mv (P:Program) (m:Nat) (K:List Fr) (Q:Exit→Env→Prop):Option Env→Prop
 | some e3=>R P m .normal e3 K Q
 | none=>False
@[simp] theorem aPz:Mv P m K Q (some e)=R P m .normal e K Q:=rfl
@[simp] theorem aPZ {j k':Nat}:S P m k [] e (.mv j k'::K) Q=(endOk m e=true∧Mv P m K Q (yP m j k' e)):=by
 simp only[aB5,aDu]
 cases yP m j k' e<;>rfl
@[simp] theorem aT0 {s:SOp} {d:Option Nat} {rest:List bM}:S P m k (⟨.op s,d,none⟩::rest) e K Q=T2 P m k d rest K Q (opx e s):=by
 simp only[S,jC,OpW]
 cases h:opx e s with
 | none=>rfl
 | some x=>obtain⟨v,e1⟩:=x;simp only[T2];cases nG m k d v e1<;>rfl
@[simp] theorem aPv {sk:SK} {d:Option Nat} {s:Nat} {b:Bool} {rest:List bM}:S P m k (⟨sk,d,some (s,b)⟩::rest) e K Q=GZ P m k b ⟨sk,d,none⟩ rest e K Q e[s]?:=by
 simp only[S,jC,GZ]
 cases h:e[s]? with
 | none=>rfl
 | some v =>
  cases v with
  | bool t=>cases t<;>cases b<;>rfl
  | tup sh cs=>cases sh<;>cases cs<;>rfl
  | _=>rfl
@[simp] theorem aDU {b t:Bool} {so:bM} {rest:List bM}:GZ P m k b so rest e K Q (some (.bool t))=if t=b then S P m k (so::rest) e K Q else S P m (k+1) rest (skE m k e so.k) K Q:=rfl
@[simp] theorem aDT {b:Bool} {so:bM} {rest:List bM}:GZ P m k b so rest e K Q (some (.tup [] []))=S P m (k+1) rest (skE m k e so.k) K Q:=rfl
@[simp] theorem aPu {d:Option Nat} {rest:List bM} {v:AV}:T2 P m k d rest K Q (some (v,e))=T3 P m k rest K Q (nG m k d v e):=rfl
@[simp] theorem aPt {rest:List bM}:T3 P m k rest K Q (some e)=S P m (k+1) rest e K Q:=rfl
@[simp] theorem aP3 {g:Nat} {args:List Opd} {fr:Bool} {d:Option Nat} {rest:List bM}:S P m k (⟨.call g args fr,d,none⟩::rest) e K Q=Qg P m k d rest e K Q fr g (jZ e args):=by
 simp only[S,jC,OpW]
 cases h:jZ e args with
 | none=>rfl
 | some x =>
  obtain⟨v,l⟩:=x
  simp only[Qg,eq_iff_iff]
  refine exists_congr fun res=>and_congr Iff.rfl (and_congr Iff.rfl ?_)
  cases (if fr=true then frz res else some res) with
  | none=>exact Iff.rfl
  | some v=>simp only;cases nG m k d v e<;>exact Iff.rfl
@[simp] theorem aPw {x:Opd} {args:List Opd} {d:Option Nat} {rest:List bM}:S P m k (⟨.callv x args,d,none⟩::rest) e K Q=Xn P m k d rest e K Q (jq e x) (jZ e args):=by
 simp only[S,jC,OpW]
 cases h:jq e x with
 | none=>rfl
 | some y =>
  obtain⟨g,caps⟩:=y
  cases h2:jZ e args with
  | none=>rfl
  | some z =>
   obtain⟨v,l⟩:=z
   simp only[Xn,eq_iff_iff]
   refine and_congr Iff.rfl (exists_congr fun res=>and_congr Iff.rfl (and_congr Iff.rfl ?_))
   cases nG m k d res e<;>exact Iff.rfl
@[simp] theorem aPx {x:Opd} {args:List (Opd × Bool)} {d:Option Nat} {rest:List bM}:S P m k (⟨.callm x args,d,none⟩::rest) e K Q=Xo P m k d rest K Q (Xj e x args):=by
 simp only[S,jC,OpW,Xj]
 cases h:vg e 1 args with
 | none=>rfl
 | some y =>
  obtain⟨e1,b1,vs⟩:=y
  simp only
  cases h2:qM e1 (1+nB b1) x with
  | none=>rfl
  | some z =>
   obtain⟨g,caps,e2,b2⟩:=z
   simp only
   cases h3:ve e2 args vs with
   | none=>rfl
   | some u =>
    obtain⟨avs,live⟩:=u
    simp only[Xo,eq_iff_iff]
    refine and_congr Iff.rfl (and_congr Iff.rfl (exists_congr fun res=>exists_congr fun outs=>and_congr Iff.rfl (and_congr Iff.rfl ?_)))
    cases iZ (qj e2) (b1++b2) outs with
    | none=>exact Iff.rfl
    | some e3=>simp only;cases nG m k d res e3<;>exact Iff.rfl
theorem wM {ops:List bM} {info:List (List Bool × Option (List Nat))} {acc:List AV} {fin:List Bool} {t:Nat} {tail:List bM} {r:Nat}:DS P m false e ops info acc fin t tail r K Q=df P e ops info acc fun vs=>S P m t tail (e++dR fin vs++gq r) K Q:=by simp[DS]
@[simp] theorem aPD {D:List Nat} {ops:List bM} {sees:List (List Nat)} {t:Nat} {cons:List (Nat × Nat)} {info:List (List Bool × Option (List Nat))} {fin:List Bool} :
  G P m (.dreg D ops sees t cons info fin) e [] Q=DS P m false e (ops.take t) info [] fin t (ops.drop t) (ops.length-t) [] Q:=by rw[wM];rfl
@[simp] theorem aPC {D:List Nat} {ops:List bM} {sees:List (List Nat)} {t:Nat} {cons:List (Nat × Nat)} {info:List (List Bool × Option (List Nat))} {fin:List Bool} {b:ah} :
  G P m (.dreg D ops sees t cons info fin) e (.sq b::K) Q=DS P m false e (ops.take t) info [] fin t (ops.drop t) (ops.length-t) (.sq b::K) Q:=by rw[wM];rfl
@[simp] theorem aPB {D:List Nat} {ops:List bM} {sees:List (List Nat)} {t:Nat} {cons:List (Nat × Nat)} {info:List (List Bool × Option (List Nat))} {fin:List Bool} {id:Nat} :
  G P m (.dreg D ops sees t cons info fin) e (.bl id::K) Q=DS P m false e (ops.take t) info [] fin t (ops.drop t) (ops.length-t) (.bl id::K) Q:=by rw[wM];rfl
@[simp] theorem aPA {j k:Nat} {D:List Nat} {ops:List bM} {sees:List (List Nat)} {t:Nat} {cons:List (Nat × Nat)} {info:List (List Bool × Option (List Nat))} {fin:List Bool} :
  G P m (.dregm j k D ops sees t cons info fin) e K Q=(e.any dS=false∧DS P m false (e.set j .dead) (ops.take t) info [] fin t (ops.drop t) (ops.length-t) (.mv j k::K) Q):=by rw[wM];rfl
variable {lf : Bool} {ops : List bM} {bs : List Bool} {info : List (List Bool × Option (List Nat))} {acc : List AV} {fin : List Bool} {t : Nat} {tail : List bM} {r : Nat}
theorem Xe:DS P m lf e [] info acc fin t tail r K Q=((lf=true→(e++acc).all (kw e)=true)∧S P m t tail (e++dR fin acc++gq r) K Q):=by
 cases info with
 | nil=>rfl
 | cons x y=>rfl
@[simp] theorem aPH:DS P m false e [] info acc fin t tail r K Q=S P m t tail (e++dR fin acc++gq r) K Q:=by simp[Xe]
@[simp] theorem aPG:DS P m true e [] info acc fin t tail r K Q=((e++acc).all (kw e)=true∧S P m t tail (e++dR fin acc++gq r) K Q):=by simp[Xe]
@[simp] theorem aTZ {s:SOp}:DS P m lf e (⟨.op s,none,none⟩::ops) ((bs,none)::info) acc fin t tail r K Q=(CS s=true∧D2 P m lf e ops info acc fin t tail r K Q (opx (e++dR bs acc) s)):=by
 simp only[DS,df,OpV]
 cases h:opx (e++dR bs acc) s with
 | none=>simp[D2]
 | some x=>obtain⟨v,e1⟩:=x;simp[D2,DS]
@[simp] theorem aPK {v:AV}:D2 P m lf e ops info acc fin t tail r K Q (some (v,e'))=(jb v=false∧DS P m lf e ops info (acc++[v]) fin t tail r K Q):=rfl
@[simp] theorem aPI {j:List Nat} {ty n:Nat} {z:List AV} {ps:List (Nat × Nat × Opd)}:DS P m lf e (⟨.op (.bsl ty n z ps),none,none⟩::ops) ((bs,some j)::info) acc fin t tail r K Q=DD P m lf e (e++dR bs acc) (j.map (e.length + ·)) ops info acc fin t tail r K Q (opx (e++dR bs acc) (.bsl ty n z ps)):=by
 simp only[DS,df,OpC,afa (so:=⟨.op (.bsl ty n z ps),none,none⟩) rfl]
 cases h:opx (e++dR bs acc) (.bsl ty n z ps) with
 | none=>simp[DD]
 | some x=>obtain⟨v,e1⟩:=x;simp[DD,DS]
theorem RQ {e:Env} {ty sz:Nat} {x y:Opd} {Q:List AV→Prop}:EX e ⟨.op (.append ty sz x y),none,none⟩ (fun vs=>(lf=true→(e++vs).all (kw e)=true)∧Q vs)=fun vs=>(true=true→(e++vs).all (kw e)=true)∧Q vs:=by
 funext vs
 simp only[EX,isApp]
 apply propext
 constructor
 ·rintro⟨h1,_,h2⟩;exact⟨h1,h2⟩
 ·rintro⟨h1,h2⟩;exact⟨h1,fun _=>h1 trivial,h2⟩
@[simp] theorem aQa {j:List Nat} {ty sz:Nat} {x y:Opd}:DS P m lf e (⟨.op (.append ty sz x y),none,none⟩::ops) ((bs,some j)::info) acc fin t tail r K Q=DD P m true e (e++dR bs acc) (j.map (e.length + ·)) ops info acc fin t tail r K Q (LG (e++dR bs acc) ty sz x y):=by
 simp only[DS,df,OpC,RQ]
 cases h:LG (e++dR bs acc) ty sz x y with
 | none=>simp[DD]
 | some x=>obtain⟨v,e1⟩:=x;simp[DD,DS]
@[simp] theorem agD {em:Env} {d:List Nat} {v:AV}:DD P m lf e em d ops info acc fin t tail r K Q (some (v,e'))=(jb v=false∧mM e' d=mM em d∧DS P m lf e ops info (acc++[v]) fin t tail r K Q):=rfl
@[simp] theorem aDX {sk:SK} {s:Nat} {b:Bool}:DS P m lf e (⟨sk,none,some (s,b)⟩::ops) ((bs,none)::info) acc fin t tail r K Q=pg P m lf b ⟨sk,none,none⟩ e ops bs none info acc fin t tail r K Q (e++dR bs acc)[s]?:=by
 simp only[DS,df,true_and]
 cases h:(e++dR bs acc)[s]? with
 | none=>rfl
 | some v =>
  cases v with
  | bool t=>cases t<;>cases b<;>simp[pg,DS,df,OpV,jv]
  | tup sh cs=>cases sh<;>cases cs<;>simp[pg,DS,df,OpV,jv]
  | _=>simp[pg,DS,df,OpV,jv]
@[simp] theorem aCk {sk:SK} {s:Nat} {b:Bool} {js:List Nat}:DS P m lf e (⟨sk,none,some (s,b)⟩::ops) ((bs,some js)::info) acc fin t tail r K Q=pg P m lf b ⟨sk,none,none⟩ e ops bs (some js) info acc fin t tail r K Q (e++dR bs acc)[s]?:=by
 have hC:∀ (E:Env) (d:List Nat) (K:AV→Prop),OpC ⟨sk,none,some (s,b)⟩ E d K=OpC ⟨sk,none,none⟩ E d K:=fun _ _ _=>rfl
 have hA:∀ (Q:List AV→Prop),EX e ⟨sk,none,some (s,b)⟩ Q=EX e ⟨sk,none,none⟩ Q:=fun _=>rfl
 simp only[DS,df,true_and,hC,hA]
 cases h:(e++dR bs acc)[s]? with
 | none=>rfl
 | some v =>
  cases v with
  | bool t=>cases t<;>cases b<;>simp[pg,DS,df,jv]
  | tup sh cs=>cases sh<;>cases cs<;>simp[pg,DS,df,jv]
  | _=>simp[pg,DS,df,jv]
@[simp] theorem aDW {b x:Bool} {so:bM} {c:Option (List Nat)}:pg P m lf b so e ops bs c info acc fin t tail r K Q (some (.bool x))=if x=b then DS P m lf e (so::ops) ((bs,c)::info) acc fin t tail r K Q else DS P m lf e ops info (acc++[skV so.k]) fin t tail r K Q:=rfl
@[simp] theorem aDV {b:Bool} {so:bM} {c:Option (List Nat)}:pg P m lf b so e ops bs c info acc fin t tail r K Q (some (.tup [] []))=DS P m lf e ops info (acc++[skV so.k]) fin t tail r K Q:=rfl
@[simp] theorem aPJ {g:Nat} {args:List Opd} {fr:Bool}:DS P m lf e (⟨.call g args fr,none,none⟩::ops) ((bs,none)::info) acc fin t tail r K Q=Xp P m lf e ops info acc fin t tail r K Q fr g (jZ (e++dR bs acc) args):=by
 simp only[DS,df,OpV,true_and]
 cases h:jZ (e++dR bs acc) args with
 | none=>rfl
 | some x=>obtain⟨v,l⟩:=x;rfl
@[simp] theorem aDY {x:Opd} {args:List Opd}:DS P m lf e (⟨.callv x args,none,none⟩::ops) ((bs,none)::info) acc fin t tail r K Q=Xf P m lf e ops info acc fin t tail r K Q (jq (e++dR bs acc) x) (jZ (e++dR bs acc) args):=by
 simp only[DS,df,OpV,true_and]
 cases h:jq (e++dR bs acc) x with
 | none=>rfl
 | some y =>
  obtain⟨g,caps⟩:=y
  cases h2:jZ (e++dR bs acc) args with
  | none=>rfl
  | some z=>obtain⟨v,l⟩:=z;rfl
theorem ai {d:Option Nat} {rest:List bM} {g:Nat} {avs:List AV} {live:Bool} {res:AV} (h:Says P g avs res []) (h2:(live=true→gy res=true)∧T3 P m k rest K Q (nG m k d res e)):Qg P m k d rest e K Q false g (some (avs,live)) :=
 ⟨res,h,h2.1,h2.2⟩
theorem gQ {d:Option Nat} {rest:List bM} {g:Nat} {avs:List AV} {live:Bool} {res:AV} (h:Says P g avs res []) (h2:(live=true→gy res=true)∧(match frz res with|some v=>T3 P m k rest K Q (nG m k d v e)|none=>False)):Qg P m k d rest e K Q true g (some (avs,live)):=by
 refine⟨res,h,h2.1,?_⟩
 have:=h2.2
 cases hf:frz res with
 | none=>rw[hf] at this;exact this.elim
 | some v=>rw[hf] at this;simpa [hf] using this
theorem Lp {d:Option Nat} {rest:List bM} {g:Nat} {caps avs:List AV} {live:Bool} {res:AV} (hp:aY P g=true) (h:Says P g (avs++caps) res []) (h2:(live=true→gy res=true)∧T3 P m k rest K Q (nG m k d res e)):Xn P m k d rest e K Q (some (g,caps)) (some (avs,live)) :=
 ⟨hp,res,h,h2.1,h2.2⟩
def T4 (P:Program) (m k:Nat) (d:Option Nat) (rest:List bM) (K:List Fr) (Q:Exit→Env→Prop) (res:AV):Option Env→Prop
 | some e3=>T3 P m k rest K Q (nG m k d res e3)
 | none=>False
@[simp] theorem aPs {d:Option Nat} {rest:List bM} {res:AV}:T4 P m k d rest K Q res (some e)=T3 P m k rest K Q (nG m k d res e):=rfl
theorem bn {d:Option Nat} {rest:List bM} {bs:List Bk} {g:Nat} {avs:List AV} {live:Bool} {res:AV} (outs:List AV) (hp:aY P g=true) (h:Says P g avs res (num 1 outs)) (h2:yU e bs=true∧zO (nB bs) live res outs=true∧T4 P m k d rest K Q res (iZ (qj e) bs outs)) :
  Xo P m k d rest K Q (some (e,bs,g,avs,live)):=by
 refine⟨hp,h2.1,res,outs,h,h2.2.1,?_⟩
 have:=h2.2.2
 unfold T4 at this
 split at this<;>rename_i h3
 ·exact this
 ·exact this.elim
theorem ay {g:Nat} {avs:List AV} {live:Bool} {res:AV} (h:Says P g avs res []) (h2:(live=true→gy res=true)∧jb res=false∧DS P m lf e ops info (acc++[res]) fin t tail r K Q):Xp P m lf e ops info acc fin t tail r K Q false g (some (avs,live)) :=
 ⟨res,h,h2.1,h2.2⟩
theorem GM {g:Nat} {avs:List AV} {live:Bool} {res:AV} (h:Says P g avs res []) (h2:(live=true→gy res=true)∧(match frz res with|some v=>jb v=false∧DS P m lf e ops info (acc++[v]) fin t tail r K Q|none=>False)):Xp P m lf e ops info acc fin t tail r K Q true g (some (avs,live)):=by
 refine⟨res,h,h2.1,?_⟩
 have:=h2.2
 cases hf:frz res with
 | none=>rw[hf] at this;exact this.elim
 | some v=>rw[hf] at this;simpa [hf] using this
theorem aPU {g:Nat} {caps avs:List AV} {live:Bool} {res:AV} (hp:aY P g=true) (h:Says P g (avs++caps) res []) (h2:(live=true→gy res=true)∧jb res=false∧DS P m lf e ops info (acc++[res]) fin t tail r K Q):Xf P m lf e ops info acc fin t tail r K Q (some (g,caps)) (some (avs,live)) :=
 ⟨hp,res,h,h2.1,h2.2⟩
theorem aP {g:Nat} {fn:Func} {V:List Nat} {sc:ah} {rs:List aG} {args:List AV} {res:AV} (hf:P.funcs[g]?=some fn) (hok:aJ P fn V sc rs args.length=true)
  (h:G P V.length sc (args++gq (V.length-args.length)) [] (Qe rs res)):Says P g args res []:=Si hf hok h
theorem kP {g:Nat} {fn:Func} {V:List Nat} {sc:ah} {rs:List aG} {args:List AV} {res:AV} (ss:List Nat) (os:List AV) (hf:P.funcs[g]?=some fn) (hok:aJ P fn V sc rs args.length=true) (hss:∀ s∈ss,s≠0)
  (h:G P V.length sc (args++gq (V.length-args.length)) [] (Xm rs ss res os)):Says P g args res (ss.zip os):=P5 ss os hf hok hss h
theorem aDE {K:List Fr} {Q Q':Exit→Env→Prop} (hQ:∀ ex e,Q ex e→Q' ex e):∀ ex e,Qi P m K Q ex e→Qi P m K Q' ex e:=by
 induction K with
 | nil=>exact hQ
 | cons f K ih =>
  intro ex e h
  cases f with
  | sq b=>cases ex<;>first|exact jh ih h|exact ih _ _ h
  | bl id=>exact ih _ _ h
  | mv j k=>exact h.elim
theorem gY {l b:ah} (hl:l=.loop b) (js:List Nat) (E:Nat→Env) (I:Nat→Prop) (n:Nat) (out:Exit→Env→Prop)
  (hstep:∀ i,i<n→I i→∀ q:Exit→Env→Prop,(∀ e,js.foldl (fun e j=>e.set j .dead) e=E (i+1)→I (i+1)→q .normal e)→(∀ i e,out (.exit i) e→q (.exit i) e)→(∀ e,out .ret e→q .ret e)→G P m b (E i) [] q)
  (hlast:I n→∀ q:Exit→Env→Prop,(∀ i e,out (.exit i) e→q (.exit i) e)→(∀ e,out .ret e→q .ret e)→G P m b (E n) [] q)
  {e:Env} (hI:I 0) (he:e=E 0) (hout:∀ ex e,out ex e→R P m ex e K Q):G P m l e K Q:=by
 subst he
 have key:=RS (P:=P) (m:=m) (Q:=fun ex e=>(∃ i,ex=.exit i∨ex=.ret)∧out ex e) hl js E I n (fun i hi hI=>?_) (fun hI=>?_) 0 (Nat.zero_le _) hI
 ·subst hl
  exact agA (fun ex e h=>hout ex e h.2) key
 ·exact hstep i hi hI _ (fun e h1 h2=>⟨h1,h2⟩) (fun i e h=>⟨⟨i,.inl rfl⟩,h⟩) (fun e h=>⟨⟨0,.inr rfl⟩,h⟩)
 ·exact hlast hI _ (fun i e h=>⟨⟨i,.inl rfl⟩,h⟩) (fun e h=>⟨⟨0,.inr rfl⟩,h⟩)
theorem Oh {α:Type} {l b:ah} (hl:l=.loop b) (js:List Nat) (E:α→Env) (μ:α→Nat) (I:α→Prop) (out:Exit→Env→Prop)
  (hstep:∀ a,I a→∀ q:Exit→Env→Prop,(∀ e a',js.foldl (fun e j=>e.set j .dead) e=E a'→I a'→μ a'<μ a→q .normal e)→(∀ i e,out (.exit i) e→q (.exit i) e)→(∀ e,out .ret e→q .ret e)→G P m b (E a) [] q)
  (a:α) (hI:I a) {e:Env} (he:e=E a) (hout:∀ ex e,out ex e→R P m ex e K Q):G P m l e K Q:=by
 have key:∀ n a,μ a=n→I a→W P m l (E a) fun ex e=>out ex e:=by
  intro n
  induction n using Nat.strongRecOn with
  | _ n ih =>
   intro a hn hI
   subst hl
   refine y7 (hstep a hI _ (fun e a' h1 h2 h3=>?_) (fun i e h=>h) (fun e h=>h))
   refine Ci (js:=js) ?_
   rw[h1]
   exact ih _ (by omega) a' rfl h2
 subst he
 subst hl
 exact agA (fun ex e h=>hout ex e h) (key _ a rfl hI)
end
theorem Jr {P:Program} {g:Nat} {args:List AV} {res:AV} {outs:List (Nat × AV)} (i:Nat) (hi:args[i]?=some (.rsl 0 [])) (h:∀ t,Says P g (args.set i (.nsl t)) res outs):Says P g args res outs:=by
 intro w Φ σ cargs fa hrel hhr hinv
 obtain⟨cv,f1,f2,hcv,hv,hf,hset⟩:=bT i hrel hi
 simp only[VR] at hv
 obtain⟨⟨a,c,rfl,_,h0,_⟩,hz⟩:=hv
 have hn:VR P w Φ σ [] (.nsl a.isNone) (.slice a 0 c) (fun _=>0):=by
  simp only[VR]
  exact⟨⟨a,c,rfl,by simp,fun e=>(h0 e).2⟩,fun _=>by simp⟩
 have h2:=hset _ _ _ hn
 have e1:cargs.toList.set i (.slice a 0 c)=cargs.toList:=ed hcv
 rw[e1,show (fun b=>0+f2 b)=fa from funext fun b=>by have:=hf b;have:=hz b;omega] at h2
 refine h a.isNone w Φ σ cargs fa h2 ?_ hinv
 have key:∀ (l:List AV) (i:Nat),hrs l=false→hrs (l.set i (.nsl a.isNone))=false:=by
  intro l
  induction l with
  | nil=>intro i _;simp[hrs]
  | cons x xs ih =>
   intro i h
   simp only[hrs,Bool.or_eq_false_iff] at h
   cases i with
   | zero=>simp[hrs,hr,h.2]
   | succ i=>simp[hrs,h.1,ih i h.2]
 exact key _ _ hhr
def y8 (e:Env):List (Nat × AV)→Env
 | []=>e
 | (j,v)::us=>y8 (e.set j v) us
@[simp] theorem aDC {e:Env}:y8 e []=e:=rfl
@[simp] theorem aCa {e:Env} {j:Nat} {v:AV} {us:List (Nat × AV)}:y8 e ((j,v)::us)=y8 (e.set j v) us:=rfl
section
variable {P : Program} {m : Nat} {K : List Fr} {Q : Exit → Env → Prop}
theorem aZ {l b:ah} (hl:l=.loop b) (js:List Nat) (u:Nat→List (Nat × AV)) (I:Nat→Prop) (n:Nat) {e:Env} (hI:I 0) (he:e=y8 e (u 0))
  (hstep:∀ i,i<n→I i→∀ q:Exit→Env→Prop,(∀ e',js.foldl (fun e j=>e.set j .dead) e'=y8 e (u (i+1))→I (i+1)→q .normal e')→(∀ x e',R P m (.exit x) e' K Q→q (.exit x) e')→(∀ e',R P m .ret e' K Q→q .ret e')→G P m b (y8 e (u i)) [] q)
  (hlast:I n→∀ q:Exit→Env→Prop,(∀ x e',R P m (.exit x) e' K Q→q (.exit x) e')→(∀ e',R P m .ret e' K Q→q .ret e')→G P m b (y8 e (u n)) [] q):G P m l e K Q :=
 gY hl js (fun i=>y8 e (u i)) I n (fun ex e'=>R P m ex e' K Q) hstep hlast hI he (fun _ _ h=>h)
theorem LM {α:Type} {l b:ah} (hl:l=.loop b) (js:List Nat) (u:α→List (Nat × AV)) (μ:α→Nat) (I:α→Prop) (a:α) {e:Env} (hI:I a) (he:e=y8 e (u a))
  (hstep:∀ a,I a→∀ q:Exit→Env→Prop,(∀ e' a',js.foldl (fun e j=>e.set j .dead) e'=y8 e (u a')→I a'→μ a'<μ a→q .normal e')→(∀ x e',R P m (.exit x) e' K Q→q (.exit x) e')→(∀ e',R P m .ret e' K Q→q .ret e')→G P m b (y8 e (u a)) [] q):G P m l e K Q :=
 Oh hl js (fun a=>y8 e (u a)) μ I (fun ex e'=>R P m ex e' K Q) hstep a hI he (fun _ _ h=>h)
end
theorem EY {P:Program} {g:Nat} {args:List AV} {res res':AV} {outs:List (Nat × AV)} (hw:∀ (w:World) (Φ:Nat→Prop) (σ:Nat→Value) (cv:Value) (f:Cnt),VR P w Φ σ [] res cv f→∃ f',VR P w Φ σ [] res' cv f'∧∀ b,f' b≤f b) (hr':hr res'=false)
  (h:Says P g args res outs):Says P g args res' outs:=by
 intro w Φ σ cargs fa hrel hhr hinv
 refine (h w Φ σ cargs fa hrel hhr hinv).mono ?_
 rintro en w' ⟨cv,Φ',f1,f2,he,hext,h1,h2,h3,h4,h5,h6,h7,h8⟩
 obtain⟨f',k1,k2⟩:=hw w' Φ' σ cv f1 h3
 exact⟨cv,Φ',f',f2,he,hext,h1,h2,k1,hr',h5,h6,h7.le (fun b=>by have:=k2 b;show f' b+f2 b≤f1 b+f2 b;omega),fun b hb=>h8 b (by have:=k2 b;omega)⟩
theorem Qq {P:Program} {w:World} {Φ:Nat→Prop} {σ:Nat→Value} {ρ:List Value} {s e n:Nat} {cs:List AV} {cv:Value} {f:Cnt} (h:VR P w Φ σ ρ (.osl s e n cs) cv f):VR P w Φ σ ρ (.rsl n []) cv (fun _=>0):=by
 simp only[VR] at h ⊢
 obtain⟨_,_,xs,f1,ho,_⟩:=h
 obtain⟨a,c,e,h1,h2,_⟩:=bf ho
 exact⟨⟨a,c,e,h1,h2,by simp only[FC]⟩,by simp⟩
theorem Ig {P:Program} {w:World} {Φ:Nat→Prop} {σ:Nat→Value} {ρ:List Value} {n:Nat} {cs:List AV} {cv:Value} {f:Cnt} (h:VR P w Φ σ ρ (.rsl n cs) cv f):VR P w Φ σ ρ (.rsl n []) cv f:=by
 simp only[VR] at h ⊢
 obtain⟨⟨a,c,e,h1,h2,_⟩,hz⟩:=h
 exact⟨⟨a,c,e,h1,h2,by simp only[FC]⟩,hz⟩
theorem Ie {P:Program} {g:Nat} {args:List AV} {u u' v:AV} {outs:List (Nat × AV)} (hw:∀ (w:World) (Φ:Nat→Prop) (σ:Nat→Value) (cv:Value) (f:Cnt),VR P w Φ σ [] u cv f→∃ f',VR P w Φ σ [] u' cv f'∧∀ b,f' b≤f b) (hu:hr u'=false) (hv:hr v=false)
  (h:Says P g args (.tup [none,none] [u,v]) outs):Says P g args (.tup [none,none] [u',v]) outs:=by
 refine EY (fun w Φ σ cv f hvr=>?_) (by simp[hr,hrs,hu,hv]) h
 simp only[VR,CR] at hvr ⊢
 obtain⟨arr,rfl,hsh,v1,vs',f1,f2,e1,h1,⟨v2,vs2,f3,f4,e2,h3,⟨e3,z4⟩,hf2⟩,hf⟩:=hvr
 obtain⟨f',k1,k2⟩:=hw w Φ σ v1 f1 h1
 exact⟨fun b=>f' b+f2 b,⟨arr,rfl,hsh,v1,vs',f',f2,e1,k1,⟨v2,vs2,f3,f4,e2,h3,⟨e3,z4⟩,hf2⟩,fun _=>rfl⟩,fun b=>by have:=k2 b;have:=hf b;show f' b+f2 b≤f b;omega⟩
attribute [simp] mM Xj yP Qm skE skV
end Go.AM
namespace Go.AM.K
open Go Go.AM
abbrev T:Bool:=true
abbrev F:Bool:=false
abbrev o (x:SOp):bM:=⟨.op x,none,none⟩
abbrev a (j:Nat) (x:SOp):bM:=⟨.op x,some j,none⟩
abbrev g (s:Nat) (b:Bool) (x:SOp):bM:=⟨.op x,none,some (s,b)⟩
abbrev c (f:Nat) (xs:List Opd):bM:=⟨.call f xs false,none,none⟩
abbrev s (j:Nat):Opd:=.slot j
abbrev k (v:AV):Opd:=.con v
abbrev n (x:Int):Opd:=.con (.int .i64 x)
abbrev b (x:Bool):Opd:=.con (.bool x)
abbrev i (x:Int):AV:=.int .i64 x
abbrev m (j:Nat):bM:=⟨.op (.mv (.slot j)),none,none⟩
abbrev u (j i:Nat):bM:=⟨.op (.asg (.slot i)),some j,none⟩
abbrev f (k i:Nat):bM:=⟨.op (.faddr k (.slot i)),none,none⟩
abbrev l (k i:Nat):bM:=⟨.op (.load k false (.slot i)),none,none⟩
abbrev L (k i:Nat):bM:=⟨.op (.load k true (.slot i)),none,none⟩
abbrev e (i k:Nat):bM:=⟨.op (.ext i k),none,none⟩
abbrev q (a b:ah):ah:=.seq a b
abbrev r (D:List Nat) (x:List bM):ah:=.reg D x
abbrev d (x:List AV) (a b:Nat):AV:=.osl 0 a b x
end Go.AM.K
namespace Go.AM
open Go
section
variable {H : Type} {enc : TypeId × Value → H} {P : Program} {w : World} {Φ : Nat → Prop} {σ : Nat → Value} {ρ : List Value}
def Rd (P:Program) (w:World) (ds:List D) (cs:List Value):Prop:=∀ (Φ:Nat→Prop) (σ:Nat→Value) (ρ:List Value),(∀ b,b<w.heap.size→Φ b)→CR P w Φ σ ρ (Cs ds) cs (fun _=>0)
theorem aB7:Rd P w [] []:=fun _ _ _ _=>by simpa using CR_nil
theorem Dq {d:D} {v:Value} (h:∀ (Φ:Nat→Prop) (σ:Nat→Value) (ρ:List Value),(∀ b,b<w.heap.size→Φ b)→VR P w Φ σ ρ (C d) v (fun _=>0)):Rd P w [d] [v]:=fun Φ σ ρ hΦ=>by
 simpa using CR_cons (h Φ σ ρ hΦ) CR_nil
theorem PZ {a b:List D} {cs cs':List Value} (h:Rd P w a cs) (h':Rd P w b cs'):Rd P w (a++b) (cs++cs'):=fun Φ σ ρ hΦ=>by
 simpa using gm (h Φ σ ρ hΦ) (h' Φ σ ρ hΦ)
theorem E5 {a:List D} {cs:List Value} (h:Rd P w a cs):a.length=cs.length:=by
 have:=aV (h (fun _=>True) (fun _=>undef) [] (fun _ _=>trivial))
 simpa using this
theorem jU {a b:List D} {cs:List Value} {o s:Nat} (h:Rd P w a ((cs.drop o).take s)) (h':Rd P w b (cs.drop (o+s))):Rd P w (a++b) (cs.drop o):=by
 have:=PZ h h'
 rwa [←List.drop_drop,List.take_append_drop] at this
theorem GV {cs:List Value} {o:Nat} (h:cs.length=o):Rd P w [] (cs.drop o):=by
 rw[List.drop_eq_nil_of_le (by omega)];exact aB7
theorem GU {k:IntKind} {n:Int}:Rd P w [.I k n] [.int k n]:=Dq fun _ _ _ _=>by simp[VR]
theorem aPy {b:Bool}:Rd P w [.B b] [.bool b]:=Dq fun _ _ _ _=>by simp[VR]
theorem MR {s:ByteArray}:Rd P w [.S s.data.toList] [.string s]:=Dq fun _ _ _ _=>by simp[VR]
theorem P6 {cs ds:List AV} {a:Option Addr}:∀ {j:Nat},FC P w Φ σ ρ cs a j→FC P w Φ σ ρ ds a (j+cs.length)→FC P w Φ σ ρ (cs++ds) a j:=by
 induction cs with
 | nil=>intro j _ h;simpa using h
 | cons c cs ih =>
  intro j h h'
  simp only[FC,List.cons_append] at h ⊢
  exact⟨h.1,ih h.2 (by simpa [Nat.add_assoc,Nat.add_comm 1] using h')⟩
theorem aLA {ds:List D}:∀ {cs:List Value} {a:Addr} {j:Nat},CR P w Φ σ ρ (Cs ds) cs (fun _=>0)→(∀ b,b<w.heap.size→Φ b)→(∀ i u,cs[i]?=some u→w.cell? (a.add (j+i))=some u)→FC P w Φ σ ρ (Cs ds) (some a) j:=by
 induction ds with
 | nil=>intro cs a j _ _ _;simp[FC]
 | cons d ds ih =>
  intro cs a j h hΦ hc
  simp only[Gs,CR] at h
  obtain⟨v,vs,f1,f2,rfl,h1,h2,hf⟩:=h
  have e1:f1=fun _=>0:=funext fun b=>by have:0=f1 b+f2 b:=hf b;omega
  have e2:f2=fun _=>0:=funext fun b=>by have:0=f1 b+f2 b:=hf b;omega
  subst e1 e2
  simp only[Gs,FC]
  have h0:=hc 0 v rfl
  refine⟨⟨a,v,rfl,hΦ _ ?_,by simpa using h0,agZ,fun f hz=>?_⟩,ih h2 hΦ fun i u hi=>?_⟩
  ·unfold World.cell? at h0
   split at h0
   ·rename_i hb
    have:=(Array.getElem?_eq_some_iff.1 hb).1
    rwa [add_block] at this
   ·cases h0
  ·rw[show f=fun _=>0 from funext hz];exact h1
  ·have:=hc (i+1) u (by simpa using hi)
   rwa [show j+1+i=j+(i+1) by omega]
theorem Lj {a:Addr} {n:Nat} {cs:List Value} (h:w.cells? 0 a n=some cs):∀ i u,cs[i]?=some u→w.cell? (a.add i)=some u:=by
 intro i u hi
 obtain⟨_,h2,h3⟩:=World.cells?_some h
 have hl:i<cs.length:=(List.getElem?_eq_some_iff.1 hi).1
 rw[h3 i (by omega),hi]
theorem Js {T:Type} (td:T→List D) (ok:T→Prop) (k:Nat) (hk:∀ x,(td x).length=k) {a:Addr}:∀ (len:Nat),(∀ i,i<len→∃ cs,w.cells? 0 (a.add (i*k)) k=some cs∧∃ x,ok x∧Rd P w (td x) cs) →
  ∃ xs:List T,xs.length=len∧(∀ x∈xs,ok x)∧∀ (Φ:Nat→Prop) (σ:Nat→Value) (ρ:List Value),(∀ b,b<w.heap.size→Φ b)→FC P w Φ σ ρ (Cs (xs.flatMap td)) (some a) 0
 | 0,_=>⟨[],rfl,by simp,fun _ _ _ _=>by simp[FC]⟩
 | len+1,h=>by
  obtain⟨xs,h1,h2,h3⟩:=Js td ok k hk len fun i hi=>h i (by omega)
  obtain⟨cs,hc,x,hx,hr⟩:=h len (by omega)
  have hl:(xs.flatMap td).length=len*k:=by
   rw[List.length_flatMap]
   have:xs.map (fun x=>(td x).length)=List.replicate len k:=by
    apply List.ext_getElem
    ·simp[h1]
    ·intro j q1 q2;simp[hk]
   rw[this];simp
  refine⟨xs++[x],by simp[h1],fun y hy=>?_,fun Φ σ ρ hΦ=>?_⟩
  ·rcases List.mem_append.1 hy with h|h
   ·exact h2 y h
   ·simp at h;subst h;exact hx
  ·rw[List.flatMap_append,oQ]
   refine P6 (h3 Φ σ ρ hΦ) ?_
   simp only[List.flatMap_cons,List.flatMap_nil,List.append_nil]
   refine aLA (hr Φ σ ρ hΦ) hΦ fun i u hi=>?_
   have:=Lj hc i u hi
   rw[add_add] at this
   rw[P7,hl,Nat.zero_add]
   exact this
theorem wL {T:Type} (td:T→List D) (ok:T→Prop) (k e el:Nat) (hk:∀ x,(td x).length=k) {t:TypeId} (ht:P.underlying t=some (.slice e)) (hke:P.cellsOf e=k) {spare:Nat→Bool} {held:Bool} {fuel:Nat} {cs:List Value} {x:DataW H × List MemPlace}
  (h:DataW.trod enc P w 0 spare held fuel t cs=some x) (hT:∀ n,n<fuel→∀ cs x,DataW.trod enc P w 0 spare held n e cs=some x→∃ y,ok y∧Rd P w (td y) cs) :
  ∃ xs:List T,xs.length≤maxLen∧(∀ x∈xs,ok x)∧Rd P w [.L el xs.length (xs.flatMap td)] cs:=by
 rcases DataW.trod_slice ht h with ⟨rfl,_⟩|⟨a,len,cap,elems,rest,n,rfl,rfl,_,_,hlc,hcm,hel,helems,_,_⟩
 ·refine⟨[],by simp[maxLen],by simp,Dq fun Φ σ ρ hΦ=>?_⟩
  simp only[C_L,VR]
  exact⟨⟨none,0,rfl,Nat.le_refl _,fun _=>⟨rfl,rfl⟩,by simp[FC]⟩,fun _=>trivial⟩
 ·obtain⟨xs,h1,h2,h3⟩:=Js (P:=P) td ok k hk (a:=a) (w:=w) len fun i hi=>by
   have:=helems i hi
   rw[hke,List.getElem?_eq_getElem (by omega),Option.bind_eq_some_iff] at this
   obtain⟨cs,hc,hr⟩:=this
   exact⟨cs,hc,hT n (by omega) cs _ hr⟩
  refine⟨xs,by omega,h2,Dq fun Φ σ ρ hΦ=>?_⟩
  simp only[C_L,VR]
  refine⟨⟨some a,cap,by rw[h1],by omega,by simp,h3 Φ σ ρ hΦ⟩,by simp⟩
end
end Go.AM
namespace Go.AM
open Go Go.ChangeShapes Go.WideShapes Go.ChangeAt Go.RowKit
def yg (P:Program):Bool:=(List.range P.types.size).all fun t=>match P.underlying t with
 | some (.slice e)=>decide (0<P.cellsOf e)
 | _=>true
section
variable {H : Type} {enc : TypeId × Value → H} {P : Program}
theorem Ht {W W':World} (h:Ext W W' (fun _=>0)) (may:MemPlace→Prop):W.keptBut W' may:=by
 refine⟨h.os,h.output,fun i hi=>?_⟩
 rw[h.block i hi rfl]
 exact (World.keptBut_refl W may).2.2 i hi
theorem KH {W W':World} (h:Ext W W' (fun _=>0)) {a:Addr} (ha:a.block<W.heap.size):W'.frozen? a=W.frozen? a:=by
 simp only[World.frozen?,h.block a.block ha rfl]
theorem JR {W W':World} (h:Ext W W' (fun _=>0)) {p:MemPlace} (hp:p.block<W.heap.size):W.sameAt W' p:=by
 cases p with
 | cell b off =>
  simp only[MemPlace.block] at hp
  simp only[World.sameAt,World.cell?,h.block b hp rfl]
 | map b =>
  simp only[MemPlace.block] at hp
  simp only[World.sameAt,h.block b hp rfl]
theorem x9 {W W':World} (hl:laidOutB P=true) (hm:mapsRowed P=true) (hz:yg P=true) (hext:Ext W W' (fun _=>0)) {sp:Nat→Bool}:∀ {ts:List TypeId} {vs:List Value} {ds:List (DataW H)} {ps:List MemPlace},
  (∀ t∈ts,t<P.types.size)→DataW.TrodAll enc P W 0 (fun _=>true) true ts vs ds ps→(∀ p∈ps,sp p.block=true)→DataW.TrodAll enc P W' 0 sp true ts vs ds ps
 | [],vs,ds,ps,_,h,_=>by
  obtain⟨rfl,rfl,rfl⟩:=trodAll_nil h
  exact trodAll_mk0
 | t::ts,vs,ds,ps,ht,h,hs=>by
  obtain⟨v,vs1,d,ds1,a,b,rfl,rfl,rfl,⟨n,h1⟩,h2⟩:=trodAll_cons h
  refine trodAll_cons_mk ⟨n,?_⟩ (x9 hl hm hz hext (fun t h=>ht t (by simp[h])) h2 (fun p hp=>hs p (by simp[hp])))
  refine DataW.trod_stays (T:=(· < P.types.size)) (kids_rows hl hm) (fun {t e} hT hu=>?_) (fun h=>by cases h) (ht t (by simp)) h1 (fun p hp=>JR hext (DataW.trod_lt _ _ _ _ h1 p hp)) (fun p hp=>hs p (by simp[hp]))
  have:=List.all_eq_true.1 hz t (List.mem_range.2 hT)
  rw[hu] at this
  simpa using this
theorem aNf {w:World} (h:Lib.TabIs P w "internal/strconv.uint64pow10" .u64 Lib.pow10Tab):Tabs P w (fun b=>b<w.heap.size):=by
 intro p hp g hg
 simp only[zn,List.mem_singleton] at hp
 subst hp
 refine⟨?_,h⟩
 unfold Lib.TabIs World.var? at h
 rw[hg] at h
 simp only[Option.bind_some] at h
 show g<w.heap.size
 rcases Nat.lt_or_ge g w.heap.size with h'|h'
 ·exact h'
 ·rw[Array.getElem?_eq_none h'] at h;cases h
theorem yx {f:Nat} {fn:Func} {s:ChangeSpec} {apart fresh handsOn again:Bool} {tb:TypeId} {W:World} {args:Array Value} {ds gs:List (DataW H)} {before:List MemPlace} {avs:List AV}
  (hl:laidOutB P=true) (hm:mapsRowed P=true) (hz:yg P=true) (hts:∀ t∈fn.params.toList,t<P.types.size) (hvars:s.vars=[]) (hrt:fn.resultTypes=#[tb]) (htb:P.underlying tb=some .bool)
  (hW:DataW.Whole enc P fn.params.toList s.vars apart W args.toList ds gs before) (hfn:s.fn H (ds++[])={ results:=[.lit (.bool true)],args:=ds })
  (htab:Tabs P W (fun b=>b<W.heap.size)) (hcr:CR P W (fun b=>b<W.heap.size) (fun _=>undef) [] avs args.toList (fun _=>0)) (hhr:hrs avs=false) (hsay:Says P f avs (.bool true) []) :
  Calls P f args W fun e W'=>∃ v,e=.returned v∧s.post enc P fn apart fresh handsOn again W args v W':=by
 refine (hsay W _ _ args _ hcr hhr ⟨fun b=>by simp,fun b h=>by simp at h,fun b h=>h,fun b _=>rfl,htab⟩).mono ?_
 rintro en W' ⟨cv,Φ',f1,f2,rfl,hext,_,_,hv,_⟩
 obtain rfl:=oh hv
 have hW0:=hW
 obtain⟨p,q,hA,hV,rfl,hfz,hnd⟩:=hW
 rw[hvars] at hV
 obtain⟨rfl,rfl⟩:=trodVars_none hV
 have hold:∀ x∈p++[],(fun b=>decide (b<W.heap.size)) x.block=true:=fun x hx=>by simpa using hW0.lt x hx
 have hargs:∀ sp:Nat→Bool,(∀ x∈p++[],sp x.block=true)→DataW.TrodAll enc P W' 0 sp true fn.params.toList args.toList (s.fn H (ds++[])).args (p++[]):=fun sp hs=>by
  rw[hfn]
  simp only[List.append_nil] at hs ⊢
  exact x9 hl hm hz hext hts hA hs
 have hres:∀ (b:Nat) (sp:Nat→Bool) (hd:Bool),DataW.TrodAll enc P W' b sp hd fn.resultTypes.toList ((Value.bool true).resultList fn.resultTypes.size) (s.fn H (ds++[])).results []:=fun b sp hd=>by
  rw[hfn,hrt]
  exact trodAll_cons_mk (shut_bool htb _) trodAll_mk0
 have hvs:∀ sp:Nat→Bool,DataW.TrodVars enc P W' sp s.vars (s.fn H (ds++[])).vars []:=fun sp=>by
  rw[hvars,hfn];rfl
 refine⟨_,rfl,ds,[],p++[],[],p++[],[],hW0,hres _ _ _,hargs _ hold,hvs _,World.keptBut_mono (fun x hx=>⟨hx,.inr (.inl hx)⟩) (Ht hext _),fun _=>?_⟩
 refine⟨ok_one hrt rfl (okWide_bool_mk htb _),_,_,([]++(p++[]))++[],⟨[]++(p++[]),[],trodAll_append (hargs _ (fun _ _=>rfl)) (hres _ _ _),hvs _,rfl,?_,?_⟩,?_⟩
 ·intro b off hp
  rw[KH hext (by have:=hW0.lt (.cell b off) (by simpa using hp);simpa [MemPlace.block] using this)]
  exact hfz b off (by simpa using hp)
 ·intro ha
  simpa using hnd ha
 ·intro x hx _
  simpa using hx
theorem EW {w:World} {ds:List D} {v:Value} (h:Rd P w ds v.cells.toList) (hne:ds.length≠1) {Φ:Nat→Prop} {σ:Nat→Value} {ρ:List Value} (hΦ:∀ b,b<w.heap.size→Φ b):VR P w Φ σ ρ (.agg (Cs ds)) v (fun _=>0):=by
 have hl:=E5 h
 cases v with
 | agg arr=>simp only[VR];exact⟨arr,rfl,h Φ σ ρ hΦ⟩
 | _=>simp[Value.cells] at hl;exact absurd hl hne
theorem aga {ds:List D}:hrs (Cs ds)=false:=by
 induction ds with
 | nil=>rfl
 | cons d ds ih=>cases d<;>simp[hrs,hr,ih]
end
end Go.AM
