import Derived.Test.YtafglhcclmbnbaaGreatAmCode
import Derived.Orders
import Derived.LoopN
set_option linter.unusedSimpArgs false
set_option linter.unusedVariables false
set_option linter.unusedSectionVars false
namespace Go.AM
open Go
def jD:AV→Bool
 | .dead=>true
 | _=>false
theorem aci {v:AV}:jD v=true↔v=.dead:=by cases v<;>simp[jD]
def Le (e e':Env):Prop:=∀ (i:Nat) (v:AV),e[i]?=some v→v≠AV.dead→e'[i]?=some v
theorem auo {j:Nat}:lzv j .dead=.dead:=rfl
theorem dH {e e':Env} (h:Le e e') {x:Opd} {v:AV} (hx:ev e x=some v) (hv:v≠.dead):ev e' x=some v:=by
 cases x with
 | con u=>simpa [ev] using hx
 | slot j =>
  simp only[ev] at hx ⊢
  split at hx
  ·rename_i u hu
   simp at hx
   have:u≠.dead:=by rintro rfl;exact hv (by rw[←hx];rfl)
   rw[h j u hu this]
   simpa using hx
  ·cases hx
theorem jc {e e':Env} (h:Le e e') {r:Nat} {p:List Nat} {row:List AV} (hx:jv e r p=some row):jv e' r p=some row:=by
 unfold jv at hx ⊢
 split at hx
 ·cases hx
 ·cases hx
 ·rename_i v h1 h2 hv
  rw[h r v hv h1]
  split
  ·rename_i h3;cases h3;exact (h1 rfl).elim
  ·rename_i h3;cases h3;exact (h2 _ rfl).elim
  ·rename_i v' _ _ h3;cases h3;exact hx
  ·rename_i h3;cases h3
 ·cases hx
theorem Di {e e':Env} (h:Le e e') {st:Bool} {v:AV} {n:Nat} (hx:ry e st v=some n):ry e' st v=some n:=by
 unfold ry at hx ⊢
 split at hx
 ·exact hx
 ·exact hx
 ·exact hx
 ·split at hx
  ·rename_i row hr
   rw[jc h hr];exact hx
  ·cases hx
 ·cases hx
theorem Gh {e e':Env} (h:Le e e'):∀ {xs:List Opd} {vs:List AV},evs e xs=some vs→(∀ v∈vs,v≠.dead)→evs e' xs=some vs
 | [],vs,hx,_=>by simpa [evs] using hx
 | x::xs,vs,hx,hv=>by
  simp only[evs] at hx ⊢
  split at hx
  ·rename_i v h1
   split at hx
   ·rename_i vs' h2
    simp at hx;subst hx
    rw[dH h h1 (hv _ (by simp)),Gh h h2 (fun v hm=>hv v (by simp[hm]))]
   ·cases hx
  ·cases hx
theorem qP {e e':Env} (h:Le e e'):∀ {ps:List (Nat × Nat × Opd)} {cs cs':List AV},rM e cs ps=some cs'→rM e' cs ps=some cs'
 | [],cs,cs',hx=>by simpa [rM] using hx
 | (off,sz,x)::ps,cs,cs',hx=>by
  simp only[rM] at hx ⊢
  split at hx
  ·cases hx
  ·cases hx
  ·rename_i v h1 h2 hv
   have hd:v≠.dead:=fun hd=>h1 hd
   rw[dH h hv hd]
   split
   ·rename_i h3;cases h3;exact (h1 rfl).elim
   ·rename_i h3;cases h3;exact (h2 _ rfl).elim
   ·rename_i v' _ _ h3;cases h3
    split at hx
    ·rename_i hc;rw[if_pos hc];exact qP h hx
    ·cases hx
   ·rename_i h3;cases h3
  ·cases hx
theorem nM {e e':Env} (h:Le e e') {d:Nat} {x:Option Opd} {i:Int} (hx:zD e d x=some i):zD e' d x=some i:=by
 cases x with
 | none=>simpa [zD] using hx
 | some x =>
  simp only[zD] at hx ⊢
  split at hx
  ·rename_i h1;rw[dH h h1 (by simp)];exact hx
  ·cases hx
def BA:SOp→Bool
 | .mv _=>true
 | .pick _ _ _=>true
 | .mk _ _=>true
 | .build _ _=>true
 | .load _ _ _=>true
 | .bin _ _ _=>true
 | .beq _ _ _=>true
 | .not _=>true
 | .neg _=>true
 | .conv _ _=>true
 | .mkf _ _=>true
 | .slice _ _ _ _ _=>true
 | .faddr _ _=>true
 | .iaddr _ _ _=>true
 | .idx _ _=>true
 | .len _ _=>true
 | .minmax _ _ _=>true
 | .ext _ _=>true
 | .mvt _=>true
 | .aidx _ _ _ _ _=>true
 | .b2s _=>true
 | .isnil _ _=>true
 | .pnil _ _=>true
 | .sbeq _ _ _ _=>true
 | .nck _=>true
 | .fld _ _ _ _=>true
 | _=>false
theorem NG {e e':Env} (h:Le e e') {s:SOp} (hp:BA s=true) {v:AV} {e1:Env} (hx:opx e s=some (v,e1)) (hv:v≠.dead):opx e' s=some (v,e'):=by
 cases s with
 | mv x =>
  simp only[opx] at hx ⊢
  split at hx
  ·rename_i u hu
   simp at hx;obtain⟨rfl,rfl⟩:=hx
   rw[dH h hu hv]
  ·cases hx
 | pick c a b =>
  simp only[opx] at hx ⊢
  split at hx
  ·rename_i t hc
   rw[dH h hc (by simp)]
   split at hx
   ·rename_i u hu
    simp at hx;obtain⟨rfl,rfl⟩:=hx
    simp only[dH h hu hv]
   ·cases hx
  ·cases hx
 | mk t z=>simp[opx] at hx ⊢;exact hx.1
 | build z ps =>
  simp only[opx] at hx ⊢
  split at hx
  ·rename_i cs hc
   simp at hx;obtain⟨rfl,rfl⟩:=hx
   rw[qP h hc]
  ·cases hx
 | load sz ag x =>
  simp only[opx] at hx ⊢
  split at hx
  ·rename_i cs hc
   rw[dH h hc (by simp)]
   simp only
   split at hx
   ·rename_i h1;rw[if_pos h1]
    split at hx
    ·rename_i h2;simp at hx;obtain⟨rfl,rfl⟩:=hx;simp only[h2]
    ·cases hx
   ·cases hx
  ·rename_i r p o hc
   rw[dH h hc (by simp)]
   simp only
   split at hx
   ·rename_i row hr
    rw[jc h hr]
    simp only
    split at hx
    ·rename_i h1;rw[if_pos h1]
     split at hx
     ·rename_i h2;simp at hx;obtain⟨rfl,rfl⟩:=hx;simp only[h2]
     ·cases hx
    ·cases hx
   ·cases hx
  ·cases hx
 | bin op x y =>
  simp only[opx] at hx ⊢
  split at hx
  ·rename_i a b ha hb
   split at hx
   ·rename_i u hu
    simp at hx;obtain⟨rfl,rfl⟩:=hx
    have h1:a≠.dead:=by rintro rfl;simp[Iw] at hu
    have h2:b≠.dead:=by rintro rfl;cases a<;>simp[Iw] at hu
    rw[dH h ha h1,dH h hb h2]
    simp only[hu]
   ·cases hx
  ·cases hx
 | beq ne x y =>
  simp only[opx] at hx ⊢
  split at hx
  ·rename_i a b ha hb
   rw[dH h ha (by simp),dH h hb (by simp)]
   simp at hx ⊢;exact hx.1
  ·cases hx
 | not x =>
  simp only[opx] at hx ⊢
  split at hx
  ·rename_i b hb;rw[dH h hb (by simp)];simp at hx ⊢;exact hx.1
  ·cases hx
 | neg x =>
  simp only[opx] at hx ⊢
  split at hx
  ·rename_i b hb;rw[dH h hb (by simp)];simp at hx ⊢;exact hx.1
  ·cases hx
 | conv k x =>
  simp only[opx] at hx ⊢
  split at hx
  ·rename_i b hb;rw[dH h hb (by simp)];simp at hx ⊢;exact hx.1
  ·cases hx
 | mkf f caps =>
  simp only[opx] at hx ⊢
  split at hx
  ·rename_i vs hvs
   split at hx
   ·rename_i hc
    rw[Gh h hvs (fun v hm=>by
     have:=List.all_eq_true.1 hc v hm
     rintro rfl;simp[oz,eU,gY] at this)]
    simp[hc] at hx ⊢;exact hx.1
   ·cases hx
  ·cases hx
 | slice st sz x lo hi =>
  simp only[opx] at hx ⊢
  split at hx
  ·rename_i n cs hc
   rw[dH h hc (by simp)]
   simp only
   split at hx
   ·rename_i l hh h1 h2
    rw[nM h h1,nM h h2]
    simp only
    split at hx
    ·rename_i h3;rw[if_pos h3];simp at hx ⊢;exact hx.1
    ·cases hx
   ·cases hx
  ·rename_i r p o hc
   rw[dH h hc (by simp)]
   simp only
   split at hx
   ·rename_i row hrow
    rw[jc h hrow]
    split at hx
    ·rename_i s0 t n cs hro
     simp only[hro]
     split at hx
     ·rename_i l hh h1 h2
      rw[nM h h1,nM h h2]
      simp only
      split at hx
      ·rename_i h3;rw[if_pos h3];simp at hx ⊢;exact hx.1
      ·cases hx
     ·cases hx
    ·cases hx
   ·cases hx
  ·rename_i s hc
   rw[dH h hc (by simp)]
   simp only
   split at hx
   ·rename_i l hh h1 h2
    rw[nM h h1,nM h h2]
    simp only
    split at hx
    ·rename_i h3;rw[if_pos h3];simp at hx ⊢;exact hx.1
    ·cases hx
   ·cases hx
  ·cases hx
 | nck x =>
  simp only[opx] at hx ⊢
  split at hx
  ·rename_i cs hc
   rw[dH h hc (by simp)]
   simp at hx ⊢;exact hx.1
  ·rename_i r p o hc
   rw[dH h hc (by simp)]
   simp at hx ⊢;exact hx.1
  ·cases hx
 | fld off sz ag x =>
  simp only[opx] at hx ⊢
  split at hx
  ·rename_i cs hc
   rw[dH h hc (by simp)]
   simp only
   split at hx
   ·rename_i h1
    rw[if_pos h1]
    split at hx
    ·rename_i u hm
     simp at hx
     rw[hx.1]
    ·cases hx
   ·cases hx
  ·cases hx
 | faddr off x =>
  simp only[opx] at hx ⊢
  split at hx
  ·rename_i cs hc
   rw[dH h hc (by simp)]
   simp only
   split at hx
   ·rename_i h1;rw[if_pos h1];simp at hx ⊢;exact hx.1
   ·cases hx
  ·rename_i r p o hc
   rw[dH h hc (by simp)]
   simp at hx ⊢;exact hx.1
  ·cases hx
 | iaddr sz x i =>
  simp only[opx] at hx ⊢
  split at hx
  ·rename_i n cs _ i' hc hi
   rw[dH h hc (by simp),dH h hi (by simp)]
   simp only
   split at hx
   ·rename_i h1;rw[if_pos h1];simp at hx ⊢;exact hx.1
   ·cases hx
  ·rename_i r p o _ i' hc hi
   rw[dH h hc (by simp),dH h hi (by simp)]
   simp only
   split at hx
   ·rename_i row hr
    rw[jc h hr]
    simp only
    split at hx
    ·rename_i h2
     split at hx
     ·rename_i h1;simp only[h2,if_pos h1];simp at hx ⊢;exact hx.1
     ·cases hx
    ·cases hx
   ·cases hx
  ·cases hx
 | idx x i =>
  simp only[opx] at hx ⊢
  split at hx
  ·rename_i s _ i' hc hi
   rw[dH h hc (by simp),dH h hi (by simp)]
   simp only
   split at hx
   ·rename_i h1;rw[if_pos h1];simp at hx ⊢;exact hx.1
   ·cases hx
  ·cases hx
 | len st x =>
  simp only[opx] at hx ⊢
  split at hx
  ·rename_i u hu
   split at hx
   ·rename_i n hn
    have:u≠.dead:=by rintro rfl;cases st<;>simp[ry] at hn
    rw[dH h hu this]
    simp only[Di h hn]
    simp at hx ⊢;exact hx.1
   ·cases hx
  ·cases hx
 | minmax mx x y =>
  simp only[opx] at hx ⊢
  split at hx
  ·rename_i k a k' b h1 h2
   rw[dH h h1 (by simp),dH h h2 (by simp)]
   simp only
   split at hx
   ·rename_i h3;rw[if_pos h3];simp at hx ⊢;exact hx.1
   ·cases hx
  ·cases hx
 | mvt j =>
  simp only[opx] at hx ⊢
  split at hx
  ·rename_i sh cs hj
   rw[h j _ hj (by simp)]
   simp at hx ⊢;exact hx.1
  ·cases hx
 | ext j ix =>
  simp only[opx] at hx ⊢
  split at hx
  ·rename_i sh cs hj
   rw[h j _ hj (by simp)]
   simp only
   split at hx
   ·rename_i h1
    split at hx
    ·rename_i c hc;simp at hx ⊢;exact hx.1
    ·cases hx
   ·rename_i n h1
    split at hx
    ·rename_i hc;rw[if_pos hc];simp at hx ⊢;exact hx.1
    ·cases hx
   ·cases hx
  ·cases hx
 | aidx sz ag n x i =>
  simp only[opx] at hx ⊢
  split at hx
  ·rename_i cs k i h1 h2
   rw[dH h h1 (by simp),dH h h2 (by simp)]
   simp only
   split at hx
   ·rename_i h3
    rw[if_pos h3]
    split at hx
    ·rename_i u hu;simp at hx ⊢;exact hx.1
    ·cases hx
   ·cases hx
  ·cases hx
 | sbeq ne ks x y =>
  simp only[opx] at hx ⊢
  split at hx
  ·rename_i cs ds h1 h2
   rw[dH h h1 (by simp),dH h h2 (by simp)]
   split at hx
   ·rename_i b hb
    simp only[hb]
    simp at hx ⊢;exact hx.1
   ·cases hx
  ·cases hx
 | pnil ne x =>
  simp only[opx] at hx ⊢
  split at hx
  ·rename_i u hu
   split at hx
   ·rename_i b hn
    have:u≠.dead:=by rintro rfl;simp[pnX] at hn
    rw[dH h hu this]
    simp only[hn]
    simp at hx ⊢;exact hx.1
   ·cases hx
  ·cases hx
 | isnil ne x =>
  simp only[opx] at hx ⊢
  split at hx
  ·rename_i u hu
   split at hx
   ·rename_i b hn
    have:u≠.dead:=by rintro rfl;simp[MN,ry] at hn
    rw[dH h hu this]
    have hn':MN e' u=some b:=by
     revert hn
     cases u<;>simp only[MN]<;>first|exact id|(split<;>rename_i hm<;>first|(intro hn;rw[Di h hm];exact hn)|(intro hn;cases hn))
    simp only[hn']
    simp at hx ⊢;exact hx.1
   ·cases hx
  ·cases hx
 | b2s x =>
  simp only[opx] at hx ⊢
  split at hx
  ·rename_i n cs h1
   rw[dH h h1 (by simp)]
   simp only
   split at hx
   ·rename_i l hl
    split at hx
    ·rename_i h3;rw[if_pos h3];simp at hx ⊢;exact hx.1
    ·cases hx
   ·cases hx
  ·rename_i r p o h1
   rw[dH h h1 (by simp)]
   simp only
   split at hx
   ·rename_i row hrow
    rw[jc h hrow]
    simp only
    split at hx
    ·rename_i et st n cs hro
     split at hx
     ·rename_i l hl
      split at hx
      ·rename_i h3;simp only[hl,if_pos h3];simp at hx ⊢;exact hx.1
      ·cases hx
     ·cases hx
    ·cases hx
   ·cases hx
  ·cases hx
 | _=>simp[BA] at hp
theorem zi {e e':Env} (h:Le e e') {c:AV} {r:AV × Bool} (hx:gZ e c=some r):gZ e' c=some r:=by
 cases c with
 | ps r p o =>
  simp only[gZ] at hx ⊢
  split at hx
  ·rename_i row hr;rw[jc h hr];exact hx
  ·cases hx
 | pp r p o =>
  simp only[gZ] at hx ⊢
  split at hx
  ·cases hx
  ·rename_i hp
   rw[if_neg hp]
   split at hx
   ·rename_i row hr;rw[jc h hr];exact hx
   ·cases hx
 | osl s t n cs=>cases n<;>cases cs<;>exact hx
 | _=>exact hx
theorem rX {e e':Env} (h:Le e e'):∀ {cs:List AV} {r:List AV × Bool},iV e cs=some r→iV e' cs=some r
 | [],r,hx=>hx
 | c::cs,r,hx=>by
  simp only[iV] at hx ⊢
  split at hx
  ·rename_i c' b h1
   rw[zi h h1]
   split at hx
   ·rename_i h2;rw[rX h h2];exact hx
   ·cases hx
  ·cases hx
theorem Hf {e e':Env} (h:Le e e') {c:AV} {r:AV × Bool} (hx:ny e c=some r):ny e' c=some r:=by
 cases c with
 | agg cs =>
  simp only[ny] at hx ⊢
  split at hx
  ·rename_i h1;rw[rX h h1];exact hx
  ·cases hx
 | pf r p o =>
  simp only[ny] at hx ⊢
  split at hx
  ·rename_i hpo
   rw[if_pos hpo]
   split at hx
   ·rename_i g caps hr
    rw[h _ _ hr (by simp)]
    simp only
    split at hx
    ·rename_i hc
     rw[if_pos hc]
     split at hx
     ·rename_i h1;rw[rX h h1];exact hx
     ·cases hx
    ·cases hx
   ·cases hx
  ·cases hx
 | _=>simp only[ny] at hx ⊢;exact zi h hx
theorem uU {e e':Env} (h:Le e e'):∀ {xs:List Opd} {r:List AV × Bool},kU e xs=some r→kU e' xs=some r
 | [],r,hx=>hx
 | x::xs,r,hx=>by
  simp only[kU] at hx ⊢
  split at hx
  ·rename_i v hv
   split at hx
   ·rename_i v' b h1
    have:v≠.dead:=by rintro rfl;simp[ny,gZ,gY] at h1
    rw[dH h hv this]
    simp only[Hf h h1]
    split at hx
    ·rename_i h2;rw[uU h h2];exact hx
    ·cases hx
   ·cases hx
  ·cases hx
theorem Ec {e e':Env} (h:Le e e') {x:Opd} {r:Nat × List AV} (hx:ku e x=some r):ku e' x=some r:=by
 unfold ku at hx ⊢
 split at hx
 ·rename_i g hv
  rw[dH h hv (by simp)];exact hx
 ·rename_i r p o hv
  rw[dH h hv (by simp)]
  simp only
  split at hx
  ·rename_i hpo
   rw[if_pos hpo]
   split at hx
   ·rename_i g caps hr
    rw[h _ _ hr (by simp)]
    exact hx
   ·cases hx
  ·cases hx
 ·cases hx
def Frm (e e1 e' e1':Env):Prop:=∀ i:Nat,(e1[i]?=e[i]?∧e1'[i]?=e'[i]?)∨(e1[i]?=e1'[i]?∧e[i]?=e'[i]?)
theorem Frm.trans {e e1 e2 e' e1' e2':Env} (h:Frm e e1 e' e1') (h':Frm e1 e2 e1' e2'):Frm e e2 e' e2':=fun i=>by
 rcases h i with ⟨a,b⟩|⟨a,b⟩<;>rcases h' i with ⟨c,d⟩|⟨c,d⟩
 ·exact .inl ⟨c.trans a,d.trans b⟩
 ·exact .inr ⟨c,by rw[←a,d,b]⟩
 ·exact .inr ⟨by rw[c,d,a],b⟩
 ·exact .inr ⟨c,b⟩
theorem xZ {e e':Env} (h:Le e e') {r:Nat} {p:List Nat} {row row2:List AV} (hr:jv e r p=some row):Le (dY e r p row2) (dY e' r p row2)∧Frm e (dY e r p row2) e' (dY e' r p row2):=by
 obtain⟨v,hv,hd,hg,_⟩:=pI hr
 have hv':=h r v hv hd
 have e1:dY e r p row2=e.set r (jy v (setRow (cellsOf v) p row2)):=by unfold dY;rw[hv]
 have e2:dY e' r p row2=e'.set r (jy v (setRow (cellsOf v) p row2)):=by unfold dY;rw[hv']
 have l1:=(List.getElem?_eq_some_iff.1 hv).1
 have l2:=(List.getElem?_eq_some_iff.1 hv').1
 rw[e1,e2]
 refine⟨fun i u hi hu=>?_,fun i=>?_⟩
 ·by_cases hir:r=i
  ·subst hir
   rw[List.getElem?_set_self l1] at hi
   rw[List.getElem?_set_self l2];exact hi
  ·rw[List.getElem?_set_ne hir] at hi ⊢
   exact h i u hi hu
 ·by_cases hir:r=i
  ·subst hir
   exact .inr ⟨by rw[List.getElem?_set_self l1,List.getElem?_set_self l2],by rw[hv,hv']⟩
  ·exact .inl ⟨by rw[List.getElem?_set_ne hir],by rw[List.getElem?_set_ne hir]⟩
theorem Ci {e e' e1:Env} (h:Le e e') {c c':AV} (hx:takeC e c=some (c',e1)):∃ e1',takeC e' c=some (c',e1')∧Le e1 e1'∧Frm e e1 e' e1':=by
 have same:takeC e c=some (c',e)→takeC e' c=some (c',e')→e1=e→∃ e1',takeC e' c=some (c',e1')∧Le e1 e1'∧Frm e e1 e' e1':=by
  rintro _ h2 rfl
  exact⟨e',h2,h,fun i=>.inl ⟨rfl,rfl⟩⟩
 cases c with
 | ps r p o =>
  simp only[takeC] at hx ⊢
  split at hx
  ·rename_i row hrow
   split at hx
   ·rename_i s t n cs hro
    simp only[Option.some.injEq,Prod.mk.injEq] at hx
    obtain⟨rfl,rfl⟩:=hx
    obtain⟨k1,k2⟩:=xZ (row2:=row.set o (.gone 0)) h hrow
    exact⟨_,by rw[jc h hrow];simp only[hro],k1,k2⟩
   ·cases hx
  ·cases hx
 | pp r p o =>
  simp only[takeC] at hx ⊢
  split at hx
  ·rename_i ho
   split at hx
   ·rename_i k hk
    split at hx
    ·rename_i row hrow
     split at hx
     ·rename_i s t cs hro
      simp only[Option.some.injEq,Prod.mk.injEq] at hx
      obtain⟨rfl,rfl⟩:=hx
      obtain⟨k1,k2⟩:=xZ (row2:=row.set k (.gone 0)) h hrow
      exact⟨_,by simp only[if_pos ho,jc h hrow,hro],k1,k2⟩
     ·cases hx
    ·cases hx
   ·cases hx
  ·cases hx
 | int k n=>simp[takeC] at hx;exact same (by simp[takeC,hx.1]) (by simp[takeC,hx.1]) hx.2.symm
 | bool b=>simp[takeC] at hx;exact same (by simp[takeC,hx.1]) (by simp[takeC,hx.1]) hx.2.symm
 | str s=>simp[takeC] at hx;exact same (by simp[takeC,hx.1]) (by simp[takeC,hx.1]) hx.2.symm
 | nilf=>simp[takeC] at hx;exact same (by simp[takeC,hx.1]) (by simp[takeC,hx.1]) hx.2.symm
 | nilp=>simp[takeC] at hx;exact same (by simp[takeC,hx.1]) (by simp[takeC,hx.1]) hx.2.symm
 | nsl t=>simp[takeC] at hx;exact same (by simp[takeC,hx.1]) (by simp[takeC,hx.1]) hx.2.symm
 | rsl n cs=>simp[takeC] at hx;exact same (by simp[takeC,hx.1]) (by simp[takeC,hx.1]) hx.2.symm
 | rp cs=>simp[takeC] at hx;exact same (by simp[takeC,hx.1]) (by simp[takeC,hx.1]) hx.2.symm
 | fn g cs=>cases cs with
  | nil=>simp[takeC] at hx;exact same (by simp[takeC,hx.1]) (by simp[takeC,hx.1]) hx.2.symm
  | cons c cs=>simp[takeC] at hx
 | osl s t n cs=>cases n with
  | zero=>cases cs with
   | nil=>simp[takeC] at hx;obtain⟨rfl,rfl⟩:=hx;exact same (by simp[takeC]) (by simp[takeC]) rfl
   | cons c cs=>simp[takeC] at hx
  | succ n=>simp[takeC] at hx
 | _=>simp[takeC] at hx
theorem nV:∀ {cs cs':List AV} {e e' e1:Env},Le e e'→dQ e cs=some (cs',e1)→∃ e1',dQ e' cs=some (cs',e1')∧Le e1 e1'∧Frm e e1 e' e1'
 | [],cs',e,e',e1,h,hx=>by
  simp[dQ] at hx
  obtain⟨rfl,rfl⟩:=hx
  exact⟨e',by simp[dQ],h,fun i=>.inl ⟨rfl,rfl⟩⟩
 | c::cs,cs',e,e',e1,h,hx=>by
  simp only[dQ] at hx ⊢
  split at hx
  ·rename_i c1 e2 h1
   split at hx
   ·rename_i cs1 e3 h2
    simp only[Option.some.injEq,Prod.mk.injEq] at hx
    obtain⟨rfl,rfl⟩:=hx
    obtain⟨a1,a2,a3,a4⟩:=Ci h h1
    obtain⟨b1,b2,b3,b4⟩:=nV a3 h2
    exact⟨b1,by rw[a2];simp only[b2],b3,a4.trans b4⟩
   ·cases hx
  ·cases hx
theorem aaX {e e' e1:Env} (h:Le e e') {t n:Nat} {z:List AV} {ps:List (Nat × Nat × Opd)} {v:AV} (hx:opx e (.bsl t n z ps)=some (v,e1)):∃ e1',opx e' (.bsl t n z ps)=some (v,e1')∧Frm e e1 e' e1'∧e1'.length=e'.length:=by
 have len:∀ {cs cs':List AV} {e e1:Env},dQ e cs=some (cs',e1)→e1.length=e.length:=by
  intro cs
  induction cs with
  | nil=>intro cs' e e1 h;simp[dQ] at h;rw[h.2]
  | cons c cs ih =>
   intro cs' e e1 h
   simp only[dQ] at h
   split at h
   ·rename_i c1 e2 h1
    split at h
    ·rename_i h2
     simp only[Option.some.injEq,Prod.mk.injEq] at h
     obtain⟨_,rfl⟩:=h
     rw[ih h2]
     have s1:∀ r p row,(dY e r p row).length=e.length:=by intro r p row;unfold dY;split<;>simp
     cases c with
     | ps r p o =>
      simp only[takeC] at h1
      split at h1
      ·split at h1
       ·simp only[Option.some.injEq,Prod.mk.injEq] at h1;rw[←h1.2];exact s1 _ _ _
       ·cases h1
      ·cases h1
     | pp r p o =>
      simp only[takeC] at h1
      split at h1
      ·split at h1
       ·split at h1
        ·split at h1
         ·simp only[Option.some.injEq,Prod.mk.injEq] at h1;rw[←h1.2];exact s1 _ _ _
         ·cases h1
        ·cases h1
       ·cases h1
      ·cases h1
     | fn g cs=>cases cs<;>simp[takeC] at h1;rw[h1.2]
     | osl s t n cs=>cases n<;>cases cs<;>simp[takeC] at h1;rw[h1.2]
     | _=>simp[takeC] at h1<;>rw[h1.2]
    ·cases h
   ·cases h
 simp only[opx] at hx ⊢
 split at hx
 ·rename_i cs hf
  split at hx
  ·rename_i cs' e2 ht
   simp only[Option.some.injEq,Prod.mk.injEq] at hx
   obtain⟨rfl,rfl⟩:=hx
   obtain⟨a1,a2,a3,a4⟩:=nV h ht
   exact⟨a1,by rw[qP h hf];simp only[a2],a4,len a2⟩
  ·cases hx
 ·cases hx
theorem Cf {c c':AV} {e e1:Env} (h1:takeC e c=some (c',e1)):e1.length=e.length:=by
 have s1:∀ r p row,(dY e r p row).length=e.length:=by intro r p row;unfold dY;split<;>simp
 cases c with
 | ps r p o =>
  simp only[takeC] at h1
  split at h1
  ·split at h1
   ·simp only[Option.some.injEq,Prod.mk.injEq] at h1;rw[←h1.2];exact s1 _ _ _
   ·cases h1
  ·cases h1
 | pp r p o =>
  simp only[takeC] at h1
  split at h1
  ·split at h1
   ·split at h1
    ·split at h1
     ·simp only[Option.some.injEq,Prod.mk.injEq] at h1;rw[←h1.2];exact s1 _ _ _
     ·cases h1
    ·cases h1
   ·cases h1
  ·cases h1
 | fn g cs=>cases cs<;>simp[takeC] at h1;rw[h1.2]
 | osl s t n cs=>cases n<;>cases cs<;>simp[takeC] at h1;rw[h1.2]
 | _=>simp[takeC] at h1<;>rw[h1.2]
theorem qJ:∀ {cs cs':List AV} {e e1:Env},dQ e cs=some (cs',e1)→e1.length=e.length
 | [],cs',e,e1,h=>by simp[dQ] at h;rw[h.2]
 | c::cs,cs',e,e1,h=>by
  simp only[dQ] at h
  split at h
  ·rename_i c1 e2 h1
   split at h
   ·rename_i h2
    simp only[Option.some.injEq,Prod.mk.injEq] at h
    obtain⟨_,rfl⟩:=h
    rw[qJ h2,Cf h1]
   ·cases h
  ·cases h
theorem Oh {e e' e1:Env} (h:Le e e') {z:List AV} {ps:List (Nat × Nat × Opd)} {v:AV} (hx:opx e (.bldt z ps)=some (v,e1)):∃ e1',opx e' (.bldt z ps)=some (v,e1')∧Frm e e1 e' e1'∧e1'.length=e'.length:=by
 simp only[opx] at hx ⊢
 split at hx
 ·rename_i cs hf
  split at hx
  ·rename_i cs' e2 ht
   simp only[Option.some.injEq,Prod.mk.injEq] at hx
   obtain⟨rfl,rfl⟩:=hx
   obtain⟨a1,a2,a3,a4⟩:=nV h ht
   exact⟨a1,by rw[qP h hf];simp only[a2],a4,qJ a2⟩
  ·cases hx
 ·cases hx
theorem KR {e e' e1:Env} (h:Le e e') {el sz:Nat} {x:AV} {m:Nat} {new:List AV} (hx:uC e el sz x=some (m,new,e1)):∃ e1',uC e' el sz x=some (m,new,e1')∧Le e1 e1'∧Frm e e1 e' e1'∧e1'.length=e'.length:=by
 cases x<;>simp only[uC] at hx ⊢<;>try (cases hx;done)
 ·simp only[Option.some.injEq,Prod.mk.injEq] at hx
  obtain⟨rfl,rfl,rfl⟩:=hx
  exact⟨e',rfl,h,fun i=>.inl ⟨rfl,rfl⟩,rfl⟩
 ·split at hx
  ·rename_i hl
   simp only[Option.some.injEq,Prod.mk.injEq] at hx
   obtain⟨rfl,rfl,rfl⟩:=hx
   exact⟨e',by rw[if_pos hl],h,fun i=>.inl ⟨rfl,rfl⟩,rfl⟩
  ·cases hx
 ·rename_i t n cs
  cases n with
  | succ n=>simp at hx
  | zero=>cases cs with
   | cons c cs=>simp at hx
   | nil =>
    simp only[Option.some.injEq,Prod.mk.injEq] at hx
    obtain⟨rfl,rfl,rfl⟩:=hx
    exact⟨e',rfl,h,fun i=>.inl ⟨rfl,rfl⟩,rfl⟩
 ·rename_i r p o
  split at hx
  ·rename_i row hrow
   rw[jc h hrow]
   split at hx
   ·rename_i t n cs hro
    split at hx
    ·rename_i ht
     split at hx
     ·rename_i cs' e2 htk
      simp only[Option.some.injEq,Prod.mk.injEq] at hx
      obtain⟨rfl,rfl,rfl⟩:=hx
      obtain⟨a1,a2,a3,a4⟩:=nV h htk
      exact⟨a1,by simp only[hro,if_pos ht,a2],a3,a4,qJ a2⟩
     ·cases hx
    ·cases hx
   ·cases hx
  ·cases hx
 ·rename_i r p o lo m1 z1
  split at hx
  ·rename_i row hrow
   rw[jc h hrow]
   split at hx
   ·rename_i s0 t n cs hro
    split at hx
    ·rename_i ht
     split at hx
     ·rename_i cs' e2 htk
      simp only[Option.some.injEq,Prod.mk.injEq] at hx
      obtain⟨rfl,rfl,rfl⟩:=hx
      obtain⟨a1,a2,a3,a4⟩:=nV h htk
      exact⟨a1,by simp only[hro,if_pos ht,a2],a3,a4,qJ a2⟩
     ·cases hx
    ·cases hx
   ·cases hx
  ·cases hx
theorem aa1 {e e' e1:Env} (h:Le e e') {t sz:Nat} {s x:Opd} {v:AV} (hx:Es e t sz s x=some (v,e1)):∃ e1',Es e' t sz s x=some (v,e1')∧Frm e e1 e' e1'∧e1'.length=e'.length:=by
 unfold Es at hx ⊢
 split at hx
 ·rename_i sv xv h1 h2
  split at hx
  ·rename_i m new ea hel
   split at hx
   ·rename_i t' n cs eb htk
    split at hx
    ·rename_i hc
     simp only[Option.some.injEq,Prod.mk.injEq] at hx
     obtain⟨rfl,rfl⟩:=hx
     have hs:sv≠.dead:=by rintro rfl;simp[takeC] at htk
     have hxv:xv≠.dead:=by rintro rfl;simp[uC] at hel
     obtain⟨a1,a2,a3,a4,a5⟩:=KR h hel
     obtain⟨b1,b2,b3,b4⟩:=Ci a3 htk
     exact⟨b1,by rw[dH h h1 hs,dH h h2 hxv];simp only[a2,b2,if_pos hc],a4.trans b4,by rw[Cf b2,a5]⟩
    ·cases hx
   ·cases hx
  ·cases hx
 ·cases hx
theorem Kw {e0 e2:Env} (h:∀ i,i<e0.length→e2[i]?=e0[i]?) {u:AV} (hl:kW e0 u=true):kW e2 u=true:=by
 have row:∀ r p,(jv e0 r p).isSome=true→(jv e2 r p).isSome=true:=by
  intro r p hs
  have hr:r<e0.length:=by
   apply Decidable.byContradiction
   intro hn
   unfold jv at hs
   rw[List.getElem?_eq_none (by omega)] at hs
   simp at hs
  unfold jv at hs ⊢
  rw[h r hr];exact hs
 have cell:∀ c,rH e0 c=true→rH e2 c=true:=by
  intro c hc
  cases c with
  | ps r p o=>exact row r p hc
  | pp r p o=>exact row r p hc
  | pf r p o=>exact row r p hc
  | pw r p o lo m sz=>exact row r p hc
  | _=>exact hc
 cases u with
 | agg cs=>simp only[kW,List.all_eq_true] at hl ⊢;exact fun c hc=>cell c (hl c hc)
 | tup sh cs=>simp only[kW,List.all_eq_true] at hl ⊢;exact fun c hc=>cell c (hl c hc)
 | ps r p o=>exact cell (.ps r p o) hl
 | pp r p o=>exact cell (.pp r p o) hl
 | pf r p o=>exact cell (.pf r p o) hl
 | pw r p o lo m sz=>exact cell (.pw r p o lo m sz) hl
 | _=>exact hl
def yG (x:Opd) (e:Env):Env:=match x with
 | .slot j=>e.set j .dead
 | .con _=>e
def iK (p:Nat→Bool):Nat→List AV→List AV
 | _,[]=>[]
 | k,v::vs=>(if p k then v else .dead)::iK p (k+1) vs
def OpV (P:Program) (so:dJ) (e:Env) (K:AV→Prop):Prop :=
 match so.k with
 | .op s=>BA s=true∧match opx e s with
  | some (v,_)=>jD v=false∧K v
  | none=>False
 | .call g args fr=>match kU e args with
  | some (avs,live)=>∃ res,Says P g avs res []∧(live=true→iP res=true) ∧
    match (if fr then frz res else some res) with
    | some v=>jD v=false∧K v
    | none=>False
  | none=>False
 | .callv x args=>match ku e x,kU e args with
  | some (g,caps),some (avs,live)=>dZ P g=true∧∃ res,Says P g (avs++caps) res []∧(live=true→iP res=true)∧jD res=false∧K res
  | _,_=>False
 | .callm _ _=>False
 | .callr _ _=>False
def l9:Env→List Nat→Env
 | e,[]=>e
 | e,d::ds=>l9 (e.set d .dead) ds
theorem xC:∀ (ds:List Nat) (e:Env) (i:Nat),(l9 e ds)[i]?=if i∈ds∧i<e.length then some .dead else e[i]?
 | [],e,i=>by rw[l9,if_neg (by simp)]
 | d::ds,e,i=>by
  rw[l9,xC ds _ i,List.length_set]
  by_cases h:d=i
  ·subst h
   by_cases hl:d<e.length
   ·rw[List.getElem?_set_self hl];simp[hl]
   ·rw[List.getElem?_eq_none (by simp;omega),if_neg (by omega),if_neg (by omega),List.getElem?_eq_none (by omega)]
  ·rw[List.getElem?_set_ne h]
   by_cases h2:i∈ds∧i<e.length
   ·rw[if_pos h2,if_pos ⟨List.mem_cons_of_mem _ h2.1,h2.2⟩]
   ·rw[if_neg h2,if_neg (fun h3=>h2 ⟨(List.mem_cons.1 h3.1).resolve_left (fun h4=>h h4.symm),h3.2⟩)]
theorem xB {ds:List Nat} {e e':Env} (h:l9 e ds=l9 e' ds) {i:Nat} (hi:i ∉ ds):e[i]?=e'[i]?:=by
 have h1:=congrArg (fun l=>l[i]?) h
 simp only[xC] at h1
 rwa [if_neg (fun h2=>hi h2.1),if_neg (fun h2=>hi h2.1)] at h1
def OpC (so:dJ) (e:Env) (ds:List Nat) (K:AV→Prop):Prop :=
 match so.k with
 | .op (.bsl t n z ps)=>match opx e (.bsl t n z ps) with
  | some (v,e1)=>jD v=false∧l9 e1 ds=l9 e ds∧K v
  | none=>False
 | .op (.append t sz s x)=>match Es e t sz s x with
  | some (v,e1)=>jD v=false∧l9 e1 ds=l9 e ds∧K v
  | none=>False
 | .op (.bldt z ps)=>match opx e (.bldt z ps) with
  | some (v,e1)=>jD v=false∧l9 e1 ds=l9 e ds∧K v
  | none=>False
 | _=>False
def isApp (so:dJ):Bool:=match so.k with
 | .op (.append _ _ _ _)=>true
 | _=>false
def DJ (e:Env) (so:dJ) (Q:List AV→Prop):List AV→Prop:=fun vs=>(isApp so=true→(e++vs).all (kW e)=true)∧Q vs
theorem JM {e:Env} {so:dJ} {Q:List AV→Prop} (h:isApp so=false):DJ e so Q=Q:=by
 funext vs
 simp[DJ,h]
def qZ (cons:List (Nat × Nat)) (S:List (List Nat)) (k:Nat) (see:List Nat) (i:Nat):Bool:=see.contains i&&!(cons.any fun c=>c.2==i&&c.1 != k&&!(S.getD c.1 []).contains k)
def qf (cons:List (Nat × Nat)) (k:Nat):Option (List Nat):=match (cons.filter fun c=>c.1==k).map (·.2) with
 | []=>none
 | js=>some js
def BO (P:Program) (e:Env) (cons:List (Nat × Nat)) (S:List (List Nat)):List dJ→List (List Nat)→List AV→(List AV→Prop)→Prop
 | [],_,acc,Q=>Q acc
 | so::rest,sees,acc,Q=>so.dst=none∧match qf cons acc.length with
  | some js=>match so.guard with
   | none=>OpC so (e++iK (qZ cons S acc.length (sees.headD [])) 0 acc) (js.map (e.length + ·)) fun v=>BO P e cons S rest sees.tail (acc++[v]) (DJ e so Q)
   | some (s,b)=>match kz b (e++iK (qZ cons S acc.length (sees.headD [])) 0 acc)[s]? with
    | some true=>OpC so (e++iK (qZ cons S acc.length (sees.headD [])) 0 acc) (js.map (e.length + ·)) fun v=>BO P e cons S rest sees.tail (acc++[v]) (DJ e so Q)
    | some false=>BO P e cons S rest sees.tail (acc++[skV so.k]) Q
    | none=>False
  | none=>match so.guard with
   | none=>OpV P so (e++iK (qZ cons S acc.length (sees.headD [])) 0 acc) fun v=>BO P e cons S rest sees.tail (acc++[v]) Q
   | some (s,b)=>match kz b (e++iK (qZ cons S acc.length (sees.headD [])) 0 acc)[s]? with
    | some true=>OpV P so (e++iK (qZ cons S acc.length (sees.headD [])) 0 acc) fun v=>BO P e cons S rest sees.tail (acc++[v]) Q
    | some false=>BO P e cons S rest sees.tail (acc++[skV so.k]) Q
    | none=>False
def aa6 (P:Program) (e:Env) (cons:List (Nat × Nat)) (S:List (List Nat)) (so:dJ) (see:List Nat) (vs:List AV) (k:Nat):Prop :=
 so.dst=none∧match qf cons k with
 | some js=>match so.guard with
  | none=>(isApp so=true→(e++vs).all (kW e)=true)∧OpC so (e++iK (qZ cons S k see) 0 (vs.take k)) (js.map (e.length + ·)) fun v=>vs[k]?=some v
  | some (s,b)=>match kz b (e++iK (qZ cons S k see) 0 (vs.take k))[s]? with
   | some true=>(isApp so=true→(e++vs).all (kW e)=true)∧OpC so (e++iK (qZ cons S k see) 0 (vs.take k)) (js.map (e.length + ·)) fun v=>vs[k]?=some v
   | some false=>vs[k]?=some (skV so.k)
   | none=>False
 | none=>match so.guard with
  | none=>OpV P so (e++iK (qZ cons S k see) 0 (vs.take k)) fun v=>vs[k]?=some v
  | some (s,b)=>match kz b (e++iK (qZ cons S k see) 0 (vs.take k))[s]? with
   | some true=>OpV P so (e++iK (qZ cons S k see) 0 (vs.take k)) fun v=>vs[k]?=some v
   | some false=>vs[k]?=some (skV so.k)
   | none=>False
theorem EQ {so:dJ} {e:Env} {d:List Nat} {K:AV→Prop} (h:OpC so e d K):∃ v,OpC so e d (fun u=>u=v)∧K v:=by
 unfold OpC at h
 split at h
 ·rename_i t n z ps hk
  split at h
  ·rename_i v e1 hx
   exact⟨v,by unfold OpC;rw[hk];simp only[hx];exact⟨h.1,h.2.1,trivial⟩,h.2.2⟩
  ·cases h
 ·rename_i t sz s x hk
  split at h
  ·rename_i v e1 hx
   exact⟨v,by unfold OpC;rw[hk];simp only[hx];exact⟨h.1,h.2.1,trivial⟩,h.2.2⟩
  ·cases h
 ·rename_i z ps hk
  split at h
  ·rename_i v e1 hx
   exact⟨v,by unfold OpC;rw[hk];simp only[hx];exact⟨h.1,h.2.1,trivial⟩,h.2.2⟩
  ·cases h
 ·cases h
theorem pq {so:dJ} {e:Env} {d:List Nat} {K K':AV→Prop} (hK:∀ v,K v→K' v) (h:OpC so e d K):OpC so e d K':=by
 unfold OpC at h ⊢
 split at h
 ·split at h
  ·exact⟨h.1,h.2.1,hK _ h.2.2⟩
  ·cases h
 ·split at h
  ·exact⟨h.1,h.2.1,hK _ h.2.2⟩
  ·cases h
 ·split at h
  ·exact⟨h.1,h.2.1,hK _ h.2.2⟩
  ·cases h
 ·cases h
theorem EP {P:Program} {so:dJ} {e:Env} {K:AV→Prop} (h:OpV P so e K):∃ v,OpV P so e (fun u=>u=v)∧K v:=by
 unfold OpV at h
 split at h
 ·rename_i s hk
  obtain⟨h1,h⟩:=h
  split at h
  ·rename_i v e' hx
   exact⟨v,by unfold OpV;rw[hk];simp only[hx];exact⟨h1,h.1,trivial⟩,h.2⟩
  ·cases h
 ·rename_i g args fr hk
  split at h
  ·rename_i avs live hp
   obtain⟨res,h1,h2,h⟩:=h
   split at h
   ·rename_i v hv
    exact⟨v,by unfold OpV;rw[hk];simp only[hp];exact⟨res,h1,h2,by rw[hv];exact⟨h.1,rfl⟩⟩,h.2⟩
   ·cases h
  ·cases h
 ·rename_i x args hk
  split at h
  ·rename_i g caps avs live hc hp
   obtain⟨hpl,res,h1,h2,h3,h⟩:=h
   exact⟨res,by unfold OpV;rw[hk];simp only[hc,hp];exact⟨hpl,res,h1,h2,h3,rfl⟩,h⟩
  ·cases h
 ·cases h
 ·cases h
theorem pg {P:Program} {so:dJ} {e:Env} {K K':AV→Prop} (hK:∀ v,K v→K' v) (h:OpV P so e K):OpV P so e K':=by
 unfold OpV at h ⊢
 split at h
 ·rename_i s hk
  obtain⟨h1,h⟩:=h
  refine⟨h1,?_⟩
  split at h
  ·exact⟨h.1,hK _ h.2⟩
  ·cases h
 ·rename_i g args fr hk
  split at h
  ·obtain⟨res,h1,h2,h⟩:=h
   refine⟨res,h1,h2,?_⟩
   split at h
   ·exact⟨h.1,hK _ h.2⟩
   ·cases h
  ·cases h
 ·split at h
  ·obtain⟨hpl,res,h1,h2,h3,h⟩:=h
   exact⟨hpl,res,h1,h2,h3,hK _ h⟩
  ·cases h
 ·cases h
 ·cases h
theorem DU {P:Program} {e:Env} {cons:List (Nat × Nat)} {S:List (List Nat)}:∀ {sos:List dJ} {sees:List (List Nat)} {acc:List AV} {Q:List AV→Prop},BO P e cons S sos sees acc Q →
  ∃ vs,vs.length=acc.length+sos.length∧(∃ ws,vs=acc++ws)∧Q vs∧∀ (k:Nat) (so:dJ),sos[k]?=some so→aa6 P e cons S so (sees.getD k []) vs (acc.length+k)
 | [],sees,acc,Q,h=>⟨acc,by simp,⟨[],by simp⟩,h,fun k so hk=>by simp at hk⟩
 | so::rest,sees,acc,Q,h=>by
  simp only[BO] at h
  obtain⟨hdst,h⟩:=h
  have hd:sees.headD []=sees.getD 0 []:=by cases sees<;>rfl
  have ht:∀ k,sees.tail.getD k []=sees.getD (k+1) []:=fun k=>by cases sees<;>simp
  have go:∀ (v:AV) (Q' L:List AV→Prop),(∀ vs,Q' vs→L vs∧Q vs)→BO P e cons S rest sees.tail (acc++[v]) Q'→(∀ vs:List AV,vs.take acc.length=acc→vs[acc.length]?=some v→L vs→aa6 P e cons S so (sees.getD 0 []) vs acc.length) →
    ∃ vs,vs.length=acc.length+(so::rest).length∧(∃ ws,vs=acc++ws)∧Q vs∧∀ (k:Nat) (so':dJ),(so::rest)[k]?=some so'→aa6 P e cons S so' (sees.getD k []) vs (acc.length+k):=by
   intro v Q' L hQ' hr hv
   obtain⟨vs,h1,⟨ws,rfl⟩,h3,h4⟩:=DU hr
   refine⟨_,by rw[h1];simp;omega,⟨[v]++ws,by simp⟩,(hQ' _ h3).2,fun k so' hk=>?_⟩
   cases k with
   | zero =>
    simp at hk;subst hk
    exact hv _ (by simp) (by simp) (hQ' _ h3).1
   | succ k =>
    have:=h4 k so' (by simpa using hk)
    rw[ht] at this
    simpa [Nat.add_assoc,Nat.add_comm 1 k] using this
  rw[hd] at h
  split at h
  ·rename_i j hj
   split at h
   ·rename_i hg
    obtain⟨v,h1,h2⟩:=EQ h
    refine go v (DJ e so Q) (fun vs=>isApp so=true→(e++vs).all (kW e)=true) (fun _ h=>h) h2 fun vs ht hv hlv=>⟨hdst,?_⟩
    rw[hj,hg]
    simp only[ht]
    exact⟨hlv,pq (fun u hu=>by rw[hu];exact hv) h1⟩
   ·rename_i s b hg
    split at h
    ·rename_i hb
     obtain⟨v,h1,h2⟩:=EQ h
     refine go v (DJ e so Q) (fun vs=>isApp so=true→(e++vs).all (kW e)=true) (fun _ h=>h) h2 fun vs ht hv hlv=>⟨hdst,?_⟩
     rw[hj,hg]
     simp only[ht,hb]
     exact⟨hlv,pq (fun u hu=>by rw[hu];exact hv) h1⟩
    ·rename_i hb
     refine go (skV so.k) Q (fun _=>True) (fun _ h=>⟨trivial,h⟩) h fun vs ht hv _=>⟨hdst,?_⟩
     rw[hj,hg]
     simp only[ht,hb]
     exact hv
    ·cases h
  ·rename_i hj
   split at h
   ·rename_i hg
    obtain⟨v,h1,h2⟩:=EP h
    refine go v Q (fun _=>True) (fun _ h=>⟨trivial,h⟩) h2 fun vs ht hv _=>⟨hdst,?_⟩
    rw[hj,hg]
    simp only[ht]
    exact pg (fun u hu=>by rw[hu];exact hv) h1
   ·rename_i s b hg
    split at h
    ·rename_i hb
     obtain⟨v,h1,h2⟩:=EP h
     refine go v Q (fun _=>True) (fun _ h=>⟨trivial,h⟩) h2 fun vs ht hv _=>⟨hdst,?_⟩
     rw[hj,hg]
     simp only[ht,hb]
     exact pg (fun u hu=>by rw[hu];exact hv) h1
    ·rename_i hb
     refine go (skV so.k) Q (fun _=>True) (fun _ h=>⟨trivial,h⟩) h fun vs ht hv _=>⟨hdst,?_⟩
     rw[hj,hg]
     simp only[ht,hb]
     exact hv
    ·cases h
theorem nN {p:Nat→Bool}:∀ {vs:List AV} {k i:Nat},(iK p k vs)[i]?=(vs[i]?).map fun v=>if p (k+i) then v else .dead
 | [],k,i=>by simp[iK]
 | v::vs,k,0=>by simp[iK]
 | v::vs,k,i+1=>by simp[iK,nN,Nat.add_assoc,Nat.add_comm 1 i]
theorem jO {p:Nat→Bool}:∀ {vs:List AV} {k:Nat},(iK p k vs).length=vs.length
 | [],k=>rfl
 | v::vs,k=>by simp[iK,jO]
def lW (e:Env) (p:Nat→Bool) (vs:List AV) (r:Nat):Env:=e++iK p 0 vs++List.replicate r .dead
theorem yl {e:Env} {p:Nat→Bool} {vs:List AV} {r:Nat}:(lW e p vs r).length=e.length+(vs.length+r):=by simp[lW,jO,Nat.add_assoc]
theorem mM {e:Env} {p:Nat→Bool} {vs:List AV} {r i:Nat}:(lW e p vs r)[e.length+i]?=if i<vs.length then (vs[i]?).map (fun v=>if p i then v else .dead) else if i<vs.length+r then some .dead else none:=by
 unfold lW
 rw[List.append_assoc,List.getElem?_append_right (by omega)]
 simp only[Nat.add_sub_cancel_left]
 split
 ·rename_i h
  rw[List.getElem?_append_left (by simpa [jO] using h),nN];simp
 ·rename_i h
  rw[List.getElem?_append_right (by simp[jO];omega),jO,List.getElem?_replicate]
  split<;>split<;>first|rfl|omega
theorem oG {e:Env} {p:Nat→Bool} {vs:List AV} {r i:Nat} (h:i<e.length):(lW e p vs r)[i]?=e[i]?:=by
 unfold lW
 rw[List.append_assoc,List.getElem?_append_left h]
theorem Uo {e:Env} {p q:Nat→Bool} {vs:List AV} {r k:Nat} (h:∀ i,i<k→q i=true→p i=true):Le (e++iK q 0 (vs.take k)) (lW e p vs r):=by
 intro i v hi hv
 by_cases hlt:i<e.length
 ·rw[List.getElem?_append_left hlt] at hi
  rw[oG hlt,hi]
 ·obtain⟨j,rfl⟩:∃ j,i=e.length+j:=⟨i-e.length,by omega⟩
  rw[List.getElem?_append_right (by omega)] at hi
  simp only[Nat.add_sub_cancel_left,nN,Nat.zero_add] at hi
  rw[mM]
  rw[List.getElem?_take] at hi
  by_cases hjk:j<k
  ·rw[if_pos hjk] at hi
   cases hu:vs[j]? with
   | none=>simp[hu] at hi
   | some u =>
    have hjl:=(List.getElem?_eq_some_iff.1 hu).1
    rw[if_pos hjl]
    by_cases hq:q j=true
    ·rw[hu] at hi
     simp only[hq,if_true,Option.map_some] at hi
     simpa [h j hjk hq] using hi
    ·rw[hu] at hi
     simp[hq] at hi
     exact absurd hi.symm hv
  ·rw[if_neg hjk] at hi
   simp at hi
theorem N9 {e:Env} {p:Nat→Bool} {vs:List AV} {r k:Nat} {v:AV} (hk:vs[k]?=some v) (q:Nat→Bool) (hq:∀ i,q i=(p i||i==k)):(lW e p vs r).set (e.length+k) v=lW e q vs r:=by
 have hkl:=(List.getElem?_eq_some_iff.1 hk).1
 apply List.ext_getElem?
 intro i
 by_cases hlt:i<e.length
 ·rw[List.getElem?_set_ne (by omega),oG hlt,oG hlt]
 ·obtain⟨j,rfl⟩:∃ j,i=e.length+j:=⟨i-e.length,by omega⟩
  by_cases hjk:k=j
  ·subst hjk
   rw[List.getElem?_set_self (by rw[yl];omega),mM,if_pos hkl,hk]
   simp[hq]
  ·rw[List.getElem?_set_ne (by omega),mM,mM]
   have:q j=p j:=by rw[hq];simp[show (j==k)=false by simp;omega]
   rw[this]
def MC (ops:Array Oper) (x:Nat):Bool:=match ops[x]? with
 | some o=>(match o.op with | .extract _ _=>true | .move _=>true | .assign _=>true | .binOp .rem _ (.tmp _) (.tmp _) _=>true|_=>false)&&o.guard.isNone
 | none=>false
def P9 (ops:Array Oper) (sees:List (List Nat)) (t x:Nat):Bool:=decide (x<t)&&MC ops x&&(match ops[x]? with
 | some o=>(List.range ops.size).all fun j=>j==x||(decide (j<t)&&(!MC ops j||(sees.getD x []).contains j))||(match ops[j]? with
  | some oj=>oj.after.toList.any (fun d=>Region.binds .any d&&d.on==x)||o.apart ops oj
  | none=>true)
 | none=>false)
def Jp (ops:Array Oper) (sees:List (List Nat)) (t k:Nat):Bool :=
 match ops[k]? with
 | some o=>o.after.toList.all (fun d=>!Region.binds .any d||decide (d.on<k)) &&
   (sees.getD k []).all (fun x=>decide (x<k)&&o.after.toList.any fun d=>Region.binds .any d&&(d.on==x||(sees.getD d.on []).contains x)) &&
   (decide (k<t)||(List.range k).all fun x=>(sees.getD k []).contains x||P9 ops sees t x)
 | none=>false
def yD (ops:Array Oper) (sees:List (List Nat)) (t:Nat):Bool:=Region.noSelect ops&&(List.range ops.size).all (Jp ops sees t)
structure aDt (ops:Array Oper) (sees:List (List Nat)) (t k:Nat) (o:Oper):Prop where
 back:∀ d∈o.after,Region.binds .any d=true→d.on<k
 lt:∀ x∈sees.getD k [],x<k
 why:∀ x∈sees.getD k [],∃ d∈o.after,Region.binds .any d=true∧(d.on=x∨x∈sees.getD d.on [])
 all:t≤k→∀ x,x<k→x∈sees.getD k []∨P9 ops sees t x=true
theorem jG {ops:Array Oper} {sees:List (List Nat)} {t k:Nat} {o:Oper} (h:yD ops sees t=true) (hk:ops[k]?=some o):aDt ops sees t k o:=by
 have hlt:=(Array.getElem?_eq_some_iff.1 hk).1
 simp only[yD,Bool.and_eq_true] at h
 have h:=List.all_eq_true.1 h.2 k (List.mem_range.2 hlt)
 unfold Jp at h
 rw[hk] at h
 simp only[Bool.and_eq_true,List.all_eq_true,Bool.or_eq_true,decide_eq_true_eq,List.any_eq_true,Bool.not_eq_true',beq_iff_eq,List.contains_iff_mem,List.mem_range,Array.mem_toList_iff] at h
 obtain⟨⟨h1,h2⟩,h3⟩:=h
 refine⟨fun d hd hb=>(h1 d hd).resolve_left (by simp[hb]),fun x hx=>(h2 x hx).1,fun x hx=>?_,fun ht x hx=>?_⟩
 ·obtain⟨d,hd,hb,hor⟩:=(h2 x hx).2
  exact⟨d,hd,hb,hor⟩
 ·rcases h3 with h|h
  ·omega
  ·exact h x hx
theorem nZ {ops:Array Oper} {sees:List (List Nat)} {t k:Nat} {listed:Array Bool} (hs:yD ops sees t=true) (hc:∀ y,y<ops.size→listed.getD y false=true→∀ x∈sees.getD y [],listed.getD x false=true) (hsz:listed.size=ops.size)
  (hr:k∈Region.ready .any ops listed):∀ x∈sees.getD k [],listed.getD x false=true:=by
 obtain⟨_,o,ho,hall⟩:=mem_ready.1 hr
 intro x hx
 obtain⟨d,hd,hb,hor⟩:=(jG hs ho).why x hx
 have hl:=hall d hd hb
 rcases hor with rfl|hor
 ·exact hl
 ·refine hc d.on ?_ hl x hor
  by_cases h:d.on<ops.size
  ·exact h
  ·rw[Array.getD_eq_getD_getElem?,Array.getElem?_eq_none (by omega)] at hl
   simp at hl
section
variable {P : Program} {C : Cx} {V D : List Nat} {n : Nat} {ops : Array Oper} {sees : List (List Nat)} {t : Nat} {QQ : Exit → Act → World → Prop} {Q : Env → Prop} {sos : List dJ}
theorem Tq {a b v:AV} (h:Iw .rem a b=some v):∃ k m n,a=.int k m∧b=.int k n∧v=.int k (m.tmod n):=by
 cases a<;>cases b<;>simp[Iw] at h
 obtain⟨rfl,_,rfl⟩:=h
 exact⟨_,_,_,rfl,rfl,rfl⟩
theorem Tt {k:Nat} {o:Oper} {so:dJ} {e:Env} {ρ:List Value} {tmps:Array Value} {w:World} {Φ:Nat→Prop} {f:Cnt} {QE:Env→Prop} {t t2:TypeId} {x y:Tmp} (ho:o.op=.binOp .rem t (.tmp x) (.tmp y) t2) (hg:o.guard=none) (hok1:zG P V D n k ops o so=true)
  (hst:St P C (V++D) n e ρ tmps w Φ f) (h:yz P V.length k so e QE):∃ v,∀ w',(execOp (⟨tmps,[]⟩:Act).eval o).run P w'=.ok (.value v) w':=by
 obtain⟨hdst,hguard,hk⟩:=rZ hok1
 have hsg:so.guard=none:=by
  rcases hguard with ⟨_,h⟩|⟨_,_,_,_,h,_⟩
  ·exact h
  ·rw[hg] at h;cases h
 simp only[yz,hsg] at h
 unfold OpW at h
 rcases hk with ⟨s,hs,hoks⟩|⟨g,args,fr,c,hs,ho2,_⟩|⟨_,args,c,_,hs,ho2,_⟩|⟨_,args,c,_,hs,ho2,_⟩
 ·rw[hs] at h
  simp only at h
  split at h
  ·rename_i v e' hx
   have hb:∃ x' y',s=.bin .rem x' y':=by
    rw[ho] at hoks
    cases s<;>simp[gz] at hoks
    obtain⟨⟨⟨_,_⟩,rfl⟩,_⟩:=hoks
    exact⟨_,_,rfl⟩
   obtain⟨x',y',rfl⟩:=hb
   simp only[opx] at hx
   split at hx
   ·rename_i a b ha hb
    split at hx
    ·rename_i u hu
     obtain⟨kk,m1,m2,rfl,rfl,rfl⟩:=Tq hu
     have hoks2:=hoks
     rw[ho] at hoks2
     simp only[gz,Bool.and_eq_true] at hoks2
     have c1:=jm (dC (a:=⟨tmps,[]⟩) hst.rel hst.lk hoks2.1.1.1 ha (fun _=>0) (fun _=>rfl))
     have c2:=jm (dC (a:=⟨tmps,[]⟩) hst.rel hst.lk hoks2.1.1.2 hb (fun _=>0) (fun _=>rfl))
     refine⟨.int kk (m1.tmod m2),fun w'=>?_⟩
     have h0:CR P w' (fun _=>False) C.σ [.int kk m1,.int kk m2] [.int kk m1,.int kk m2] [.int kk m1,.int kk m2] (fun _=>0):=by
      have:=CR_cons (P:=P) (w:=w') (Φ:=fun _=>False) (σ:=C.σ) (ρ:=[.int kk m1,.int kk m2]) (ul (k:=kk) (n:=m1) (fun _=>0) (fun _=>rfl)) (CR_cons (ul (k:=kk) (n:=m2) (fun _=>0) (fun _=>rfl)) CR_nil)
      simpa using this
     have hl0:LK [x,y] [.int kk m1,.int kk m2] [AV.int kk m1,.int kk m2] tmps:=fun j cv hj=>by
      match j,hj with
      | 0,hj=>simp at hj;subst hj;exact .inr ⟨x,rfl,c1⟩
      | 1,hj=>simp at hj;subst hj;exact .inr ⟨y,rfl,c2⟩
      | j+2,hj=>simp at hj
     obtain⟨_,cv,hy,hv⟩:=abB (a:=⟨tmps,[]⟩) (o:=o) (ν:=[x,y]) (op:=.rem) (x:=.slot 0) (y:=.slot 1) (v:=.int kk (m1.tmod m2)) (e':=[.int kk m1,.int kk m2]) h0 hl0 (by simp[gz,ho,okX,wQ]) (by simp[opx,ev,lzv,lz1,hu])
     have:=jm (hv (fun _=>0) (fun _=>rfl))
     subst this
     exact hy
    ·cases hx
   ·cases hx
  ·cases h
 ·rw[ho] at ho2;cases ho2
 ·rw[ho] at ho2;cases ho2
 ·rw[ho] at ho2;cases ho2
theorem pJ:∀ {os:List Oper} {sos:List dJ} {k i:Nat} {o:Oper},je P V D n ops k os sos=true→os[i]?=some o→∃ so,sos[i]?=some so∧zG P V D n (k+i) ops o so=true
 | [],sos,k,i,o,h,hi=>by simp at hi
 | o'::os,[],k,i,o,h,hi=>by simp[je] at h
 | o'::os,so::sos,k,0,o,h,hi=>by
  simp only[je,Bool.and_eq_true] at h
  simp at hi;subst hi
  exact⟨so,rfl,h.1⟩
 | o'::os,so::sos,k,i+1,o,h,hi=>by
  simp only[je,Bool.and_eq_true] at h
  obtain⟨so',h1,h2⟩:=pJ h.2 (by simpa using hi)
  exact⟨so',by simpa using h1,by rwa [show k+(i+1)=k+1+i by omega]⟩
theorem jX:∀ {os:List Oper} {sos:List dJ} {k:Nat},je P V D n ops k os sos=true→os.length=sos.length
 | [],[],k,h=>rfl
 | [],_::_,k,h=>by simp[je] at h
 | _::_,[],k,h=>by simp[je] at h
 | o'::os,so::sos,k,h=>by
  simp only[je,Bool.and_eq_true] at h
  simp[jX h.2]
theorem o8 {listed:Array Bool} {j:Nat} (h:j<listed.size):listed.getD j true=listed.getD j false:=by
 simp[Array.getD_eq_getD_getElem?,Array.getElem?_eq_getElem h]
theorem KU (hν:(V++D).Nodup) (hok:je P V D n ops 0 ops.toList sos=true) (hs:yD ops sees t=true)
  (hQ:∀ e ρ tmps w Φ f,St P C (V++D) n e ρ tmps w Φ f→Q e→QQ .normal ⟨tmps,[]⟩ w) :
  ∀ (fuel i:Nat) (listed:Array Bool) (e:Env) (ρ:List Value) (tmps:Array Value) (w:World) (Φ:Nat→Prop) (f:Cnt),listed.size=ops.size→(∀ j,j<ops.size→(listed.getD j false=true↔j<i))→t≤i→i≤ops.size→ops.size≤fuel+i →
   St P C (V++D) n e ρ tmps w Φ f→e.length=V.length+ops.size→(∀ j,i≤j→j<ops.size→ρ[V.length+j]?=some unk)→kw P V.length i (sos.drop i) e Q→wpAny P .any ops QQ fuel listed ⟨tmps,[]⟩ w:=by
 intro fuel
 have hl:=jX hok
 have hend:∀ (i:Nat) (listed:Array Bool) (e:Env) (ρ:List Value) (tmps:Array Value) (w:World) (Φ:Nat→Prop) (f:Cnt),i=ops.size→St P C (V++D) n e ρ tmps w Φ f→kw P V.length i (sos.drop i) e Q→QQ .normal ⟨tmps,[]⟩ w:=by
  intro i listed e ρ tmps w Φ f hi hst h
  rw[List.drop_eq_nil_of_le (by rw[←hl,hi];simp)] at h
  exact hQ _ _ _ _ _ _ hst (by simpa only[kw] using h)
 have hrd:∀ (i j:Nat) (listed:Array Bool),listed.size=ops.size→(∀ j,j<ops.size→(listed.getD j false=true↔j<i))→t≤i→j∈Region.ready .any ops listed→j=i:=by
  intro i j listed hsz hl hti hj
  have hsee:=nZ hs (fun y hy hly x hx=>by
   have:=(jG hs (Array.getElem?_eq_getElem hy)).lt x hx
   have h2:=(hl y hy).1 hly
   exact (hl x (by omega)).2 (by omega)) hsz hj
  obtain⟨h0,o,ho,_⟩:=mem_ready.1 hj
  have hjs:=(Array.getElem?_eq_some_iff.1 ho).1
  rw[o8 (by omega)] at h0
  have hge:¬j<i:=fun h=>by rw[(hl j hjs).2 h] at h0;cases h0
  by_cases hji:i<j
  ·have:=hsee i (((jG hs ho).all (by omega) i hji).resolve_right (fun h=>by simp only[P9,Bool.and_eq_true,decide_eq_true_eq] at h;omega))
   have:=(hl i (by omega)).1 this
   omega
  ·omega
 induction fuel with
 | zero =>
  intro i listed e ρ tmps w Φ f hsz hlst hti his hf hst hlen hund h
  have hi:i=ops.size:=by omega
  refine⟨?_,hend i listed e ρ tmps w Φ f hi hst h⟩
  cases hr:Region.ready .any ops listed with
  | nil=>rfl
  | cons j _ =>
   have hj:j∈Region.ready .any ops listed:=by rw[hr];simp
   have:=hrd i j listed hsz hlst hti hj
   obtain⟨_,o,ho,_⟩:=mem_ready.1 hj
   have:=(Array.getElem?_eq_some_iff.1 ho).1
   omega
 | succ fuel ih =>
  intro i listed e ρ tmps w Φ f hsz hlst hti his hf hst hlen hund h
  refine⟨fun hr=>?_,fun j hj=>?_⟩
  ·by_cases hi:i=ops.size
   ·exact hend i listed e ρ tmps w Φ f hi hst h
   ·exfalso
    have hilt:i<ops.size:=by omega
    have:i∈Region.ready .any ops listed:=mem_ready.2 ⟨by
     rw[o8 (by omega)]
     cases hb:listed.getD i false with
     | false=>rfl
     | true=>have:=(hlst i hilt).1 hb;omega,_,Array.getElem?_eq_getElem hilt,fun d hd hb=>by
     have:=(jG hs (Array.getElem?_eq_getElem hilt)).back d hd hb
     exact (hlst d.on (by omega)).2 this⟩
    rw[hr] at this;cases this
  ·obtain rfl:=hrd i j listed hsz hlst hti hj
   obtain⟨_,o,ho,_⟩:=mem_ready.1 hj
   have hjs:=(Array.getElem?_eq_some_iff.1 ho).1
   obtain⟨so,hso,hokr⟩:=pJ hok (i:=j) (by simpa using ho)
   rw[Nat.zero_add] at hokr
   have hdrop:sos.drop j=so::sos.drop (j+1):=by
    rw[List.drop_eq_getElem_cons (List.getElem?_eq_some_iff.1 hso).1,(List.getElem?_eq_some_iff.1 hso).2]
   rw[hdrop] at h
   have hρl:e.length=ρ.length:=dm hst.rel
   have:=wF (QQ:=QQ) (ops:=ops) (K:=wpAny P .any ops QQ fuel (listed.setIfInBounds j true)) hν hokr hst (hund j (Nat.le_refl _) hjs) (DK h) (fun e2 ρ2 tmps2 w2 Φ2 g hst2 hl2 hu2 hrun =>
    ih (j+1) _ e2 ρ2 tmps2 w2 Φ2 g (by simpa using hsz) (fun x hx=>by
     by_cases hxj:j=x
     ·subst hxj;simp[hsz,hjs]
     ·rw[getD_set_ne false hxj,hlst x hx];omega) (by omega) (by omega) (by omega) hst2 (by rw[dm hst2.rel,hl2,←hρl];exact hlen) (fun x hx hxs=>by
     rw[hu2 _ (by omega) (by omega)];exact hund x (by omega) hxs) hrun)
   unfold wpOp
   rw[ho]
   simp only
   split
   ·rename_i hw;rw[if_pos hw] at this;exact .inl this
   ·rename_i hw;rw[if_neg hw] at this;exact this
def sJ (listed:Array Bool):Nat→Nat
 | 0=>0
 | t+1=>sJ listed t+if listed.getD t false then 0 else 1
theorem JI {listed:Array Bool} {k:Nat}:∀ {t:Nat},t≤k→sJ (listed.setIfInBounds k true) t=sJ listed t
 | 0,_=>rfl
 | t+1,h=>by
  simp only[sJ]
  rw[JI (by omega),getD_set_ne false (by omega)]
theorem Ba {listed:Array Bool} {k:Nat} (hk:listed.getD k false=false) (hs:k<listed.size):∀ {t:Nat},k<t→sJ (listed.setIfInBounds k true) t+1=sJ listed t
 | 0,h=>by omega
 | t+1,h=>by
  simp only[sJ]
  by_cases hkt:k=t
  ·subst hkt
   rw[JI (Nat.le_refl _),hk]
   simp[hs]
  ·have:=Ba hk hs (t:=t) (by omega)
   rw[getD_set_ne false hkt]
   omega
theorem Gm {listed:Array Bool} {k:Nat} (hk:listed.getD k false=false):∀ {t:Nat},k<t→1≤sJ listed t
 | 0,h=>by omega
 | t+1,h=>by
  simp only[sJ]
  by_cases hkt:k=t
  ·subst hkt;rw[hk];simp
  ·have:=Gm hk (t:=t) (by omega)
   omega
theorem vN {e:Env} {cons:List (Nat × Nat)} {S:List (List Nat)} {so:dJ} {see:List Nat} {vs:List AV} {k r:Nat} {p:Nat→Bool} (h:aa6 P e cons S so see vs k) (hk:k<vs.length) (hp:p k=false) (hsee:∀ i,i<k→qZ cons S k see i=true→p i=true) :
  yz P e.length k so (lW e p vs r) fun e2=>∃ v,vs[k]?=some v∧match qf cons k with
   | some js=>∀ i,i ∉ js.map (e.length + ·)→e2[i]?=((lW e p vs r).set (e.length+k) v)[i]?
   | none=>e2=(lW e p vs r).set (e.length+k) v:=by
 have hle:Le (e++iK (qZ cons S k see) 0 (vs.take k)) (lW e p vs r):=Uo fun i hi hq=>hsee i hi hq
 obtain⟨hd,h⟩:=h
 split at h
 ·rename_i js hj
  have hopc:∀ (hlv:isApp so=true→(e++vs).all (kW e)=true) (h:OpC so (e++iK (qZ cons S k see) 0 (vs.take k)) (js.map (e.length + ·)) fun v=>vs[k]?=some v),OpW P e.length k so (lW e p vs r) fun e2=>∃ v,vs[k]?=some v∧∀ i,i ∉ js.map (e.length + ·)→e2[i]?=((lW e p vs r).set (e.length+k) v)[i]?:=by
   intro hlv h
   unfold OpC at h
   unfold OpW
   split at h
   ·rename_i t n z ps hs
    split at h
    ·rename_i v e1 hx
     obtain⟨h1,h2,h3⟩:=h
     obtain⟨e1',k1,k2,k3⟩:=aaX hle hx
     simp only[hs,k1,hd,lu]
     refine⟨v,h3,fun i hij=>?_⟩
     by_cases hik:e.length+k=i
     ·subst hik
      by_cases hl:e.length+k<(lW e p vs r).length
      ·rw[List.getElem?_set_self (by rw[k3];exact hl),List.getElem?_set_self hl]
      ·rw[List.getElem?_eq_none (by simp[k3];omega),List.getElem?_eq_none (by simp;omega)]
     ·rw[List.getElem?_set_ne hik,List.getElem?_set_ne hik]
      have hsame:=xB h2 hij
      rcases k2 i with ⟨_,b⟩|⟨a,b⟩
      ·exact b
      ·rw[←a,hsame,b]
    ·cases h
   ·rename_i t sz s x hs
    split at h
    ·rename_i v e1 hx
     obtain⟨h1,h2,h3⟩:=h
     obtain⟨e1',k1,k2,k3⟩:=aa1 hle hx
     have hlv':=hlv (by simp[isApp,hs])
     simp only[hs,opx,k1,hd,lu]
     have same:∀ i,i ∉ js.map (e.length + ·)→e1'[i]?=(lW e p vs r)[i]?:=by
      intro i hij
      have hsame:=xB h2 hij
      rcases k2 i with ⟨_,b⟩|⟨a,b⟩
      ·exact b
      ·rw[←a,hsame,b]
     refine⟨v,h3,?_⟩
     have low:∀ i,i<e.length→e1'[i]?=e[i]?:=fun i hi=>by rw[same i (by simp only[List.mem_map,not_exists,not_and];intro x _;omega),oG hi]
     have live:∀ (i:Nat) (u:AV),(lW e p vs r)[i]?=some u→kW e1' u=true:=by
      intro i u hu
      refine Kw low ?_
      rw[List.all_eq_true] at hlv'
      by_cases hi:i<e.length
      ·rw[oG hi] at hu
       exact hlv' u (List.mem_append_left _ (List.mem_of_getElem? hu))
      ·obtain⟨i2,rfl⟩:∃ i2,i=e.length+i2:=⟨i-e.length,by omega⟩
       rw[mM] at hu
       split at hu
       ·cases hv:vs[i2]? with
        | none=>simp[hv] at hu
        | some w =>
         simp only[hv,Option.map_some,Option.some.injEq] at hu
         subst hu
         split
         ·exact hlv' w (List.mem_append_right _ (List.mem_of_getElem? hv))
         ·rfl
       ·split at hu
        ·obtain rfl:=Option.some.inj hu;rfl
        ·cases hu
     intro i hij
     by_cases hik:e.length+k=i
     ·subst hik
      by_cases hl:e.length+k<(lW e p vs r).length
      ·rw[List.getElem?_set_self (by simp[BQ,k3];exact hl),List.getElem?_set_self hl]
      ·rw[List.getElem?_eq_none (by simp[BQ,k3];omega),List.getElem?_eq_none (by simp;omega)]
     ·rw[List.getElem?_set_ne hik,List.getElem?_set_ne hik]
      simp only[BQ,List.getElem?_map]
      rw[same i hij]
      cases hu:(lW e p vs r)[i]? with
      | none=>rfl
      | some u=>simp only[Option.map_some,live i u hu,if_true]
    ·cases h
   ·rename_i z ps hs
    split at h
    ·rename_i v e1 hx
     obtain⟨h1,h2,h3⟩:=h
     obtain⟨e1',k1,k2,k3⟩:=Oh hle hx
     simp only[hs,k1,hd,lu]
     refine⟨v,h3,fun i hij=>?_⟩
     by_cases hik:e.length+k=i
     ·subst hik
      by_cases hl:e.length+k<(lW e p vs r).length
      ·rw[List.getElem?_set_self (by rw[k3];exact hl),List.getElem?_set_self hl]
      ·rw[List.getElem?_eq_none (by simp[k3];omega),List.getElem?_eq_none (by simp;omega)]
     ·rw[List.getElem?_set_ne hik,List.getElem?_set_ne hik]
      have hsame:=xB h2 hij
      rcases k2 i with ⟨_,b⟩|⟨a,b⟩
      ·exact b
      ·rw[←a,hsame,b]
    ·cases h
   ·cases h
  unfold yz
  split at h
  ·rename_i hg;rw[hg];exact hopc h.1 h.2
  ·rename_i s b hg
   rw[hg]
   have hle2:∀ c,kz b (e++iK (qZ cons S k see) 0 (vs.take k))[s]?=some c→kz b (lW e p vs r)[s]?=some c:=by
    intro c hc
    rcases qF hc with ⟨b',he,hb⟩|⟨he,hb⟩
    ·rw[hle s _ he (by simp)];simp[kz,hb]
    ·rw[hle s _ he (by simp)];simp[kz,hb]
   split at h
   ·rename_i hb
    simp only[hle2 _ hb]
    exact hopc h.1 h.2
   ·rename_i hb
    simp only[hle2 _ hb]
    exact⟨skV so.k,h,fun i _=>by rw[OO]⟩
   ·cases h
 rename_i hj
 have hop:∀ (h:OpV P so (e++iK (qZ cons S k see) 0 (vs.take k)) fun v=>vs[k]?=some v),OpW P e.length k so (lW e p vs r) fun e2=>∃ v,vs[k]?=some v∧e2=(lW e p vs r).set (e.length+k) v:=by
  intro h
  unfold OpV at h
  unfold OpW
  split at h
  ·rename_i s hs
   obtain⟨h1,h⟩:=h
   split at h
   ·rename_i v e' hx
    have hv:v≠.dead:=by rintro rfl;simp[jD] at h
    simp only[hs,NG hle h1 hx hv,hd,lu]
    exact⟨v,h.2,rfl⟩
   ·cases h
  ·rename_i g args fr hs
   split at h
   ·rename_i avs live hpx
    simp only[hs,uU hle hpx]
    obtain⟨res,h1,h2,h⟩:=h
    refine⟨res,h1,h2,?_⟩
    split at h
    ·rename_i v hv
     simp only[hv,hd,lu]
     exact⟨v,h.2,rfl⟩
    ·cases h
   ·cases h
  ·rename_i x args hs
   split at h
   ·rename_i g caps avs live hcal hpx
    simp only[hs,Ec hle hcal,uU hle hpx]
    obtain⟨hpl,res,h1,h2,h3,h⟩:=h
    refine⟨hpl,res,h1,h2,?_⟩
    simp only[hd,lu]
    exact⟨res,h,rfl⟩
   ·cases h
  ·cases h
  ·cases h
 unfold yz
 split at h
 ·rename_i hg;rw[hg];exact hop h
 ·rename_i s b hg
  rw[hg]
  have hle2:∀ c,kz b (e++iK (qZ cons S k see) 0 (vs.take k))[s]?=some c→kz b (lW e p vs r)[s]?=some c:=by
   intro c hc
   rcases qF hc with ⟨b',he,hb⟩|⟨he,hb⟩
   ·rw[hle s _ he (by simp)];simp[kz,hb]
   ·rw[hle s _ he (by simp)];simp[kz,hb]
  split at h
  ·rename_i hb
   simp only[hle2 _ hb]
   exact hop h
  ·rename_i hb
   simp only[hle2 _ hb]
   exact⟨skV so.k,h,OO⟩
  ·cases h
def ug (cons:List (Nat × Nat)) (sees:List (List Nat)) (t:Nat):Bool:=cons.all fun c=>((sees.getD c.1 []).contains c.2||decide (t≤c.2))&&decide (c.1<t)
theorem qm {cons:List (Nat × Nat)} {sees:List (List Nat)} {t:Nat} (h:ug cons sees t=true):∀ c∈cons,(c.2∈sees.getD c.1 []∨t≤c.2)∧c.1<t:=by
 simp only[ug,List.all_eq_true,Bool.and_eq_true,List.contains_iff_mem,decide_eq_true_eq,Bool.or_eq_true] at h
 exact h
theorem Ah {cons:List (Nat × Nat)} {k:Nat} {js:List Nat} (h:qf cons k=some js) {j:Nat}:j∈js↔(k,j)∈cons:=by
 unfold qf at h
 split at h
 ·cases h
 ·rename_i hne
  cases h
  simp only[List.mem_map,List.mem_filter,beq_iff_eq]
  constructor
  ·rintro⟨⟨a,b⟩,⟨h1,h2⟩,h3⟩
   simp only at h2 h3
   subst h2 h3;exact h1
  ·intro h;exact⟨_,⟨h,rfl⟩,rfl⟩
theorem Fg {cons:List (Nat × Nat)} {k:Nat} (h:qf cons k=none):∀ c∈cons,c.1≠k:=by
 unfold qf at h
 split at h
 ·rename_i he
  intro c hc hck
  have:c.2∈(cons.filter fun c=>c.1==k).map (·.2):=List.mem_map.2 ⟨c,List.mem_filter.2 ⟨hc,by simpa using hck⟩,rfl⟩
  rw[he] at this
  cases this
 ·cases h
def vis (cons:List (Nat × Nat)) (listed:Array Bool) (i:Nat):Bool:=listed.getD i false&&!(cons.any fun c=>c.2==i&&listed.getD c.1 false)
def OD (cons:List (Nat × Nat)) (i:Nat):Bool:=!(cons.any fun c=>c.2==i)
theorem Au {x:Opd} {e:Env} {ρ:List Value} {tmps:Array Value} {w:World} {Φ:Nat→Prop} {f:Cnt} (h:St P C V n e ρ tmps w Φ f):∃ f',St P C V n (yG x e) ρ tmps w Φ f':=by
 cases x with
 | con v=>exact⟨f,h⟩
 | slot j =>
  simp only[yG]
  cases hj:e[j]? with
  | none =>
   rw[List.set_eq_of_length_le (by simpa using hj)]
   exact⟨f,h⟩
  | some u =>
   obtain⟨cv,f1,f2,hv,_,hf,hset⟩:=dO j h.rel hj
   have:=hset .dead cv (fun _=>0) (by simp[VR])
   rw[gW hv] at this
   refine⟨_,this,h.lk,h.inv.le (fun b=>?_),h.ext,h.sub,h.new,fun b hb=>h.own b ?_,h.size⟩
   ·show 0+f2 b≤f b
    have:=hf b;omega
   ·have hb':1≤0+f2 b:=hb
    have:=hf b;omega
theorem Gv:∀ (ds:List Nat) {e:Env} {ρ:List Value} {tmps:Array Value} {w:World} {Φ:Nat→Prop} {f:Cnt} {N:Nat},St P C V N e ρ tmps w Φ f→∃ f',St P C V N (l9 e ds) ρ tmps w Φ f'
 | [],_,_,_,_,_,f,_,h=>⟨f,h⟩
 | d::ds,_,_,_,_,_,_,_,h=>by
  obtain⟨f',h'⟩:=Au (x:=.slot d) h
  exact Gv ds h'
theorem KW {e:Env} {cons:List (Nat × Nat)} {vs:List AV} (hν:(V++D).Nodup) (hok:je P V D n ops 0 ops.toList sos=true) (hs:yD ops sees t=true) (hco:ug cons sees t=true) (hm:e.length=V.length) (ht:t≤ops.size) (hvs:vs.length=t)
  (hQ:∀ e ρ tmps w Φ f,St P C (V++D) n e ρ tmps w Φ f→Q e→QQ .normal ⟨tmps,[]⟩ w) (hQp:∀ c a w,¬QQ (.panic c) a w)
  (hv:∀ k so,k<t→sos[k]?=some so→aa6 P e cons sees so (sees.getD k []) vs k) (htail:kw P V.length t (sos.drop t) (e++iK (OD cons) 0 vs++List.replicate (ops.size-t) .dead) Q) :
  ∀ (fuel:Nat) (listed:Array Bool) (ρ:List Value) (tmps:Array Value) (w:World) (Φ:Nat→Prop) (f:Cnt),listed.size=ops.size→(∀ j,t≤j→j<ops.size→listed.getD j false=false)→sJ listed t+(ops.size-t)≤fuel →
   (∀ y,y<ops.size→listed.getD y false=true→∀ x∈sees.getD y [],listed.getD x false=true) →
   St P C (V++D) n (lW e (vis cons listed) vs (ops.size-t)) ρ tmps w Φ f→(∀ j,j<ops.size→listed.getD j false=false→ρ[V.length+j]?=some unk)→wpAny P .any ops QQ fuel listed ⟨tmps,[]⟩ w:=by
 have hl:=jX hok
 have full:∀ (fuel:Nat) (listed:Array Bool) (ρ:List Value) (tmps:Array Value) (w:World) (Φ:Nat→Prop) (f:Cnt),listed.size=ops.size→(∀ j,t≤j→j<ops.size→listed.getD j false=false)→ops.size-t≤fuel →
   (∀ j,j<t→listed.getD j false=true)→St P C (V++D) n (lW e (vis cons listed) vs (ops.size-t)) ρ tmps w Φ f→(∀ j,j<ops.size→listed.getD j false=false→ρ[V.length+j]?=some unk)→wpAny P .any ops QQ fuel listed ⟨tmps,[]⟩ w:=by
  intro fuel listed ρ tmps w Φ f hsz htl hfu hall hst hund
  have he:lW e (vis cons listed) vs (ops.size-t)=e++iK (OD cons) 0 vs++List.replicate (ops.size-t) .dead:=by
   have:iK (vis cons listed) 0 vs=iK (OD cons) 0 vs:=by
    apply List.ext_getElem?
    intro i
    rw[nN,nN]
    cases hi:vs[i]? with
    | none=>rfl
    | some v =>
     have hil:=(List.getElem?_eq_some_iff.1 hi).1
     have:vis cons listed (0+i)=OD cons (0+i):=by
      simp only[vis,OD,Nat.zero_add,hall i (by omega),Bool.true_and]
      congr 1
      rw[Bool.eq_iff_iff]
      simp only[List.any_eq_true,Bool.and_eq_true]
      exact⟨fun⟨c,h1,h2,_⟩=>⟨c,h1,h2⟩,fun⟨c,h1,h2⟩=>⟨c,h1,h2,hall c.1 ((qm hco) c h1).2⟩⟩
     simp only[Option.map_some,this]
   rw[lW,this]
  rw[he] at hst
  refine KU hν hok hs hQ fuel t listed _ ρ tmps w Φ f hsz (fun j hj=>⟨fun h=>?_,fun h=>hall j h⟩) (Nat.le_refl _) ht (by omega) hst (by simp[hm,hvs,jO];omega) (fun j hj hjs=>hund j hjs (htl j hj hjs)) htail
  by_cases hjt:j<t
  ·exact hjt
  ·rw[htl j (by omega) hj] at h;cases h
 intro fuel
 induction fuel with
 | zero =>
  intro listed ρ tmps w Φ f hsz htl hfu hcl hst hund
  refine full 0 listed ρ tmps w Φ f hsz htl (by omega) (fun j hj=>?_) hst hund
  cases hb:listed.getD j false with
  | true=>rfl
  | false=>have:=Gm hb hj;omega
 | succ fuel ih =>
  intro listed ρ tmps w Φ f hsz htl hfu hcl hst hund
  by_cases hall:∀ j,j<t→listed.getD j false=true
  ·exact full (fuel+1) listed ρ tmps w Φ f hsz htl (by omega) hall hst hund
  ·have step:∀ k o,k∈Region.ready .any ops listed→ops[k]?=some o→k<t→if Region.wanted o (yielded ops tmps) then o.wp P ⟨tmps,[]⟩ w (wpAny P .any ops QQ fuel (listed.setIfInBounds k true)) QQ else wpAny P .any ops QQ fuel (listed.setIfInBounds k true) ((⟨tmps,[]⟩:Act).put o.dst undef) w:=by
    intro k o hk ho hkt
    have hsee:=nZ hs hcl hsz hk
    obtain⟨h0,_⟩:=mem_ready.1 hk
    have hks:=(Array.getElem?_eq_some_iff.1 ho).1
    rw[o8 (by omega)] at h0
    obtain⟨so,hso,hokr⟩:=pJ hok (i:=k) (by simpa using ho)
    rw[Nat.zero_add] at hokr
    have hc1:=qm hco
    have hvk0:vis cons listed k=false:=by simp[vis,h0]
    have hw:=vN (r:=ops.size-t) (p:=vis cons listed) (hv k so hkt hso) (by omega) hvk0 (fun i _ hi=>by
     simp only[qZ,Bool.and_eq_true,List.contains_iff_mem,Bool.not_eq_true',List.any_eq_false,bne_iff_ne,beq_iff_eq] at hi
     simp only[vis,Bool.and_eq_true,Bool.not_eq_true',List.any_eq_false,beq_iff_eq]
     refine⟨hsee i hi.1,fun c hc hcc=>?_⟩
     have hck:c.1≠k:=fun h=>by rw[h,h0] at hcc;cases hcc.2
     have h9:c.1<ops.size:=by have:=(hc1 c hc).2;omega
     by_cases hck2:k∈sees.getD c.1 []
     ·have:=hcl c.1 h9 hcc.2 k hck2
      rw[h0] at this;cases this
     ·exact hi.2 c hc ⟨⟨hcc.1,hck⟩,by simpa using hck2⟩)
    rw[hm] at hw
    have hself:∀ c∈cons,c.2=k→(listed.setIfInBounds k true).getD c.1 false=true→False:=fun c hc hck hl=>by
     have hcs:=(hc1 c hc).1.resolve_right (by omega)
     by_cases hck1:k=c.1
     ·have hlt:=(jG hs ho).lt c.2 (by rw[hck1];exact hcs)
      omega
     ·rw[getD_set_ne false hck1] at hl
      have h9:c.1<ops.size:=by
       by_cases h:c.1<ops.size
       ·exact h
       ·rw[Array.getD_eq_getD_getElem?,Array.getElem?_eq_none (by omega)] at hl;simp at hl
      have:=hcl c.1 h9 hl c.2 hcs
      rw[hck,h0] at this;cases this
    have hk1:vis cons (listed.setIfInBounds k true) k=true:=by
     have:(listed.setIfInBounds k true).getD k false=true:=by simp[hsz,hks]
     simp only[vis,this,Bool.true_and,Bool.not_eq_true',List.any_eq_false,Bool.and_eq_true,beq_iff_eq]
     exact fun c hc hcc=>hself c hc hcc.1 hcc.2
    have:=wF (QQ:=QQ) (ops:=ops) (K:=wpAny P .any ops QQ fuel (listed.setIfInBounds k true)) hν hokr hst (hund k hks h0) hw (fun e2 ρ2 tmps2 w2 Φ2 g hst2 hl2 hu2 hrun=>by
     obtain⟨v,hvk,hrun⟩:=hrun
     have hset:=N9 (e:=e) (p:=vis cons listed) (r:=ops.size-t) hvk (fun i=>vis cons listed i||i==k) (fun i=>rfl)
     rw[hm] at hset
     obtain⟨g,hst2⟩:∃ g,St P C (V++D) n (lW e (vis cons (listed.setIfInBounds k true)) vs (ops.size-t)) ρ2 tmps2 w2 Φ2 g:=by
      cases hj:qf cons k with
      | none =>
       rw[hj] at hrun
       simp only at hrun
       subst hrun
       rw[hset] at hst2
       refine⟨g,?_⟩
       have:(fun i=>vis cons listed i||i==k)=vis cons (listed.setIfInBounds k true):=funext fun i=>by
        by_cases hik:k=i
        ·subst hik;rw[hk1];simp
        ·have e0:(i==k)=false:=by simp;omega
         simp only[vis,e0,Bool.or_false,getD_set_ne false hik]
         congr 2
         rw[Bool.eq_iff_iff]
         simp only[List.any_eq_true,Bool.and_eq_true]
         have hne:∀ c∈cons,k≠c.1:=fun c hc h=>Fg hj c hc h.symm
         exact⟨fun⟨c,h1,h2,h3⟩=>⟨c,h1,h2,by rw[getD_set_ne false (hne c h1)];exact h3⟩,fun⟨c,h1,h2,h3⟩=>⟨c,h1,h2,by rw[getD_set_ne false (hne c h1)] at h3;exact h3⟩⟩
       rw[this] at hst2;exact hst2
      | some js =>
       rw[hj] at hrun
       simp only at hrun
       obtain⟨g',hst3⟩:=Gv (js.map (V.length + ·)) hst2
       refine⟨g',?_⟩
       have hlen:e2.length=e.length+(vs.length+(ops.size-t)):=by rw[dm hst2.rel,hl2,←dm hst.rel,yl]
       have e1:l9 e2 (js.map (V.length + ·))=lW e (vis cons (listed.setIfInBounds k true)) vs (ops.size-t):=by
        apply List.ext_getElem?
        intro i
        rw[xC,hlen]
        by_cases hin:i∈js.map (V.length + ·)
        ·obtain⟨q,hqj,rfl⟩:=List.mem_map.1 hin
         have hkq:=(Ah hj).1 hqj
         rw[←hm,mM]
         by_cases hq:q<vs.length
         ·rw[if_pos ⟨by rw[hm];exact hin,by omega⟩,if_pos hq]
          have:vis cons (listed.setIfInBounds k true) q=false:=by
           simp only[vis,Bool.and_eq_false_iff,Bool.not_eq_false',List.any_eq_true,Bool.and_eq_true,beq_iff_eq]
           exact .inr ⟨_,hkq,rfl,by simp[hsz,hks]⟩
          rw[this]
          obtain⟨u,hu⟩:∃ u,vs[q]?=some u:=⟨_,List.getElem?_eq_getElem hq⟩
          simp[hu]
         ·rw[if_neg hq]
          by_cases hq2:q<vs.length+(ops.size-t)
          ·rw[if_pos ⟨by rw[hm];exact hin,by omega⟩,if_pos hq2]
          ·rw[if_neg (by omega),if_neg hq2,List.getElem?_eq_none (by omega)]
        ·rw[if_neg (fun h=>hin h.1),hrun i hin,hset]
         by_cases hil:i<e.length
         ·rw[oG hil,oG hil]
         ·obtain⟨q,rfl⟩:∃ q,i=e.length+q:=⟨i-e.length,by omega⟩
          rw[mM,mM]
          have:(vis cons listed q||q==k)=vis cons (listed.setIfInBounds k true) q:=by
           by_cases hik:k=q
           ·subst hik;rw[hk1];simp
           ·have e0:(q==k)=false:=by simp;omega
            simp only[vis,e0,Bool.or_false,getD_set_ne false hik]
            congr 2
            rw[Bool.eq_iff_iff]
            simp only[List.any_eq_true,Bool.and_eq_true,beq_iff_eq]
            have hne:∀ c∈cons,c.2=q→k≠c.1:=fun c hc h h2=>by
             refine hin (List.mem_map.2 ⟨q,(Ah hj).2 ?_,by omega⟩)
             obtain⟨c1,c2⟩:=c
             simp only at h h2
             subst h h2;exact hc
            exact⟨fun⟨c,h1,h2,h3⟩=>⟨c,h1,h2,by rw[getD_set_ne false (hne c h1 h2)];exact h3⟩,fun⟨c,h1,h2,h3⟩=>⟨c,h1,h2,by rw[getD_set_ne false (hne c h1 h2)] at h3;exact h3⟩⟩
          rw[this]
       rw[e1] at hst3;exact hst3
     refine ih _ ρ2 tmps2 w2 Φ2 g (by simpa using hsz) (fun j hj hjs=>by rw[getD_set_ne false (by omega)];exact htl j hj hjs) (by have:=Ba h0 (by omega) hkt;omega) (fun y hy hly x hx=>?_) hst2 (fun j hj hjl=>?_)
     ·by_cases hky:k=y
      ·subst hky
       exact getD_set_true (hsee x hx)
      ·rw[getD_set_ne false hky] at hly
       exact getD_set_true (hcl y hy hly x hx)
     ·by_cases hkj:k=j
      ·subst hkj;simp[hsz,hks] at hjl
      ·rw[getD_set_ne false hkj] at hjl
       rw[hu2 _ (by omega) (by omega)]
       exact hund j hj hjl)
    exact this
   have rem:∀ k o,k∈Region.ready .any ops listed→ops[k]?=some o→k<t→o.guard=none→∀ t1 x y t2,o.op=.binOp .rem t1 (.tmp x) (.tmp y) t2→∃ v,∀ w',(execOp (⟨tmps,[]⟩:Act).eval o).run P w'=.ok (.value v) w':=by
    intro k o hk ho hkt
    have hsee:=nZ hs hcl hsz hk
    obtain⟨h0,_⟩:=mem_ready.1 hk
    have hks:=(Array.getElem?_eq_some_iff.1 ho).1
    rw[o8 (by omega)] at h0
    obtain⟨so,hso,hokr⟩:=pJ hok (i:=k) (by simpa using ho)
    rw[Nat.zero_add] at hokr
    have hc1:=qm hco
    have hvk0:vis cons listed k=false:=by simp[vis,h0]
    have hw:=vN (r:=ops.size-t) (p:=vis cons listed) (hv k so hkt hso) (by omega) hvk0 (fun i _ hi=>by
     simp only[qZ,Bool.and_eq_true,List.contains_iff_mem,Bool.not_eq_true',List.any_eq_false,bne_iff_ne,beq_iff_eq] at hi
     simp only[vis,Bool.and_eq_true,Bool.not_eq_true',List.any_eq_false,beq_iff_eq]
     refine⟨hsee i hi.1,fun c hc hcc=>?_⟩
     have hck:c.1≠k:=fun h=>by rw[h,h0] at hcc;cases hcc.2
     have h9:c.1<ops.size:=by have:=(hc1 c hc).2;omega
     by_cases hck2:k∈sees.getD c.1 []
     ·have:=hcl c.1 h9 hcc.2 k hck2
      rw[h0] at this;cases this
     ·exact hi.2 c hc ⟨⟨hcc.1,hck⟩,by simpa using hck2⟩)
    rw[hm] at hw
    intro hgn t1 x y t2 hop
    exact Tt hop hgn hokr hst hw
   by_cases hfl:∀ j,j<t→listed.getD j false=false→P9 ops sees t j=true
   ·-- what is left ahead are components of tuples: the least is taken first
    obtain⟨k,hkt,hk0,hkl⟩:∃ k,k<t∧listed.getD k false=false∧∀ j,j<k→listed.getD j false=true:=by
     have:∀ m,m≤t→(∀ j,j<m→listed.getD j false=true)∨∃ k,k<t∧listed.getD k false=false∧∀ j,j<k→listed.getD j false=true:=by
      intro m
      induction m with
      | zero=>exact fun _=>.inl fun j hj=>by omega
      | succ m ihm =>
       intro hmt
       rcases ihm (by omega) with h|h
       ·cases hb:listed.getD m false with
        | true =>
         left
         intro j hj
         by_cases hjm:j=m
         ·subst hjm;exact hb
         ·exact h j (by omega)
        | false=>exact .inr ⟨m,by omega,hb,h⟩
       ·exact .inr h
     rcases this t (Nat.le_refl _) with h|h
     ·exact absurd h hall
     ·exact h
    have hks:k<ops.size:=by omega
    obtain⟨o,ho⟩:∃ o,ops[k]?=some o:=⟨_,Array.getElem?_eq_getElem hks⟩
    have hr:k∈Region.ready .any ops listed:=mem_ready.2 ⟨by rw[o8 (by omega)];exact hk0,o,ho,fun d hd hb=>hkl _ ((jG hs ho).back d hd hb)⟩
    have hst1:=step k o hr ho hkt
    have hf:=hfl k hkt hk0
    simp only[P9,MC,ho,Bool.and_eq_true,decide_eq_true_eq,List.all_eq_true,List.mem_range,Bool.or_eq_true,beq_iff_eq] at hf
    obtain⟨⟨_,hex,hgu⟩,hap⟩:=hf
    have hgn:o.guard=none:=by simpa using hgu
    have hwant:Region.wanted o (yielded ops tmps)=true:=by simp[Region.wanted,hgn]
    rw[if_pos hwant] at hst1
    obtain⟨v,hv1,hv2⟩:∃ v,(∀ w',(execOp (⟨tmps,[]⟩:Act).eval o).run P w'=.ok (.value v) w')∧wpAny P .any ops QQ fuel (listed.setIfInBounds k true) ((⟨tmps,[]⟩:Act).put o.dst v) w:=by
     unfold Oper.wp at hst1
     have copy:∀ x,(∀ w',(execOp (⟨tmps,[]⟩:Act).eval o).run P w'=.ok (.value ((⟨tmps,[]⟩:Act).eval x)) w')→∃ v,(∀ w',(execOp (⟨tmps,[]⟩:Act).eval o).run P w'=.ok (.value v) w')∧wpAny P .any ops QQ fuel (listed.setIfInBounds k true) ((⟨tmps,[]⟩:Act).put o.dst v) w:=fun x hx=>⟨_,hx,by
      rw[hx w] at hst1
      simpa only[Oper.upon] using hst1⟩
     cases hop:o.op with
     | move x=>exact copy x fun w'=>by simp only[execOp,hop];rfl
     | binOp b t1 x y t2 =>
      rw[hop] at hex
      cases b<;>cases x<;>cases y<;>first|(cases hex;done)|skip
      obtain⟨v,hv⟩:=rem k o hr ho hkt hgn _ _ _ _ hop
      refine⟨v,hv,?_⟩
      rw[hv w] at hst1
      simpa only[Oper.upon] using hst1
     | assign x=>exact copy x fun w'=>by simp only[execOp,hop];rfl
     | extract x ix =>
      have hexec:∀ w',(execOp (⟨tmps,[]⟩:Act).eval o).run P w'=((Instr.extract ((⟨tmps,[]⟩:Act).eval x) ix) >>= fun v=>pure (Next.value v)).run P w':=fun w'=>by simp only[execOp,hop]
      rw[hexec] at hst1
      cases hx:(⟨tmps,[]⟩:Act).eval x with
      | tuple vs =>
       cases hvx:vs[ix]? with
       | some v =>
        refine⟨v,fun w'=>by rw[hexec];simp[Instr.extract,hx,hvx],?_⟩
        simpa [Instr.extract,hx,hvx,Oper.upon] using hst1
       | none=>exfalso;revert hst1;simp[Instr.extract,hx,hvx,Oper.upon]
      | _=>exfalso;revert hst1;simp[Instr.extract,hx,Oper.upon]
     | _=>rw[hop] at hex;cases hex
    refine wpAny_first ho (Region.noSelect_spec (by simp only[yD,Bool.and_eq_true] at hs;exact hs.1)) (fun c a w h=>absurd h (hQp c _ w)) fuel listed _ w (fun j oj hj hjk hjl hno=>?_) hr (.inl ⟨hwant,hv1⟩) hv2
    have hjs:=(Array.getElem?_eq_some_iff.1 hj).1
    rw[o8 (by omega)] at hjl
    rcases hap j hjs with (h|h)|h
    ·exact absurd h hjk
    ·rcases h.2 with h2|h2
     ·have:=hfl j h.1 hjl
      simp only[P9,Bool.and_eq_true] at this
      have h3:=this.1.2
      simp only[MC] at h3 h2
      rw[h3] at h2;cases h2
     ·have:=nZ hs hcl hsz hr j (by simpa using h2)
      rw[hjl] at this;cases this
    ·rw[hj] at h
     simp only[Bool.or_eq_true,List.any_eq_true,Bool.and_eq_true,beq_iff_eq,Array.mem_toList_iff] at h
     rcases h with ⟨d,hd,hb,he⟩|h
     ·exact absurd he (hno d hd hb)
     ·exact h
   ·refine⟨fun hr=>?_,fun k hk=>?_⟩
    ·-- some operation can come up
     exfalso
     apply hall
     intro j
     induction j using Nat.strongRecOn with
     | _ j ihj =>
      intro hjt
      cases hb:listed.getD j false with
      | true=>rfl
      | false =>
       exfalso
       have hjs:j<ops.size:=by omega
       have:j∈Region.ready .any ops listed:=mem_ready.2 ⟨by rw[o8 (by omega)];exact hb,_,Array.getElem?_eq_getElem hjs,fun d hd hbd=>by
        have:=(jG hs (Array.getElem?_eq_getElem hjs)).back d hd hbd
        exact ihj d.on this (by omega)⟩
       rw[hr] at this;cases this
    ·have hsee:=nZ hs hcl hsz hk
     obtain⟨h0,o,ho,_⟩:=mem_ready.1 hk
     have hks:=(Array.getElem?_eq_some_iff.1 ho).1
     have hkt:k<t:=by
      by_cases h:k<t
      ·exact h
      ·exfalso
       apply hfl
       intro j hj hjl
       rcases (jG hs ho).all (by omega) j (by omega) with h2|h2
       ·rw[hsee j h2] at hjl;cases hjl
       ·exact h2
     have:=step k o hk ho hkt
     unfold wpOp
     rw[ho]
     simp only
     split
     ·rename_i hw;rw[if_pos hw] at this;exact .inl this
     ·rename_i hw;rw[if_neg hw] at this;exact this
end
def gK:List Bool→List AV→List AV
 | _,[]=>[]
 | b::bs,v::vs=>(if b then v else .dead)::gK bs vs
 | [],_::vs=>.dead::gK [] vs
def fD (P:Program) (e:Env):List dJ→List (List Bool × Option (List Nat))→List AV→(List AV→Prop)→Prop
 | [],_,acc,Q=>Q acc
 | so::rest,(bs,some js)::info,acc,Q=>so.dst=none∧match so.guard with
  | none=>OpC so (e++gK bs acc) (js.map (e.length + ·)) fun v=>fD P e rest info (acc++[v]) (DJ e so Q)
  | some (s,b)=>match kz b (e++gK bs acc)[s]? with
   | some true=>OpC so (e++gK bs acc) (js.map (e.length + ·)) fun v=>fD P e rest info (acc++[v]) (DJ e so Q)
   | some false=>fD P e rest info (acc++[skV so.k]) Q
   | none=>False
 | so::rest,(bs,none)::info,acc,Q=>so.dst=none∧match so.guard with
  | none=>OpV P so (e++gK bs acc) fun v=>fD P e rest info (acc++[v]) Q
  | some (s,b)=>match kz b (e++gK bs acc)[s]? with
   | some true=>OpV P so (e++gK bs acc) fun v=>fD P e rest info (acc++[v]) Q
   | some false=>fD P e rest info (acc++[skV so.k]) Q
   | none=>False
 | _::_,[],_,_=>False
def vO (cons:List (Nat × Nat)) (sees:List (List Nat)) (t:Nat) (info:List (List Bool × Option (List Nat))) (fin:List Bool):Bool :=
 ((List.range t).all fun k=>info[k]?==some ((List.range k).map (qZ cons sees k (sees.getD k [])),qf cons k))&&fin==(List.range t).map (OD cons)
theorem Eh {p:Nat→Bool}:∀ {vs:List AV} {k n:Nat},vs.length=n→gK ((List.range' k n).map p) vs=iK p k vs
 | [],k,n,h=>by cases n<;>simp[gK,iK]
 | v::vs,k,n,h=>by
  cases n with
  | zero=>simp at h
  | succ n =>
   rw[List.range'_succ,List.map_cons]
   simp only[gK,iK]
   rw[Eh (by simpa using h)]
theorem AL {P:Program} {e:Env} {cons:List (Nat × Nat)} {S:List (List Nat)}:∀ {sos:List dJ} {info:List (List Bool × Option (List Nat))} {sees:List (List Nat)} {acc:List AV} {Q:List AV→Prop},
  (∀ i,i<sos.length→info[i]?=some ((List.range (acc.length+i)).map (qZ cons S (acc.length+i) (sees.getD i [])),qf cons (acc.length+i)))→fD P e sos info acc Q→BO P e cons S sos sees acc Q
 | [],info,sees,acc,Q,_,h=>by simpa only[BO,fD] using h
 | so::rest,[],sees,acc,Q,_,h=>by simp only[fD] at h
 | so::rest,(bs,c)::info,sees,acc,Q,hi,h=>by
  have h0:=hi 0 (by simp)
  simp only[List.getElem?_cons_zero,Option.some.injEq,Prod.mk.injEq,Nat.add_zero] at h0
  obtain⟨h1,h2⟩:=h0
  have hd:sees.headD []=sees.getD 0 []:=by cases sees<;>rfl
  have ht:∀ k,sees.tail.getD k []=sees.getD (k+1) []:=fun k=>by cases sees<;>simp
  have hm:gK bs acc=iK (qZ cons S acc.length (sees.headD [])) 0 acc:=by
   rw[h1,hd,List.range_eq_range']
   exact Eh rfl
  have next:∀ {Q:List AV→Prop} v,fD P e rest info (acc++[v]) Q→BO P e cons S rest sees.tail (acc++[v]) Q:=fun v hv=>AL (fun i hil=>by
   have:=hi (i+1) (by simpa using hil)
   simp only[List.getElem?_cons_succ] at this
   rw[this,ht]
   simp[Nat.add_assoc,Nat.add_comm 1 i]) hv
  simp only[BO]
  cases c with
  | some j =>
   simp only[fD] at h
   rw[←h2,←hm]
   refine⟨h.1,?_⟩
   have h:=h.2
   simp only
   split at h
   ·exact pq next h
   ·split at h
    ·exact pq next h
    ·exact next _ h
    ·cases h
  | none =>
   simp only[fD] at h
   rw[←h2,←hm]
   refine⟨h.1,?_⟩
   have h:=h.2
   simp only
   split at h
   ·exact pg next h
   ·split at h
    ·exact pg next h
    ·exact next _ h
    ·cases h
end Go.AM
namespace Go.AM
open Go
def gU (n:Nat):Env:=List.replicate n .dead
def endOk (m:Nat) (e:Env):Bool:=decide (m≤e.length)&&(e.take m).all (MO m)
def yF (m j k:Nat) (e:Env):Option Env:=match e[m+k]? with
 | some v=>if iQ v then none else some ((vw j (e.take m)).set j v)
 | none=>none
def outOf (id:Nat):Exit→Exit
 | .exit i=>if i=id then .normal else .exit i
 | ex=>ex
def ng:AV→Option AV
 | .osl s t n cs=>jI (.osl s t n cs)
 | .bx s t cs=>match jZ cs with
  | some cs'=>some (.bx s t cs')
  | none=>none
 | .agg cs=>match jZ cs with
  | some cs'=>some (.agg cs')
  | none=>none
 | _=>none
def MB (o:Oper):Bool:=(match o.op with | .move _=>true | .assign _=>true | .nilCheck _=>true | .fieldAddr _ _ _=>true|_=>false)&&o.guard.isNone
def qg:Gy→List Nat
 | .alt i _ rest=>i::qg rest
 | _=>[]
def mW (ops:Array Oper):Bool→Array Bool→Gy→Bool
 | true,listed,.done=>(Region.ready .any ops listed).isEmpty
 | true,listed,.first i p=>(match ops[i]? with|some o=>MB o|none=>false)&&Region.free .any ops listed i&&(Region.ready .any ops listed).contains i&&mW ops true (listed.setIfInBounds i true) p
 | top,listed,.alt i p rest=>(!top||((Region.ready .any ops listed).all fun j=>(i::qg rest).contains j))&&(Region.ready .any ops listed).contains i&&mW ops true (listed.setIfInBounds i true) p&&mW ops false listed rest
 | false,_,.nil=>true
 | _,_,_=>false
def Eu (P:Program) (m:Nat) (sops:List dJ):Gy→Env→(Env→Prop)→Prop
 | .done,e,Q=>Q e
 | .first i p,e,Q=>match sops[i]? with
  | some so=>yz P m i so e fun e1=>Eu P m sops p e1 Q
  | none=>False
 | .alt i p rest,e,Q=>(match sops[i]? with
  | some so=>yz P m i so e fun e1=>Eu P m sops p e1 Q
  | none=>False)∧Eu P m sops rest e Q
 | .nil,_,_=>True
inductive jS (P:Program) (m:Nat):ae→Env→Exit→Env→Prop where
 | skip {e:Env}:jS P m .skip e .normal e
 | reg {D:List Nat} {ops:List dJ} {e e2:Env} (h:kw P m 0 ops (e++gU ops.length) (fun e1=>e1=e2)) (hr:endOk m e2=true):jS P m (.reg D ops) e .normal (e2.take m)
 | dreg {D:List Nat} {ops:List dJ} {sees:List (List Nat)} {t:Nat} {cons:List (Nat × Nat)} {info:List (List Bool × Option (List Nat))} {fin:List Bool} {e e2:Env} (h:fD P e (ops.take t) info [] fun vs=>kw P m t (ops.drop t) (e++gK fin vs++gU (ops.length-t)) (fun e1=>e1=e2))
   (hr:endOk m e2=true):jS P m (.dreg D ops sees t cons info fin) e .normal (e2.take m)
 | dregm {j k:Nat} {D:List Nat} {ops:List dJ} {sees:List (List Nat)} {t:Nat} {cons:List (Nat × Nat)} {info:List (List Bool × Option (List Nat))} {fin:List Bool} {e e2 e3:Env} (hd:e.all (yA j)=true) (h:fD P (e.set j .dead) (ops.take t) info [] fun vs=>kw P m t (ops.drop t) (e.set j .dead++gK fin vs++gU (ops.length-t)) (fun e1=>e1=e2))
   (hr:endOk m e2=true) (hv:yF m j k e2=some e3):jS P m (.dregm j k D ops sees t cons info fin) e .normal e3
 | seq {a b:ae} {e e1 e2:Env} {ex:Exit} (h1:jS P m a e .normal e1) (h2:jS P m b e1 ex e2):jS P m (.seq a b) e ex e2
 | seqOut {a b:ae} {e e1:Env} {ex:Exit} (h1:jS P m a e ex e1) (hx:ex≠.normal):jS P m (.seq a b) e ex e1
 | cond {x:Opd} {a b:ae} {e e2:Env} {ex:Exit} {t:Bool} (hx:ev e x=some (.bool t)) (h:jS P m (if t then a else b) (yG x e) ex e2):jS P m (.cond x a b) e ex e2
 | condk {x:Opd} {a b:ae} {e e2:Env} {ex:Exit} {t:Bool} (hx:ev e x=some (.bool t)) (h:jS P m (if t then a else b) e ex e2):jS P m (.condk x a b) e ex e2
 | block {id:Nat} {b:ae} {e e2:Env} {ex:Exit} (h:jS P m b e ex e2):jS P m (.block id b) e (outOf id ex) e2
 | loop {b:ae} {e e1 e2:Env} {ex:Exit} (h1:jS P m b e .normal e1) (h2:jS P m (.loop b) e1 ex e2):jS P m (.loop b) e ex e2
 | loopOut {b:ae} {e e1:Env} {ex:Exit} (h1:jS P m b e ex e1) (hx:ex≠.normal):jS P m (.loop b) e ex e1
 | exit {id:Nat} {e:Env}:jS P m (.exit id) e (.exit id) e
 | ret {e:Env}:jS P m .ret e .ret e
 | forget {sc:ae} {e e2:Env} {ex:Exit} (j:Nat) (h:jS P m sc (e.set j .dead) ex e2):jS P m sc e ex e2
 | frz {b:ae} {e e2:Env} {ex:Exit} {j:Nat} {v v':AV} (he:e[j]?=some v) (hf:ng v=some v') (h:jS P m b (e.set j v') ex e2):jS P m (.frz j b) e ex e2
 | preg {D:List Nat} {ops:List dJ} {pl:Gy} {e e2:Env} (h:Eu P m ops pl (e++gU ops.length) (fun e1=>e1=e2)) (hr:endOk m e2=true):jS P m (.preg D ops pl) e .normal (e2.take m)
 | stp {b:ae} {e e2:Env} {ex:Exit} {r k s:Nat} {p:List Nat} (h:jS P m b ((stX e r p k s).getD e) ex e2):jS P m (.stp r p k s b) e ex e2
 | lnk {b:ae} {e e2:Env} {ex:Exit} {j r k:Nat} {p:List Nat} (h:jS P m b ((lnX e j r p k).getD e) ex e2):jS P m (.lnk j r p k b) e ex e2
 | altL {a b:ae} {e e2:Env} {ex:Exit} (h:jS P m a e ex e2):jS P m (.alt a b) e ex e2
 | altR {a b:ae} {e e2:Env} {ex:Exit} (h:jS P m b e ex e2):jS P m (.alt a b) e ex e2
 | freeze {sc:ae} {e e2:Env} {ex:Exit} (j:Nat) (v v':AV) (he:e[j]?=some v) (hf:ng v=some v') (h:jS P m sc (e.set j v') ex e2):jS P m sc e ex e2
def nodupB:List Nat→Bool
 | []=>true
 | x::xs=>!(xs.contains x)&&nodupB xs
theorem lT:∀ {l:List Nat},nodupB l=true→l.Nodup
 | [],_=>List.nodup_nil
 | x::xs,h=>by
  simp only[nodupB,Bool.and_eq_true,Bool.not_eq_true'] at h
  exact List.nodup_cons.2 ⟨by simpa using h.1,lT h.2⟩
def dN (P:Program) (V:List Nat) (n:Nat):Code→ae→Bool
 | c,.frz _ b=>dN P V n c b
 | c,.stp _ _ _ _ b=>dN P V n c b
 | c,.lnk _ _ _ _ b=>dN P V n c b
 | c,.alt a b=>dN P V n c a&&dN P V n c b
 | .skip,.skip=>true
 | .region _ ops false,.reg D sops=>nodupB (V++D)&&(D.length==sops.length)&&je P V D n ops 0 ops.toList sops
 | .region _ ops true,.dreg D sops sees t cons info fin=>nodupB (V++D)&&(D.length==sops.length)&&je P V D n ops 0 ops.toList sops&&yD ops sees t&&decide (t≤sops.length)&&P.follows .mixedOrders&&ug cons sees t&&vO cons sees t info fin
 | .region _ ops true,.dregm j k D sops sees t cons info fin=>decide (j<V.length)&&(V[j]?==D[k]?)&&decide (k<D.length)&&nodupB (V.set j (n+999)++D)&&(D.length==sops.length)&&je P (V.set j (n+999)) D n ops 0 ops.toList sops&&yD ops sees t&&decide (t≤sops.length)&&P.follows .mixedOrders&&ug cons sees t&&vO cons sees t info fin
 | .region _ ops true,.preg D sops pl=>nodupB (V++D)&&(D.length==sops.length)&&je P V D n ops 0 ops.toList sops&&Region.noSelect ops&&P.follows .mixedOrders&&mW ops true (Array.replicate ops.size false) pl
 | _,.bad=>true
 | .seq a b,.seq a' b'=>dN P V n a a'&&dN P V n b b'
 | .cond c a b,.cond x a' b'=>okX V c x&&dN P V n a a'&&dN P V n b b'
 | .cond c a b,.condk x a' b'=>okX V c x&&dN P V n a a'&&dN P V n b b'
 | .block i b,.block i' b'=>i==i'&&dN P V n b b'
 | .loop b,.loop b'=>dN P V n b b'
 | .exit i,.exit i'=>i==i'
 | .ret,.ret=>true
 | _,_=>false
def Cx.st (C:Cx) (σ:Nat→Value):Cx:=⟨C.w0,C.Φ0,C.fa,σ⟩
def StG (P:Program) (C:Cx) (V:List Nat) (n:Nat) (g:Bool) (e:Env) (a:Act) (w:World):Prop :=
 ∃ σ ρ tmps Φ f,a=⟨tmps,[]⟩∧(g=false→σ=C.σ)∧(∀ s,s<1000000→σ s=C.σ s)∧St P (C.st σ) V n e ρ tmps w Φ f
def Post (P:Program) (C:Cx) (V:List Nat) (n:Nat) (g:Bool) (ex:Exit) (e:Env) (ex':Exit) (a:Act) (w:World):Prop :=
 ex'=ex∧StG P C V n g e a w
theorem vT {P:Program} {C:Cx} {V:List Nat} {n:Nat} {g:Bool} {e:Env} {ρ:List Value} {tmps:Array Value} {w:World} {Φ:Nat→Prop} {f:Cnt} (h:St P C V n e ρ tmps w Φ f):StG P C V n g e ⟨tmps,[]⟩ w :=
 ⟨C.σ,ρ,tmps,Φ,f,rfl,fun _=>rfl,fun _ _=>rfl,h⟩
theorem oI {P:Program} {C:Cx} {V:List Nat} {n:Nat} {g g':Bool} (hg:g=true→g'=true) {e:Env} {a:Act} {w:World} (h:StG P C V n g e a w):StG P C V n g' e a w:=by
 obtain⟨σ,ρ,tmps,Φ,f,h0,h1,h2,h3⟩:=h
 exact⟨σ,ρ,tmps,Φ,f,h0,fun h=>h1 (by cases g with|false=>rfl|true=>rw[hg rfl] at h;cases h),h2,h3⟩
theorem xN {P:Program} {C:Cx} {V:List Nat} {n:Nat} {g g1 g2:Bool} {e:Env} {a:Act} {w:World} {σ:Nat→Value} (h1:g1=false→σ=C.σ) (h2:∀ s,s<1000000→σ s=C.σ s) (hg1:g1=true→g=true) (hg2:g2=true→g=true) (h:StG P (C.st σ) V n g2 e a w):StG P C V n g e a w:=by
 obtain⟨σ2,ρ,tmps,Φ,f,k0,k1,k2,k3⟩:=h
 refine⟨σ2,ρ,tmps,Φ,f,k0,fun h=>?_,fun s hs=>(k2 s hs).trans (h2 s hs),k3⟩
 have a1:g1=false:=by cases g1 with|false=>rfl|true=>rw[hg1 rfl] at h;cases h
 have a2:g2=false:=by cases g2 with|false=>rfl|true=>rw[hg2 rfl] at h;cases h
 exact (k1 a2).trans (h1 a1)
section
variable {P : Program} {C : Cx} {V D : List Nat} {n : Nat}
theorem Bl {w:World} {Φ:Nat→Prop} {σ:Nat→Value} {ρ:List Value}:∀ k,CR P w Φ σ ρ (gU k) (List.replicate k unk) (fun _=>0)
 | 0=>CR_nil
 | k+1=>by
  have h:VR P w Φ σ ρ .dead unk (fun _=>0):=by simp[VR]
  simpa [gU,List.replicate_succ] using CR_cons h (Bl k)
theorem aa2 {w:World} {Φ:Nat→Prop} {σ:Nat→Value} {ρ:List Value} (x:List Value) (v:AV) (cv:Value) (g:Cnt) (h:VR P w Φ σ ρ v cv g):VR P w Φ σ (ρ++x) v cv g:=by
 have low:∀ {r:Nat} {row},rowOf ρ r=row→row≠[]→rowOf (ρ++x) r=row:=by
  intro r row h hne
  unfold rowOf at h ⊢
  cases hr:ρ[r]? with
  | none=>simp[hr] at h;exact absurd h hne
  | some v=>rw[List.getElem?_append_left (List.getElem?_eq_some_iff.1 hr).1,hr];simpa [hr] using h
 have hne:∀ {r p bo row},walk w none (rowOf ρ r) p=some (bo,row)→(row≠[]∨∃ b,bo=some b)→rowOf ρ r≠[]:=by
  rintro r p bo row hw hor h
  rw[h] at hw
  cases p with
  | nil=>simp[walk] at hw;obtain⟨rfl,rfl⟩:=hw;rcases hor with h|⟨b,h⟩<;>simp at h
  | cons o p=>simp[walk] at hw
 refine BP w Φ (ρ++x) (fun _ _=>rfl) (fun _ h=>h) ?_ ?_ ?_ v cv g (fun _ _=>rfl) h
 ·intro r p o cv f h
  simp only[VR] at h ⊢
  obtain⟨⟨bo,row,a,n,c,hw,h1,h2⟩,hz⟩:=h
  have:=hne hw (.inl (by rintro rfl;simp at h1))
  exact⟨⟨bo,row,a,n,c,by rw[low rfl this];exact hw,h1,h2⟩,hz⟩
 ·intro r p o cv f h
  simp only[VR] at h ⊢
  obtain⟨⟨b0,row,hw,h1⟩,hz⟩:=h
  have:=hne hw (.inr ⟨b0,rfl⟩)
  exact⟨⟨b0,row,by rw[low rfl this];exact hw,h1⟩,hz⟩
 ·intro r p o cv f h
  simp only[VR] at h ⊢
  obtain⟨⟨bo,row,g,fs,cs,hw,h1,h2⟩,hz⟩:=h
  have:=hne hw (.inl (by rintro rfl;simp at h1))
  exact⟨⟨bo,row,g,fs,cs,by rw[low rfl this];exact hw,h1,h2⟩,hz⟩
theorem Ew {w:World} {Φ:Nat→Prop} {σ:Nat→Value} {ρ:List Value} (x:List Value):∀ (cs:List AV) (vs:List Value) (g:Cnt),CR P w Φ σ ρ cs vs g→CR P w Φ σ (ρ++x) cs vs g
 | [],vs,g,h=>by simpa only[CR] using h
 | c::cs,vs,g,h=>by
  simp only[CR] at h ⊢
  obtain⟨v,vs',f1,f2,e,h1,h2,hb⟩:=h
  exact⟨v,vs',f1,f2,e,aa2 x _ _ _ h1,Ew x _ _ _ h2,hb⟩
theorem RG {e:Env} {ρ:List Value} {tmps:Array Value} {w:World} {Φ:Nat→Prop} {f:Cnt} (h:St P C V n e ρ tmps w Φ f) (hl:e.length=V.length) (k:Nat) :
  St P C (V++D) n (e++gU k) (ρ++List.replicate k unk) tmps w Φ f:=by
 refine⟨?_,?_,h.inv,h.ext,h.sub,h.new,h.own,h.size⟩
 ·have:=iJ (Ew (List.replicate k unk) _ _ _ h.rel) (Bl (P:=P) (w:=w) (Φ:=Φ) (σ:=C.σ) (ρ:=ρ++List.replicate k unk) k)
  simpa using this
 ·intro j cv hj
  have hρ:ρ.length=V.length:=by rw[←dm h.rel,hl]
  by_cases hjl:j<ρ.length
  ·rw[List.getElem?_append_left hjl] at hj
   rcases h.lk j cv hj with h1|⟨t,ht,h2⟩
   ·exact .inl h1
   ·exact .inr ⟨t,by rw[List.getElem?_append_left (by omega)];exact ht,h2⟩
  ·rw[List.getElem?_append_right (by omega),List.getElem?_replicate] at hj
   split at hj
   ·simp at hj;exact .inl hj.symm
   ·cases hj
theorem DV {w:World} {Φ:Nat→Prop} {σ:Nat→Value} {ρ:List Value}:∀ {cs:List AV} {vs:List Value} {f:Cnt},CR P w Φ σ ρ cs vs f→cs.any iQ=false→hrs cs=false
 | [],vs,f,_,_=>rfl
 | c::cs,vs,f,h,ha=>by
  simp only[CR] at h
  obtain⟨v,vs',f1,f2,rfl,h1,h2,_⟩:=h
  simp only[List.any_cons,Bool.or_eq_false_iff] at ha
  simp only[hrs,Bool.or_eq_false_iff]
  exact⟨kP h1 ha.1,DV h2 ha.2⟩
theorem Ey {w:World} {Φ:Nat→Prop} {σ:Nat→Value} {ρ:List Value} {m:Nat}:∀ {cs:List AV} {vs:List Value} {f:Cnt},CR P w Φ σ ρ cs vs f→cs.all (MO m)=true→CR P w Φ σ (ρ.take m) cs vs f
 | [],vs,f,h,_=>by simpa only[CR] using h
 | c::cs,vs,f,h,ha=>by
  simp only[List.all_cons,Bool.and_eq_true] at ha
  simp only[CR] at h ⊢
  obtain⟨v,vs',f1,f2,e,h1,h2,hb⟩:=h
  refine⟨v,vs',f1,f2,e,?_,Ey h2 ha.2,hb⟩
  have plain:iQ c=false→VR P w Φ σ (ρ.take m) c v f1:=fun h0=>uM w Φ (ρ.take m) (fun _ _=>rfl) (fun _ h=>h) c v f1 (kP h1 h0) (fun _ _=>rfl) h1
  have hc:=ha.1
  simp only[MO,Bool.or_eq_true,Bool.not_eq_true'] at hc
  rcases hc with hc|hc
  ·exact plain hc
  cases c<;>simp only[aua] at hc<;>try (cases hc;done)
  all_goals
   rename_i r p o
   simp only[decide_eq_true_eq] at hc
   have e2:rowOf (ρ.take m) r=rowOf ρ r:=by unfold rowOf;rw[List.getElem?_take,if_pos hc]
   simp only[VR] at h1 ⊢
   rw[e2];exact h1
theorem IV {e:Env} {ρ:List Value} {tmps:Array Value} {w:World} {Φ:Nat→Prop} {f:Cnt} (h:St P C (V++D) n e ρ tmps w Φ f) (hr:(e.take V.length).all (MO V.length)=true) :
  ∃ f',St P C V n (e.take V.length) (ρ.take V.length) tmps w Φ f':=by
 obtain⟨f1,f2,h1,h2,hf⟩:=dM V.length h.rel
 refine⟨f1,Ey h1 hr,fun j cv hj=>?_,h.inv.le (fun b=>by have:=hf b;omega),h.ext,h.sub,h.new,fun b hb=>h.own b (by have:=hf b;omega),h.size⟩
 rw[List.getElem?_take] at hj
 split at hj
 ·rename_i hjl
  rcases h.lk j cv hj with h1|⟨t,ht,h2⟩
  ·exact .inl h1
  ·exact .inr ⟨t,by rw[List.getElem?_append_left hjl] at ht;exact ht,h2⟩
 ·cases hj
theorem Gw {e:Env} {ρ:List Value} {tmps:Array Value} {w:World} {Φ:Nat→Prop} {f:Cnt} (h:St P C V n e ρ tmps w Φ f):St P C V n e ρ tmps { w with drawn:=w.drawn+1 } Φ f :=
 ⟨rE (w:=w) (w':={ w with drawn:=w.drawn+1 }) (fun _ _=>rfl) h.inv.fz _ _ _ h.inv.lt h.rel,h.lk,⟨h.inv.sep,h.inv.lt,h.inv.fz,h.inv.apart,iT h.inv.tab (fun _ _=>rfl) (fun _ h=>h)⟩,h.ext.trans ⟨rfl,rfl,rfl,Nat.le_refl _,fun _ _ _=>rfl⟩ h.own,h.sub,h.new,h.own,h.size⟩
theorem oV {k i:Nat} {ρ:List Value} (h1:ρ.length≤i) (h2:i<ρ.length+k):(ρ++List.replicate k unk)[i]?=some unk:=by
 rw[List.getElem?_append_right h1,List.getElem?_replicate,if_pos (by omega)]
theorem Gl {t k:Nat}:sJ (Array.replicate k false) t=t:=by
 induction t with
 | zero=>rfl
 | succ t ih =>
  simp only[sJ,ih]
  by_cases h:t<k
  ·simp[h]
  ·simp[Array.getElem?_eq_none,h]
theorem qQ {m:Nat} {e:Env} (h:endOk m e=true):(e.take m).length=m∧(e.take m).all (MO m)=true:=by
 simp only[endOk,Bool.and_eq_true,decide_eq_true_eq] at h
 exact⟨by simp;omega,h.2⟩
theorem Eb {x:Opd} {e:Env}:(yG x e).length=e.length:=by cases x<;>simp[yG]
theorem yc {c:Code} {b:ae} (h:dN P V n c (.loop b)=true):∃ c',c=.loop c'∧dN P V n c' b=true:=by
 cases c<;>simp[dN] at h
 ·exact⟨_,rfl,h⟩
theorem xM {e:Env} {ρ:List Value} {tmps:Array Value} {w:World} {Φ:Nat→Prop} {f:Cnt} (h:St P C V n e ρ tmps w Φ f) {j:Nat} {v v':AV} (he:e[j]?=some v) (hf:ng v=some v') :
  ∃ Φ' f',St P C V n (e.set j v') ρ tmps w Φ' f':=by
 obtain⟨cv,f1,f2,hcv,hv,hff,hset⟩:=dO j h.rel he
 have hd:=hset .dead cv (fun _=>0) (by simp only[VR];intro b;trivial)
 have e1:ρ.set j cv=ρ:=gW hcv
 rw[e1] at hd
 have lift:∀ (Φ':Nat→Prop),(∀ b,Φ b→Φ' b)→∀ {cs:List AV} {vs:List Value} {g:Cnt},CR P w Φ C.σ ρ cs vs g→CR P w Φ' C.σ ρ cs vs g:=by
  intro Φ' hsub cs
  induction cs with
  | nil=>intro vs g h;simpa only[CR] using h
  | cons c cs ih =>
   intro vs g h
   simp only[CR] at h ⊢
   obtain⟨u,us,g1,g2,e,h1,h2,hb⟩:=h
   exact⟨u,us,g1,g2,e,BP w Φ' ρ (fun _ _=>rfl) hsub (fun _ _ _ _ _ h=>by simpa only[VR] using h) (fun _ _ _ _ _ h=>by simpa only[VR] using h) (fun _ _ _ _ _ h=>by simpa only[VR] using h) _ _ _ (fun _ _=>rfl) h1,ih h2,hb⟩
 have key:∀ (g k:Cnt),(∀ b,f1 b=g b+k b)→(∀ Φ':Nat→Prop,(∀ b,Φ b→Φ' b)→(∀ b,1≤g b→Φ' b)→VR P w Φ' C.σ ρ v' cv k)→∃ Φ' f',St P C V n (e.set j v') ρ tmps w Φ' f':=by
  intro g k hgk hvr
  have hΦ':∀ b,Φ b→Φ b∨1≤g b:=fun b hb=>.inl hb
  have hd':=lift (fun b=>Φ b∨1≤g b) hΦ' hd
  have hj:(e.set j .dead)[j]?=some .dead:=by rw[List.getElem?_set_self (List.getElem?_eq_some_iff.1 he).1]
  obtain⟨cv2,h1,h2,hcv2,hv2,hff2,hset2⟩:=dO j hd' hj
  rw[hcv] at hcv2
  obtain rfl:=Option.some.inj hcv2
  have hn:=hset2 v' cv k (hvr _ hΦ' (fun b hb=>.inr hb))
  rw[List.set_set,e1] at hn
  have hz:∀ b,h1 b=0:=by simpa only[VR] using hv2
  refine⟨fun b=>Φ b∨1≤g b,_,⟨hn,fun i c hi=>h.lk i c hi,⟨fun b=>?_,fun b hb=>?_,fun b hb=>?_,fun b hb=>?_,iT h.inv.tab (fun _ _=>rfl) hΦ'⟩,h.ext,fun b hb=>.inl (h.sub b hb),fun b hb=>?_,fun b hb=>?_,h.size⟩⟩
  ·have a1:=h.inv.sep b;have a2:=hff b;have a3:=hff2 b;have a4:=hgk b;have a5:=hz b
   show k b+h2 b≤1;omega
  ·have a2:=hff b;have a3:=hff2 b;have a4:=hgk b;have a5:=hz b
   have hb':1≤k b+h2 b:=hb
   exact h.inv.lt b (by omega)
  ·have a2:=hff b;have a4:=hgk b
   rcases hb with hb|hb
   ·exact h.inv.fz b hb
   ·exact h.inv.lt b (by omega)
  ·have a1:=h.inv.sep b;have a2:=hff b;have a3:=hff2 b;have a4:=hgk b;have a5:=hz b
   show k b+h2 b=0
   rcases hb with hb|hb
   ·have:=h.inv.apart b hb;omega
   ·omega
  ·have a2:=hff b;have a4:=hgk b
   rcases hb with hb|hb
   ·exact h.new b hb
   ·have:=h.own b (by omega)
    rcases this with h1|h1
    ·exact .inr (.inl h1)
    ·exact .inr (.inr h1)
  ·have a2:=hff b;have a3:=hff2 b;have a4:=hgk b;have a5:=hz b
   have hb':1≤k b+h2 b:=hb
   exact h.own b (by omega)
 have cells:∀ (cs cs':List AV) (vs:List Value) (g:Cnt) (Φ':Nat→Prop),(∀ b,Φ b→Φ' b)→jZ cs=some cs'→CR P w Φ C.σ ρ cs vs g→(∀ b,1≤g b→Φ' b)→CR P w Φ' C.σ ρ cs' vs (fun _=>0)∧hrs cs'=false:=by
  intro cs
  induction cs with
  | nil=>intro cs' vs g Φ' _ hz hc _;simp[jZ] at hz;subst hz;simp only[CR] at hc;obtain⟨rfl,_⟩:=hc;exact⟨CR_nil,rfl⟩
  | cons c cs ih =>
   intro cs' vs g Φ' hsub hz hc hg
   simp only[jZ] at hz
   cases h1:jI c with
   | none=>rw[h1] at hz;cases hz
   | some c' =>
    rw[h1] at hz
    cases h2:jZ cs with
    | none=>rw[h2] at hz;cases hz
    | some cs2 =>
     rw[h2] at hz
     obtain rfl:=Option.some.inj hz
     simp only[CR] at hc
     obtain⟨u,us,g1,g2,rfl,hu,hus,hb⟩:=hc
     obtain⟨k1,k2⟩:=uA Φ' hsub c c' u g1 h1 (fun b hb1=>hg b (by have:=hb b;omega)) hu
     obtain⟨k3,k4⟩:=ih cs2 us g2 Φ' hsub h2 hus (fun b hb1=>hg b (by have:=hb b;omega))
     refine⟨?_,by simp only[hrs,Bool.or_eq_false_iff];exact⟨jY k1,k4⟩⟩
     have:=CR_cons (k2 (fun _=>0) (fun _=>rfl)) k3
     simpa using this
 cases v with
 | osl s t m cs =>
  simp only[ng] at hf
  exact key f1 (fun _=>0) (fun b=>by simp) fun Φ' hsub hg=>(uA Φ' hsub _ _ _ _ hf hg hv).2 _ (fun _=>rfl)
 | bx s t cs =>
  simp only[ng] at hf
  cases h1:jZ cs with
  | none=>rw[h1] at hf;cases hf
  | some cs' =>
   rw[h1] at hf
   obtain rfl:=Option.some.inj hf
   simp only[VR] at hv
   obtain⟨hs,hx,b0,arr,g,rfl,hg0,hc,hb⟩:=hv
   refine key g (fun b=>if b=b0 then 1 else 0) (fun b=>by rw[hb b];omega) fun Φ' hsub hg=>?_
   obtain⟨k1,k2⟩:=cells cs cs' _ g Φ' hsub h1 hc hg
   simp only[VR]
   exact⟨hs,k2,b0,arr,fun _=>0,rfl,hg0,k1,fun b=>by simp⟩
 | agg cs =>
  simp only[ng] at hf
  cases h1:jZ cs with
  | none=>rw[h1] at hf;cases hf
  | some cs' =>
   rw[h1] at hf
   obtain rfl:=Option.some.inj hf
   simp only[VR] at hv
   obtain⟨arr,rfl,hc⟩:=hv
   refine key f1 (fun _=>0) (fun b=>by simp) fun Φ' hsub hg=>?_
   simp only[VR]
   exact⟨arr,rfl,(cells cs cs' _ f1 Φ' hsub h1 hc hg).1⟩
 | _=>simp[ng] at hf
structure asW (P:Program) (V:List Nat) (n:Nat) (sc:ae) (e:Env) (ex:Exit) (e2:Env):Prop where
 len:e2.length=V.length
 wp:∀ (C:Cx) (c:Code),dN P V n c sc=true→∀ ρ tmps w Φ f,St P C V n e ρ tmps w Φ f→c.wp P (Post P C V n (gst sc) ex e2) ⟨tmps,[]⟩ w
 loop:∀ b,sc=.loop b→∃ k,∀ (C:Cx) (c:Code),dN P V n c b=true→∀ ρ tmps w Φ f,St P C V n e ρ tmps w Φ f→Code.rounds P c (Post P C V n (gst b) ex e2) k ⟨tmps,[]⟩ w
theorem Ag {D:List Nat} {ops:List dJ} {sees:List (List Nat)} {t:Nat} {cons:List (Nat × Nat)} {info:List (List Bool × Option (List Nat))} {fin:List Bool} {e e2:Env} {id:Nat} {os:Array Oper} {ρ:List Value} {tmps:Array Value} {w:World} {Φ:Nat→Prop} {f:Cnt}
  {Q:Exit→Act→World→Prop} (hl:e.length=V.length) (hnd:nodupB (V++D)=true) (hok:je P V D n os 0 os.toList ops=true) (hsee:yD os sees t=true) (ht:t≤ops.length) (hmix:P.follows .mixedOrders=true) (hco:ug cons sees t=true) (hinf:vO cons sees t info fin=true)
  (hst:St P C V n e ρ tmps w Φ f) (h:fD P e (ops.take t) info [] fun vs=>kw P V.length t (ops.drop t) (e++gK fin vs++gU (ops.length-t)) (fun e1=>e1=e2))
  (hQ:∀ ρ1 tmps1 w1 Φ1 f1,St P C (V++D) n e2 ρ1 tmps1 w1 Φ1 f1→Q .normal ⟨tmps1,[]⟩ w1) (hQp:∀ c a w,¬Q (.panic c) a w):(Code.region id os true).wp P Q ⟨tmps,[]⟩ w:=by
 simp only[vO,Bool.and_eq_true,List.all_eq_true,List.mem_range,beq_iff_eq] at hinf
 replace h:=AL (cons:=cons) (S:=sees) (sees:=sees) (fun i hi=>by simpa using hinf.1 i (by simp at hi;omega)) h
 have hρ:ρ.length=V.length:=by rw[←dm hst.rel];omega
 have hos:os.size=ops.length:=by have:=jX hok;simpa using this
 obtain⟨vs,hvl,⟨ws,hws⟩,htail,hvals⟩:=DU h
 simp only[List.length_nil,Nat.zero_add,List.length_take] at hvl
 have hvt:vs.length=t:=by omega
 rw[hinf.2,List.range_eq_range',Eh hvt] at htail
 have hst0:=Gw (RG (D:=D) hst (by omega) ops.length)
 refine wp_region_any hmix (KW (C:=C) (Q:=fun e1=>e1=e2) (e:=e) (vs:=vs) (lT hnd) hok hsee hco (by omega) (by omega) hvt (fun e1 ρ1 tmps1 w1 Φ1 f1 hst1 he1=>?_) hQp (fun k so hk hso=>?_) ?_ os.size _ (ρ++List.replicate ops.length unk) tmps _ Φ f (by simp) (fun j _ hj=>by simp[hj]) (by rw[Gl];omega)
  (fun y hy hly=>by simp[hy] at hly) ?_ (fun j hj _=>oV (by omega) (by omega)))
 ·subst he1
  exact hQ _ _ _ _ _ hst1
 ·have:=hvals k so (by rw[List.getElem?_take,if_pos hk];exact hso)
  simpa using this
 ·rw[hos];exact htail
 ·have:lW e (vis cons (Array.replicate os.size false)) vs (os.size-t)=e++gU ops.length:=by
   have hmask:iK (vis cons (Array.replicate os.size false)) 0 vs=gU t:=by
    apply List.ext_getElem?
    intro i
    rw[nN]
    simp only[gU,List.getElem?_replicate,Nat.zero_add]
    by_cases hi:i<t
    ·rw[if_pos hi,List.getElem?_eq_getElem (by omega)]
     have:vis cons (Array.replicate os.size false) i=false:=by simp[vis,show i<os.size by omega]
     simp[this]
    ·rw[if_neg hi,List.getElem?_eq_none (by omega)];rfl
   rw[lW,hmask,gU,gU,List.append_assoc,List.replicate_append_replicate,hos]
   congr 2
   omega
  rw[this]
  exact hst0
theorem aF8 {e:Env} {ρ:List Value} {w:World} {Φ:Nat→Prop} {σ:Nat→Value} {f:Cnt} (h:CR P w Φ σ ρ e ρ f) (hr:e.any iQ=false):hrs e=false:=DV h hr
theorem H7 {e:Env} {j:Nat} (h:e.all (yA j)=true):vw j e=e:=by
 unfold vw
 refine (List.map_congr_left fun v hv=>?_).trans (List.map_id e)
 rw[if_pos (List.all_eq_true.1 h v hv)];rfl
theorem OB {e:Env} {ρ:List Value} {tmps:Array Value} {w:World} {Φ:Nat→Prop} {f:Cnt} {j:Nat} (h:St P C V n e ρ tmps w Φ f) (hl:e.length=V.length) (hr:e.all (yA j)=true) (hj:j<V.length) :
  ∃ f',St P C (V.set j (n+999)) n (e.set j .dead) (ρ.set j unk) tmps w Φ f':=by
 obtain⟨f0,s,hf0⟩:=sZ (j:=j) (x:=unk) h.rel
 rw[H7 hr] at s
 have hd:e[j]?=some (e[j]'(by omega)):=List.getElem?_eq_getElem (by omega)
 obtain⟨cv,f1,f2,hcv,hv,hf,hset⟩:=dO j s hd
 have s2:=hset .dead unk (fun _=>0) (by simp[VR])
 have hle:∀ b,(fun b=>0+f2 b) b≤f b:=fun b=>by have:=hf b;have:=hf0 b;show 0+f2 b≤f b;omega
 refine⟨_,s2,fun i u hi=>?_,h.inv.le hle,h.ext,h.sub,h.new,fun b hb=>h.own b (Nat.le_trans hb (hle b)),h.size⟩
 rw[List.getElem?_set] at hi
 split at hi
 ·split at hi
  ·exact .inl (Option.some.inj hi).symm
  ·cases hi
 ·rename_i hne
  rcases h.lk i u hi with h1|⟨t,ht,h2⟩
  ·exact .inl h1
  ·exact .inr ⟨t,by rw[List.getElem?_set_ne hne];exact ht,h2⟩
theorem OA {e:Env} {ρ:List Value} {tmps:Array Value} {w:World} {Φ:Nat→Prop} {f:Cnt} {j k x:Nat} {v:AV} (h:St P C (V.set j x++D) n e ρ tmps w Φ f) (hr:(e.take V.length).all (MO V.length)=true) (hj:j<V.length) (hjk:V[j]?=D[k]?) (hk:k<D.length)
  (hv:e[V.length+k]?=some v) (hvr:iQ v=false):∃ ρ' f',St P C V n ((vw j (e.take V.length)).set j v) ρ' tmps w Φ f':=by
 obtain⟨f1,f2,h1,h2,hf⟩:=dM V.length h.rel
 obtain⟨cv,g1,g2,hcv,hvr1,hg,_⟩:=dO k h2 (by rw[List.getElem?_drop];exact hv)
 have hcv':ρ[V.length+k]?=some cv:=by rw[List.getElem?_drop] at hcv;exact hcv
 obtain⟨f1',s1,hf1⟩:=sZ (j:=j) (x:=cv) (Ey h1 hr)
 have s2:=uM w Φ ((ρ.take V.length).set j cv) (fun _ _=>rfl) (fun _ h=>h) v cv g1 (kP hvr1 hvr) (fun _ _=>rfl) hvr1
 have hlen:V.length≤e.length:=by have:=(List.getElem?_eq_some_iff.1 hv).1;omega
 obtain⟨g,hg1,hg2⟩:=IY s1 s2 (i:=j) (by rw[qx];simp;omega)
 have hle:∀ b,g b≤f b:=fun b=>by have:=hg2 b;have:=hf b;have:=hg b;have:=hf1 b;omega
 refine⟨(ρ.take V.length).set j cv,g,⟨hg1,fun i u hi=>?_,h.inv.le hle,h.ext,h.sub,h.new,fun b hb=>h.own b (Nat.le_trans hb (hle b)),h.size⟩⟩
 rw[List.getElem?_set] at hi
 split at hi
 ·rename_i hij
  subst hij
  split at hi
  ·have hu:=Option.some.inj hi
   subst hu
   rcases h.lk _ _ hcv' with h1|⟨t,ht,h2⟩
   ·exact .inl h1
   ·refine .inr ⟨t,?_,h2⟩
    rw[List.getElem?_append_right (by simp)] at ht
    simp at ht
    rw[hjk];exact ht
  ·cases hi
 ·rename_i hne
  rw[List.getElem?_take] at hi
  split at hi
  ·rename_i hil
   rcases h.lk i u hi with h1|⟨t,ht,h2⟩
   ·exact .inl h1
   ·rw[List.getElem?_append_left (by simpa using hil),List.getElem?_set_ne hne] at ht
    exact .inr ⟨t,ht,h2⟩
  ·cases hi
theorem x8 {c:Code} {Q Q':Exit→Act→World→Prop} (hq:∀ e a w,Q e a w→Q' e a w):∀ (k:Nat) {a:Act} {w:World},Code.rounds P c Q k a w→Code.rounds P c Q' k a w
 | 0,a,w,h=>h
 | k+1,a,w,h=>by
  rw[rounds_succ] at h ⊢
  refine wp_mono h fun e a w h=>?_
  cases e<;>first|exact x8 hq k h|exact hq _ _ _ h
theorem Uc {D:List Nat} {ops:Array Oper} {k:Nat} {o:Oper} {so:dJ} {e:Env} {ρ:List Value} {tmps:Array Value} {w:World} {Φ:Nat→Prop} {f:Cnt} {QE:Env→Prop} (hf:MB o=true) (hok1:zG P V D n k ops o so=true)
  (hst:St P C (V++D) n e ρ tmps w Φ f) (h:yz P V.length k so e QE):∃ v,∀ w',(execOp (⟨tmps,[]⟩:Act).eval o).run P w'=.ok (.value v) w':=by
 simp only[MB,Bool.and_eq_true,Option.isNone_iff_eq_none] at hf
 obtain⟨hf,hg⟩:=hf
 obtain⟨hdst,hguard,hk⟩:=rZ hok1
 have hsg:so.guard=none:=by
  rcases hguard with ⟨_,h⟩|⟨_,_,_,_,h,_⟩
  ·exact h
  ·rw[hg] at h;cases h
 simp only[yz,hsg] at h
 unfold OpW at h
 cases hop:o.op with
 | move x=>exact⟨_,fun w'=>by simp only[execOp,hop];rfl⟩
 | assign x=>exact⟨_,fun w'=>by simp only[execOp,hop];rfl⟩
 | nilCheck x =>
  rcases hk with ⟨s,hs,hoks⟩|⟨g,args,fr,c,hs,ho2,_⟩|⟨_,args,c,_,hs,ho2,_⟩|⟨_,args,c,_,hs,ho2,_⟩
  ·rw[hs] at h
   simp only at h
   split at h
   ·rename_i v e' hx
    rw[hop] at hoks
    cases s<;>simp only[gz] at hoks<;>try (cases hoks;done)
    rename_i y
    simp only[opx] at hx
    have key:∃ ad,Act.eval ⟨tmps,[]⟩ x=.pointer (some ad):=by
     split at hx
     ·rename_i cs hv
      have c0:=dC (a:=⟨tmps,[]⟩) hst.rel hst.lk hoks hv (fun _=>0) (fun _=>rfl)
      simp only[VR] at c0
      obtain⟨⟨ad,e1,_⟩,_⟩:=c0
      exact⟨ad,e1⟩
     ·rename_i r p o0 hv
      have c0:=dC (a:=⟨tmps,[]⟩) hst.rel hst.lk hoks hv (fun _=>0) (fun _=>rfl)
      simp only[VR] at c0
      obtain⟨⟨b0,row,_,e1⟩,_⟩:=c0
      exact⟨_,e1⟩
     ·cases hx
    obtain⟨ad,e1⟩:=key
    exact⟨_,fun w'=>by simp[execOp,hop,e1];rfl⟩
   ·cases h
  ·rw[hop] at ho2;cases ho2
  ·rw[hop] at ho2;cases ho2
  ·rw[hop] at ho2;cases ho2
 | fieldAddr t x fi =>
  rcases hk with ⟨s,hs,hoks⟩|⟨g,args,fr,c,hs,ho2,_⟩|⟨_,args,c,_,hs,ho2,_⟩|⟨_,args,c,_,hs,ho2,_⟩
  ·rw[hs] at h
   simp only at h
   split at h
   ·rename_i v e' hx
    rw[hop] at hoks
    cases s<;>simp only[gz] at hoks<;>try (cases hoks;done)
    rename_i off y
    simp only[Bool.and_eq_true] at hoks
    obtain⟨hx1,hsq⟩:=hoks
    split at hsq
    ·rename_i fs hu
     split at hsq
     ·rename_i fd hfd
      simp only[Bool.and_eq_true,beq_iff_eq] at hsq
      obtain⟨rfl,hsq⟩:=hsq
      split at hsq
      ·rename_i sz hsz
       simp at hsq
       simp only[mi,Option.map_eq_some_iff] at hsz
       obtain⟨i,hi,rfl⟩:=hsz
       have hne:¬i.size=0:=by omega
       simp only[opx] at hx
       have key:∃ ad,Act.eval ⟨tmps,[]⟩ x=.pointer (some ad):=by
        split at hx
        ·rename_i cs hv
         have c0:=dC (a:=⟨tmps,[]⟩) hst.rel hst.lk hx1 hv (fun _=>0) (fun _=>rfl)
         simp only[VR] at c0
         obtain⟨⟨ad,e1,_⟩,_⟩:=c0
         exact⟨ad,e1⟩
        ·rename_i r p o0 hv
         have c0:=dC (a:=⟨tmps,[]⟩) hst.rel hst.lk hx1 hv (fun _=>0) (fun _=>rfl)
         simp only[VR] at c0
         obtain⟨⟨b0,row,_,e1⟩,_⟩:=c0
         exact⟨_,e1⟩
        ·cases hx
       obtain⟨ad,e1⟩:=key
       exact⟨.pointer (some (ad.add fd.offset)),fun w'=>by simp[execOp,hop,e1,Instr.fieldAt,run_underlying hu,hfd,Instr.sureAddr,fieldPlace,sizeOf,typeInfo,hi,hne]⟩
      ·cases hsq
     ·cases hsq
    ·cases hsq
   ·cases h
  ·rw[hop] at ho2;cases ho2
  ·rw[hop] at ho2;cases ho2
  ·rw[hop] at ho2;cases ho2
 | _=>rw[hop] at hf;cases hf
theorem Ht {D:List Nat} {ops:Array Oper} {sops:List dJ} {QQ:Exit→Act→World→Prop} {Q:Env→Prop} (hν:(V++D).Nodup) (hok:je P V D n ops 0 ops.toList sops=true) (hsel:Region.noSelect ops=true)
  (hQ:∀ e ρ tmps w Φ f,St P C (V++D) n e ρ tmps w Φ f→Q e→QQ .normal ⟨tmps,[]⟩ w) (hQp:∀ c a w,¬QQ (.panic c) a w) :
  ∀ (p:Gy) (top:Bool) (listed:Array Bool) (e:Env) (ρ:List Value) (tmps:Array Value) (w:World) (Φ:Nat→Prop) (f:Cnt),mW ops top listed p=true→listed.size=ops.size →
   St P C (V++D) n e ρ tmps w Φ f→e.length=V.length+ops.size→(∀ j,j<ops.size→listed.getD j false=false→ρ[V.length+j]?=some unk)→Eu P V.length sops p e Q →
   (top=true→wpAny P .any ops QQ (sJ listed ops.size) listed ⟨tmps,[]⟩ w) ∧
   (∀ i∈qg p,∃ fuel,sJ listed ops.size=fuel+1∧wpOp P ops QQ i (wpAny P .any ops QQ fuel (listed.setIfInBounds i true)) ⟨tmps,[]⟩ w):=by
 intro p
 have step:∀ (p:Gy),(∀ (top:Bool) (listed:Array Bool) (e:Env) (ρ:List Value) (tmps:Array Value) (w:World) (Φ:Nat→Prop) (f:Cnt),mW ops top listed p=true→listed.size=ops.size →
   St P C (V++D) n e ρ tmps w Φ f→e.length=V.length+ops.size→(∀ j,j<ops.size→listed.getD j false=false→ρ[V.length+j]?=some unk)→Eu P V.length sops p e Q →
   (top=true→wpAny P .any ops QQ (sJ listed ops.size) listed ⟨tmps,[]⟩ w) ∧
   (∀ i∈qg p,∃ fuel,sJ listed ops.size=fuel+1∧wpOp P ops QQ i (wpAny P .any ops QQ fuel (listed.setIfInBounds i true)) ⟨tmps,[]⟩ w)) →
   ∀ (i:Nat) (listed:Array Bool) (e:Env) (ρ:List Value) (tmps:Array Value) (w:World) (Φ:Nat→Prop) (f:Cnt),mW ops true (listed.setIfInBounds i true) p=true→listed.size=ops.size→i∈Region.ready .any ops listed →
   St P C (V++D) n e ρ tmps w Φ f→e.length=V.length+ops.size→(∀ j,j<ops.size→listed.getD j false=false→ρ[V.length+j]?=some unk)→(match sops[i]? with
    | some so=>yz P V.length i so e fun e1=>Eu P V.length sops p e1 Q
    | none=>False) →
   ∃ fuel o so,sJ listed ops.size=fuel+1∧ops[i]?=some o∧sops[i]?=some so∧zG P V D n i ops o so=true∧yz P V.length i so e (fun e1=>Eu P V.length sops p e1 Q) ∧
    (if Region.wanted o (yielded ops tmps)=true then Oper.wp P o ⟨tmps,[]⟩ w (wpAny P .any ops QQ fuel (listed.setIfInBounds i true)) QQ else wpAny P .any ops QQ fuel (listed.setIfInBounds i true) ((⟨tmps,[]⟩:Act).put o.dst undef) w):=by
  intro p ih i listed e ρ tmps w Φ f hpl hsz hr hst hlen hund hrun
  obtain⟨h0,o,ho,_⟩:=mem_ready.1 hr
  have his:=(Array.getElem?_eq_some_iff.1 ho).1
  rw[o8 (by omega)] at h0
  obtain⟨so,hso,hokr⟩:=pJ hok (i:=i) (by simpa using ho)
  rw[Nat.zero_add] at hokr
  rw[hso] at hrun
  have hcnt:=Ba h0 (by omega) (t:=ops.size) his
  refine⟨sJ (listed.setIfInBounds i true) ops.size,o,so,hcnt.symm,ho,hso,hokr,hrun,?_⟩
  have hρl:e.length=ρ.length:=dm hst.rel
  exact wF (QQ:=QQ) (ops:=ops) (K:=wpAny P .any ops QQ (sJ (listed.setIfInBounds i true) ops.size) (listed.setIfInBounds i true)) hν hokr hst (hund i his h0) hrun (fun e2 ρ2 tmps2 w2 Φ2 g hst2 hl2 hu2 hrun2 =>
   (ih true _ e2 ρ2 tmps2 w2 Φ2 g hpl (by simpa using hsz) hst2 (by rw[dm hst2.rel,hl2,←hρl];exact hlen) (fun j hj hjl=>by
    have hne:i≠j:=by rintro rfl;simp[hsz,his] at hjl
    rw[getD_set_ne false hne] at hjl
    rw[hu2 _ (by omega) (by omega)]
    exact hund j hj hjl) hrun2).1 rfl)
 induction p with
 | done =>
  intro top listed e ρ tmps w Φ f hpl hsz hst hlen hund hrun
  refine⟨fun ht=>?_,fun i hi=>by simp[qg] at hi⟩
  subst ht
  simp only[mW,List.isEmpty_iff] at hpl
  have hq:=hQ _ _ _ _ _ _ hst hrun
  cases sJ listed ops.size with
  | zero=>exact⟨hpl,hq⟩
  | succ k=>exact⟨fun _=>hq,by rw[hpl];simp⟩
 | nil =>
  intro top listed e ρ tmps w Φ f hpl hsz hst hlen hund hrun
  cases top with
  | true=>simp[mW] at hpl
  | false=>exact⟨fun h=>(by cases h),fun i hi=>by simp[qg] at hi⟩
 | first i p ih =>
  intro top listed e ρ tmps w Φ f hpl hsz hst hlen hund hrun
  refine⟨fun ht=>?_,fun i hi=>by simp[qg] at hi⟩
  subst ht
  simp only[mW,Bool.and_eq_true,List.contains_iff_mem] at hpl
  obtain⟨⟨⟨h1,h2⟩,h3⟩,h4⟩:=hpl
  obtain⟨fuel,o,so,hc,ho,hso,hokr,hrw,hw⟩:=step p ih i listed e ρ tmps w Φ f h4 hsz h3 hst hlen hund hrun
  rw[ho] at h1
  obtain⟨v,hv⟩:=Uc h1 hokr hst hrw
  have hgn:o.guard=none:=by simp only[MB,Bool.and_eq_true,Option.isNone_iff_eq_none] at h1;exact h1.2
  have hwant:Region.wanted o (yielded ops tmps)=true:=by simp[Region.wanted,hgn]
  rw[if_pos hwant] at hw
  unfold Oper.wp at hw
  rw[hv w] at hw
  simp only[Oper.upon] at hw
  rw[hc]
  exact wpAny_first ho (Region.noSelect_spec hsel) (fun c a w h=>absurd h (hQp c _ w)) fuel listed _ w (Region.free_spec ho h2) h3 (.inl ⟨hwant,hv⟩) hw
 | alt i p rest ih1 ih2 =>
  intro top listed e ρ tmps w Φ f hpl hsz hst hlen hund hrun
  have hpl':(!top||((Region.ready .any ops listed).all fun j=>(i::qg rest).contains j))=true∧(Region.ready .any ops listed).contains i=true∧mW ops true (listed.setIfInBounds i true) p=true∧mW ops false listed rest=true:=by
   cases top<;>simpa only[mW,Bool.and_eq_true,and_assoc] using hpl
  obtain⟨h1,h2,h3,h4⟩:=hpl'
  rw[List.contains_iff_mem] at h2
  obtain⟨hr1,hr2⟩:=hrun
  obtain⟨fuel,o,so,hc,ho,hso,hokr,hrw,hw⟩:=step p ih1 i listed e ρ tmps w Φ f h3 hsz h2 hst hlen hund hr1
  have hmine:wpOp P ops QQ i (wpAny P .any ops QQ fuel (listed.setIfInBounds i true)) ⟨tmps,[]⟩ w:=by
   unfold wpOp
   rw[ho]
   simp only
   split
   ·rename_i hwt;rw[if_pos hwt] at hw;exact .inl hw
   ·rename_i hwt;rw[if_neg hwt] at hw;exact hw
  have hrest:=(ih2 false listed e ρ tmps w Φ f h4 hsz hst hlen hund hr2).2
  have hall:∀ j∈qg (.alt i p rest),∃ fuel,sJ listed ops.size=fuel+1∧wpOp P ops QQ j (wpAny P .any ops QQ fuel (listed.setIfInBounds j true)) ⟨tmps,[]⟩ w:=by
   intro j hj
   simp only[qg,List.mem_cons] at hj
   rcases hj with rfl|hj
   ·exact⟨fuel,hc,hmine⟩
   ·exact hrest j hj
  refine⟨fun ht=>?_,hall⟩
  subst ht
  simp only[Bool.not_true,Bool.false_or,List.all_eq_true,List.contains_iff_mem] at h1
  rw[hc]
  refine⟨fun hr=>(by rw[hr] at h2;cases h2),fun j hj=>?_⟩
  obtain⟨fuel2,hc2,hw2⟩:=hall j (h1 j hj)
  have:fuel2=fuel:=by omega
  subst this
  exact hw2
section
variable {w : World} {Φ : Nat → Prop} {σ σ' : Nat → Value} {ρ : List Value} {q : Nat → Bool} (hq : ∀ s, q s = true → σ' s = σ s)
include hq
mutual
theorem Gq:∀ (v:AV) (cv:Value) (f:Cnt),DF q v=true→VR P w Φ σ ρ v cv f→VR P w Φ σ' ρ v cv f
 | .osl s e n cs,cv,f,hk,h=>by
  simp only[DF,Bool.and_eq_true,Bool.or_eq_true,beq_iff_eq] at hk
  simp only[VR] at h ⊢
  obtain⟨h0,hx,xs,f1,ho,hc,hb⟩:=h
  exact⟨fun h1=>by rw[hq s (hk.1.resolve_left h1)];exact h0 h1,hx,xs,f1,ho,jK cs _ _ hk.2 hc,hb⟩
 | .bx s t cs,cv,f,hk,h=>by
  simp only[DF,Bool.and_eq_true,Bool.or_eq_true,beq_iff_eq] at hk
  simp only[VR] at h ⊢
  obtain⟨h0,hx,b0,arr,f1,e,hg,hc,hb⟩:=h
  exact⟨fun h1=>by rw[hq s (hk.1.resolve_left h1)];exact h0 h1,hx,b0,arr,f1,e,hg,jK cs _ _ hk.2 hc,hb⟩
 | .agg cs,cv,f,hk,h=>by
  simp only[DF,Bool.or_eq_true] at hk
  simp only[VR] at h ⊢
  obtain⟨arr,e,hc⟩:=h
  exact⟨arr,e,jK cs _ _ hk hc⟩
 | .tup sh cs,cv,f,hk,h=>by
  simp only[DF,Bool.or_eq_true] at hk
  simp only[VR] at h ⊢
  obtain⟨arr,e,hs,hc⟩:=h
  exact⟨arr,e,hs,jK cs _ _ hk hc⟩
 | .fn g cs,cv,f,hk,h=>by
  simp only[DF,Bool.or_eq_true] at hk
  simp only[VR] at h ⊢
  obtain⟨vs,e,hs,hc⟩:=h
  exact⟨vs,e,hs,jK cs _ _ hk hc⟩
 | .gone s,cv,f,hk,h=>by
  simp only[DF,Bool.or_eq_true,beq_iff_eq] at hk
  simp only[VR] at h ⊢
  exact⟨fun h1=>by rw[hq s (hk.resolve_left h1)];exact h.1 h1,h.2⟩
 | .dead,cv,f,_,h | .int _ _,cv,f,_,h | .bool _,cv,f,_,h | .str _,cv,f,_,h | .nilf,cv,f,_,h | .nilp,cv,f,_,h | .nsl _,cv,f,_,h | .rsl _ _,cv,f,_,h | .rp _,cv,f,_,h | .ps _ _ _,cv,f,_,h | .pp _ _ _,cv,f,_,h | .pf _ _ _,cv,f,_,h | .pw _ _ _ _ _ _,cv,f,_,h =>
  sig σ' _ _ _ (.inl rfl) h
theorem jK:∀ (cs:List AV) (vs:List Value) (f:Cnt),(gJ cs=true∨qW q cs=true)→CR P w Φ σ ρ cs vs f→CR P w Φ σ' ρ cs vs f
 | [],vs,f,_,h=>by simpa only[CR] using h
 | c::cs,vs,f,hk,h=>by
  rcases hk with hk|hk
  ·exact sigs σ' hk h
  ·simp only[qW,Bool.and_eq_true] at hk
   simp only[CR] at h ⊢
   obtain⟨v,vs',f1,f2,e,h1,h2,hb⟩:=h
   exact⟨v,vs',f1,f2,e,Gq c _ _ hk.1 h1,jK cs _ _ (.inr hk.2) h2,hb⟩
end
end
theorem FH {e e1:Env} {r k s:Nat} {p:List Nat} (h:stX e r p k s=some e1):(s=0∨(1000000≤s∧qW (TQ s) e=true))∧∃ row,jv e r p=some row∧∃ c c',row[k]?=some c∧e1=dY e r p (row.set k c') ∧
  ((∃ s0 t n cs,c=.osl s0 t n cs∧c'=.osl s t n cs)∨(∃ s0 t cs,c=.bx s0 t cs∧c'=.bx s t cs)):=by
 unfold stX at h
 split at h
 ·rename_i hc
  refine⟨hc,?_⟩
  unfold stE at h
  split at h
  ·rename_i row hrow
   refine⟨row,hrow,?_⟩
   split at h
   ·rename_i s0 t n cs hk
    exact⟨_,_,hk,(Option.some.inj h).symm,.inl ⟨_,_,_,_,rfl,rfl⟩⟩
   ·rename_i s0 t cs hk
    exact⟨_,_,hk,(Option.some.inj h).symm,.inr ⟨_,_,_,rfl,rfl⟩⟩
   ·cases h
  ·cases h
 ·cases h
theorem Ti {e e1:Env} {r k s:Nat} {p:List Nat} (h:stX e r p k s=some e1):e1.length=e.length:=by
 obtain⟨_,row,_,c,c',_,rfl,_⟩:=FH h
 unfold dY
 split<;>simp
theorem asT {e e1:Env} {ρ:List Value} {tmps:Array Value} {w:World} {Φ:Nat→Prop} {f:Cnt} {r k s:Nat} {p:List Nat} (h:St P C V n e ρ tmps w Φ f) (hx:stX e r p k s=some e1) :
  ∃ σ' f',(∀ i,i<1000000→σ' i=C.σ i)∧St P (C.st σ') V n e1 ρ tmps w Φ f':=by
 obtain⟨hsn,row,hrow,c,c',hc,rfl,hcc⟩:=FH hx
 obtain⟨bo,cvs,q1,q2,hw,hcr,hf,hset,hpn⟩:=gI h.rel h.inv.sep hrow
 obtain⟨cv,p1,p2,hcv,hv,hpp,hset2⟩:=dO k hcr hc
 obtain⟨σ',hlo,h2,hσ⟩:∃ σ':Nat→Value,(∀ i,i<1000000→σ' i=C.σ i)∧CR P w Φ σ' ρ e ρ f∧(s≠0→σ' s=cv):=by
  rcases hsn with hs0|⟨hs,hnew⟩
  ·exact⟨C.σ,fun _ _=>rfl,h.rel,fun h=>absurd hs0 h⟩
  ·refine⟨fun i=>if i=s then cv else C.σ i,fun i hi=>if_neg (by omega),?_,fun _=>if_pos rfl⟩
   exact jK (q:=TQ s) (fun i hi=>by
    have hi:i≠s:=by simpa [TQ] using hi
    show (if i=s then cv else C.σ i)=C.σ i
    rw[if_neg hi]) _ _ _ (.inr hnew) h.rel
 obtain⟨bo',cvs',q1',q2',hw',hcr',hf',hset',hpn'⟩:=gI h2 h.inv.sep hrow
 rw[hw] at hw'
 obtain⟨rfl,rfl⟩:bo=bo'∧cvs=cvs':=by simpa using hw'
 obtain⟨cv',p1',p2',hcv',hv',hpp',hset2'⟩:=dO k hcr' hc
 rw[hcv] at hcv'
 obtain rfl:=Option.some.inj hcv'
 have hnv:VR P w Φ σ' ρ c' cv p1'∧hr c'=false:=by
  rcases hcc with ⟨s0,t,n,cs,rfl,rfl⟩|⟨s0,t,cs,rfl,rfl⟩
  ·simp only[VR] at hv' ⊢
   obtain⟨_,hx,xs,f1,ho,hcs,hb⟩:=hv'
   exact⟨⟨hσ,hx,xs,f1,ho,hcs,hb⟩,by simpa [hr] using hx⟩
  ·simp only[VR] at hv' ⊢
   obtain⟨_,hx,b0,arr,f1,e,hg,hcs,hb⟩:=hv'
   exact⟨⟨hσ,hx,b0,arr,f1,e,hg,hcs,hb⟩,by simpa [hr] using hx⟩
 have k1:=hset2' c' cv p1' hnv.1
 rw[gW hcv] at k1
 have k2:=hset' (row.set k c') _ (by simp) (fun hp=>by
  obtain⟨b,t,arr,_,_,_,_,hh⟩:=hpn' hp
  exact wU hh k hnv.2) k1
 have hle:∀ b,p1' b+p2' b+q2' b≤f b:=fun b=>by have:=hf' b;have:=hpp' b;omega
 refine⟨σ',_,hlo,k2,fun j u hj=>?_,h.inv.le hle,h.ext,h.sub,h.new,fun b hb=>h.own b (Nat.le_trans hb (hle b)),h.size⟩
 exact h.lk j u hj
theorem F6 {e e1:Env} {j r k:Nat} {p:List Nat} (h:lnX e j r p k=some e1):∃ s row t cs,e[j]?=some (.gone s)∧jv e r p=some row∧row[k]?=some (.bx s t cs)∧s≠0∧e1=e.set j (.pp r (p++[k]) 0):=by
 unfold lnX at h
 split at h
 ·rename_i s hj
  split at h
  ·rename_i row hrow
   split at h
   ·rename_i s' t cs hk
    split at h
    ·rename_i hc
     obtain⟨h0,rfl⟩:=hc
     exact⟨_,row,t,cs,hj,hrow,hk,h0,(Option.some.inj h).symm⟩
    ·cases h
   ·cases h
  ·cases h
 ·cases h
theorem TZ {e e1:Env} {j r k:Nat} {p:List Nat} (h:lnX e j r p k=some e1):e1.length=e.length:=by
 obtain⟨s,row,t,cs,_,_,_,_,rfl⟩:=F6 h
 simp
theorem asU {e e1:Env} {ρ:List Value} {tmps:Array Value} {w:World} {Φ:Nat→Prop} {f:Cnt} {j r k:Nat} {p:List Nat} (h:St P C V n e ρ tmps w Φ f) (hx:lnX e j r p k=some e1) :
  ∃ f',St P C V n e1 ρ tmps w Φ f':=by
 obtain⟨s,row,t,cs,hj,hrow,hk,hs,rfl⟩:=F6 hx
 obtain⟨bo,cvs,q1,q2,hw,hcr,hf,hset,hpn⟩:=gI h.rel h.inv.sep hrow
 obtain⟨cv,p1,p2,hcv,hv,hpp,hset2⟩:=dO k hcr hk
 obtain⟨hcv0,_⟩:=dS hcv
 have hl:=zV (o:=k) hw hcv0 hv (fun _=>0) (fun _=>rfl)
 obtain⟨u,g1,g2,hu,hgv,hg,hset3⟩:=dO j h.rel hj
 simp only[VR] at hgv hv
 have hcu:cv=u:=by rw[←hv.1 hs,hgv.1 hs]
 subst hcu
 have k1:=hset3 (.pp r (p++[k]) 0) cv (fun _=>0) hl
 rw[gW hu] at k1
 have hle:∀ b,(0:Nat)+g2 b≤f b:=fun b=>by have:=hg b;omega
 exact⟨_,k1,fun i v hi=>h.lk i v hi,h.inv.le hle,h.ext,h.sub,h.new,fun b hb=>h.own b (Nat.le_trans hb (hle b)),h.size⟩
theorem IC {m:Nat} (hm:m=V.length) {sc:ae} {e e2:Env} {ex:Exit} (h:jS P m sc e ex e2):e.length=m→asW P V n sc e ex e2:=by
 induction h with
 | skip =>
  intro hl
  refine⟨by omega,fun C c hc ρ tmps w Φ f hst=>?_,fun b hb=>by cases hb⟩
  cases c<;>simp[dN] at hc
  ·exact wp_skip ⟨rfl,vT hst⟩
 | reg h hr =>
  rename_i D ops e e2
  intro hl
  obtain⟨h1,h2⟩:=qQ hr
  refine⟨by omega,fun C c hc ρ tmps w Φ f hst=>?_,fun b hb=>by cases hb⟩
  cases c<;>try (simp[dN] at hc;done)
  rename_i id os dr
  cases dr<;>simp[dN] at hc
  obtain⟨⟨hnd,hDl⟩,hok⟩:=hc
  have hρ:ρ.length=V.length:=by rw[←dm hst.rel];omega
  refine wp_region_list (Aw (C:=C) (lT hnd) (Q:=fun e1=>e1=e2) (fun e1 ρ1 tmps1 w1 Φ1 f1 hst1 he1=>?_) ops os.toList 0 _ _ tmps w Φ f hok (RG hst (by omega) ops.length) (by simp[gU];omega) (fun i hi hi2=>?_) (by rw[←hm];exact h))
  ·subst he1
   rw[hm] at h2 ⊢
   obtain⟨f',hst'⟩:=IV hst1 h2
   exact⟨rfl,vT hst'⟩
  ·simp at hi2
   exact oV (by omega) (by omega)
 | dreg h hr =>
  rename_i D ops sees t cons info fin e e2
  intro hl
  obtain⟨h1,h2⟩:=qQ hr
  refine⟨by omega,fun C c hc ρ tmps w Φ f hst=>?_,fun b hb=>by cases hb⟩
  cases c<;>try (simp[dN] at hc;done)
  rename_i id os dr
  cases dr<;>simp[dN] at hc
  obtain⟨⟨⟨⟨⟨⟨⟨hnd,hDl⟩,hok⟩,hsee⟩,ht⟩,hmix⟩,hco⟩,hinf⟩:=hc
  simp only[vO,Bool.and_eq_true,List.all_eq_true,List.mem_range,beq_iff_eq] at hinf
  refine Ag (e2:=e2) (by omega) hnd hok hsee ht hmix hco (by simpa [vO] using hinf) hst (hm▸h) (fun ρ1 tmps1 w1 Φ1 f1 hst1=>?_) (fun c a w h=>nomatch h.1)
  rw[hm] at h2 ⊢
  obtain⟨f',hst'⟩:=IV hst1 h2
  exact⟨rfl,vT hst'⟩
 | preg h hr =>
  rename_i D ops pl e e2
  intro hl
  obtain⟨h1,h2⟩:=qQ hr
  refine⟨by omega,fun C c hc ρ tmps w Φ f hst=>?_,fun b hb=>by cases hb⟩
  cases c<;>try (simp[dN] at hc;done)
  rename_i id os dr
  cases dr<;>simp[dN] at hc
  obtain⟨⟨⟨⟨⟨hnd,hDl⟩,hok⟩,hsel⟩,hmix⟩,hpl⟩:=hc
  have hρ:ρ.length=V.length:=by rw[←dm hst.rel];omega
  have hos:os.size=ops.length:=by have:=jX hok;simpa using this
  have hst0:=Gw (RG (D:=D) hst (by omega) ops.length)
  have:=(Ht (C:=C) (Q:=fun e1=>e1=e2) (QQ:=Post P C V n (gst (.preg D ops pl)) .normal (e2.take m)) (lT hnd) hok hsel (fun e1 ρ1 tmps1 w1 Φ1 f1 hst1 he1=>by
   subst he1
   rw[hm] at h2 ⊢
   obtain⟨f',hst'⟩:=IV hst1 h2
   exact⟨rfl,vT hst'⟩) (fun c a w h=>nomatch h.1) pl true (Array.replicate os.size false) _ _ tmps _ Φ f hpl (by simp) hst0 (by simp[gU];omega) (fun j hj _=>oV (by omega) (by omega)) (by rw[←hm];exact h)).1 rfl
  rw[Gl] at this
  exact wp_region_any hmix this
 | dregm hd h hr hv =>
  rename_i j k D ops sees t cons info fin e e2 e3
  intro hl
  obtain⟨h1,h2⟩:=qQ hr
  unfold yF at hv
  split at hv
  ·rename_i v hkv
   split at hv
   ·cases hv
   ·rename_i hvr
    simp only[Option.some.injEq] at hv
    subst hv
    refine⟨by rw[List.length_set,qx];omega,fun C c hc ρ tmps w Φ f hst=>?_,fun b hb=>by cases hb⟩
    cases c<;>try (simp[dN] at hc;done)
    rename_i id os dr
    cases dr<;>simp[dN] at hc
    obtain⟨⟨⟨⟨⟨⟨⟨⟨⟨⟨hj,hjk⟩,hk⟩,hnd⟩,hDl⟩,hok⟩,hsee⟩,ht⟩,hmix⟩,hco⟩,hinf⟩:=hc
    obtain⟨f1,hst'⟩:=OB hst (by omega) hd hj
    refine Ag (e2:=e2) (by simp;omega) hnd hok hsee ht hmix hco (by simpa [vO] using hinf) hst' (by simpa [hm] using h) (fun ρ1 tmps1 w1 Φ1 f1 hst1=>?_) (fun c a w h=>nomatch h.1)
    simp only[Bool.not_eq_true] at hvr
    rw[hm] at h2 hkv ⊢
    obtain⟨ρ2,f',hst2⟩:=OA hst1 h2 hj hjk hk hkv hvr
    exact⟨rfl,vT hst2⟩
  ·cases hv
 | seq h1 h2 ih1 ih2 =>
  rename_i a b e e1 e2 ex
  intro hl
  have i1:=ih1 hl
  have i2:=ih2 (by rw[i1.len,hm])
  refine⟨i2.len,fun C c hc ρ tmps w Φ f hst=>?_,fun b hb=>by cases hb⟩
  cases c<;>try (simp[dN] at hc;done)
  ·rename_i x y
   simp only[dN,Bool.and_eq_true] at hc
   refine wp_seq (wp_mono (i1.wp C x hc.1 ρ tmps w Φ f hst) ?_)
   rintro ex' a' w' ⟨rfl,σ1,ρ1,tmps1,Φ1,f1,rfl,g1,g2,hst1⟩
   refine wp_mono (i2.wp _ y hc.2 ρ1 tmps1 w' Φ1 f1 hst1) ?_
   rintro ex2 a2 w2 ⟨rfl,h3⟩
   exact⟨rfl,xN g1 g2 (fun h=>by simp[gst,h]) (fun h=>by simp[gst,h]) h3⟩
 | seqOut h1 hx ih1 =>
  rename_i a b e e1 ex
  intro hl
  have i1:=ih1 hl
  refine⟨i1.len,fun C c hc ρ tmps w Φ f hst=>?_,fun b hb=>by cases hb⟩
  cases c<;>try (simp[dN] at hc;done)
  ·rename_i x y
   simp only[dN,Bool.and_eq_true] at hc
   refine wp_seq (wp_mono (i1.wp C x hc.1 ρ tmps w Φ f hst) ?_)
   rintro ex' a' w' ⟨rfl,hrest⟩
   have hrest':=oI (g':=gst (.seq a b)) (fun h=>by simp[gst,h]) hrest
   cases ex'<;>first|exact absurd rfl hx|exact⟨rfl,hrest'⟩
 | cond hx h ih =>
  rename_i x a b e e2 ex t
  intro hl
  have i1:=ih (by rw[Eb,hl])
  refine⟨i1.len,fun C c hc ρ tmps w Φ f hst=>?_,fun b hb=>by cases hb⟩
  cases c<;>try (simp[dN] at hc;done)
  ·rename_i cx y z
   simp only[dN,Bool.and_eq_true] at hc
   obtain⟨⟨hc1,hc2⟩,hc3⟩:=hc
   have hv:=o9 (dC (a:=⟨tmps,[]⟩) hst.rel hst.lk hc1 hx (fun _=>0) (fun _=>rfl))
   obtain⟨f',hst'⟩:=Au (x:=x) hst
   refine wp_cond hv ?_
   cases t
   ·exact wp_mono (i1.wp C z hc3 ρ tmps w Φ f' hst') fun ex2 a2 w2 h=>⟨h.1,oI (fun h=>by simp only[gst,Bool.or_eq_true];exact .inr h) h.2⟩
   ·exact wp_mono (i1.wp C y hc2 ρ tmps w Φ f' hst') fun ex2 a2 w2 h=>⟨h.1,oI (fun h=>by simp only[gst,Bool.or_eq_true];exact .inl h) h.2⟩
 | condk hx h ih =>
  rename_i x a b e e2 ex t
  intro hl
  have i1:=ih hl
  refine⟨i1.len,fun C c hc ρ tmps w Φ f hst=>?_,fun b hb=>by cases hb⟩
  cases c<;>try (simp[dN] at hc;done)
  ·rename_i cx y z
   simp only[dN,Bool.and_eq_true] at hc
   obtain⟨⟨hc1,hc2⟩,hc3⟩:=hc
   have hv:=o9 (dC (a:=⟨tmps,[]⟩) hst.rel hst.lk hc1 hx (fun _=>0) (fun _=>rfl))
   refine wp_cond hv ?_
   cases t
   ·exact wp_mono (i1.wp C z hc3 ρ tmps w Φ f hst) fun ex2 a2 w2 h=>⟨h.1,oI (fun h=>by simp only[gst,Bool.or_eq_true];exact .inr h) h.2⟩
   ·exact wp_mono (i1.wp C y hc2 ρ tmps w Φ f hst) fun ex2 a2 w2 h=>⟨h.1,oI (fun h=>by simp only[gst,Bool.or_eq_true];exact .inl h) h.2⟩
 | block h ih =>
  rename_i id b e e2 ex
  intro hl
  have i1:=ih hl
  refine⟨i1.len,fun C c hc ρ tmps w Φ f hst=>?_,fun b hb=>by cases hb⟩
  cases c<;>try (simp[dN] at hc;done)
  ·rename_i id' y
   simp only[dN,Bool.and_eq_true,beq_iff_eq] at hc
   obtain⟨rfl,hc⟩:=hc
   refine wp_block (wp_mono (i1.wp C y hc ρ tmps w Φ f hst) ?_)
   rintro ex' a' w' ⟨rfl,hrest⟩
   cases ex'<;>try exact⟨rfl,hrest⟩
   rename_i i
   simp only[Exit.inBlock,outOf]
   split
   ·exact⟨rfl,hrest⟩
   ·exact⟨rfl,hrest⟩
 | loop h1 h2 ih1 ih2 =>
  rename_i b e e1 e2 ex
  intro hl
  have i1:=ih1 hl
  have i2:=ih2 (by rw[i1.len,hm])
  obtain⟨k,hk⟩:=i2.loop b rfl
  have go:∀ (C:Cx) (c:Code),dN P V n c b=true→∀ ρ tmps w Φ f,St P C V n e ρ tmps w Φ f→Code.rounds P c (Post P C V n (gst b) ex e2) (k+1) ⟨tmps,[]⟩ w:=by
   intro C c hc ρ tmps w Φ f hst
   rw[rounds_succ]
   refine wp_mono (i1.wp C c hc ρ tmps w Φ f hst) ?_
   rintro ex' a' w' ⟨rfl,σ1,ρ1,tmps1,Φ1,f1,rfl,g1,g2,hst1⟩
   exact x8 (fun ex2 a2 w2 h3=>⟨h3.1,xN g1 g2 id id h3.2⟩) k (hk _ c hc ρ1 tmps1 w' Φ1 f1 hst1)
  refine⟨i2.len,fun C c hc ρ tmps w Φ f hst=>?_,fun b' hb=>?_⟩
  ·obtain⟨c',rfl,hc'⟩:=yc hc
   exact wp_loop_rounds (k+1) (go C c' hc' ρ tmps w Φ f hst)
  ·cases hb;exact⟨k+1,go⟩
 | loopOut h1 hx ih1 =>
  rename_i b e e1 ex
  intro hl
  have i1:=ih1 hl
  have go:∀ (C:Cx) (c:Code),dN P V n c b=true→∀ ρ tmps w Φ f,St P C V n e ρ tmps w Φ f→Code.rounds P c (Post P C V n (gst b) ex e1) 1 ⟨tmps,[]⟩ w:=by
   intro C c hc ρ tmps w Φ f hst
   rw[rounds_succ]
   refine wp_mono (i1.wp C c hc ρ tmps w Φ f hst) ?_
   rintro ex' a' w' ⟨rfl,hrest⟩
   cases ex'<;>first|exact absurd rfl hx|exact⟨rfl,hrest⟩
  refine⟨i1.len,fun C c hc ρ tmps w Φ f hst=>?_,fun b' hb=>?_⟩
  ·obtain⟨c',rfl,hc'⟩:=yc hc
   exact wp_loop_rounds 1 (go C c' hc' ρ tmps w Φ f hst)
  ·cases hb;exact⟨1,go⟩
 | forget j h1 ih1 =>
  intro hl
  have i1:=ih1 (by simpa using hl)
  refine⟨i1.len,fun C c hc ρ tmps w Φ f hst=>?_,fun b hb=>?_⟩
  ·obtain⟨f',hst'⟩:=Au (x:=.slot j) hst
   exact i1.wp C c hc ρ tmps w Φ f' hst'
  ·obtain⟨k,hk⟩:=i1.loop b hb
   refine⟨k,fun C c hc ρ tmps w Φ f hst=>?_⟩
   obtain⟨f',hst'⟩:=Au (x:=.slot j) hst
   exact hk C c hc ρ tmps w Φ f' hst'
 | frz he hf h1 ih1 =>
  intro hl
  have i1:=ih1 (by simpa using hl)
  refine⟨i1.len,fun C c hc ρ tmps w Φ f hst=>?_,fun b hb=>by cases hb⟩
  obtain⟨Φ',f',hst'⟩:=xM hst he hf
  exact i1.wp C c (by simpa only[dN] using hc) ρ tmps w Φ' f' hst'
 | stp h1 ih1 =>
  rename_i b e e2 ex r k s p
  intro hl
  have i1:=ih1 (by
   cases he:stX e r p k s with
   | none=>exact hl
   | some e1=>exact (Ti he).trans hl)
  refine⟨i1.len,fun C c hc ρ tmps w Φ f hst=>?_,fun b hb=>by cases hb⟩
  obtain⟨σ',f',g,hst'⟩:∃ σ' f',(∀ i,i<1000000→σ' i=C.σ i)∧St P (C.st σ') V n ((stX e r p k s).getD e) ρ tmps w Φ f':=by
   cases he:stX e r p k s with
   | none=>exact⟨C.σ,f,fun _ _=>rfl,hst⟩
   | some e1=>exact asT hst he
  refine wp_mono (i1.wp _ c (by simpa only[dN] using hc) ρ tmps w Φ f' hst') ?_
  rintro ex2 a2 w2 ⟨rfl,h3⟩
  exact⟨rfl,xN (g1:=true) (fun h=>by cases h) g (fun _=>rfl) (fun _=>rfl) h3⟩
 | lnk h1 ih1 =>
  rename_i b e e2 ex j r k p
  intro hl
  have i1:=ih1 (by
   cases he:lnX e j r p k with
   | none=>exact hl
   | some e1=>exact (TZ he).trans hl)
  refine⟨i1.len,fun C c hc ρ tmps w Φ f hst=>?_,fun b hb=>by cases hb⟩
  obtain⟨f',hst'⟩:∃ f',St P C V n ((lnX e j r p k).getD e) ρ tmps w Φ f':=by
   cases he:lnX e j r p k with
   | none=>exact⟨f,hst⟩
   | some e1=>exact asU hst he
  exact i1.wp C c (by simpa only[dN] using hc) ρ tmps w Φ f' hst'
 | altL h1 ih1 =>
  rename_i a b e e2 ex
  intro hl
  have i1:=ih1 hl
  refine⟨i1.len,fun C c hc ρ tmps w Φ f hst=>?_,fun b hb=>by cases hb⟩
  have hc':dN P V n c a=true:=by cases c<;>simp only[dN,Bool.and_eq_true] at hc<;>exact hc.1
  exact wp_mono (i1.wp C c hc' ρ tmps w Φ f hst) fun ex2 a2 w2 h=>⟨h.1,oI (fun h=>by simp only[gst,Bool.or_eq_true];exact .inl h) h.2⟩
 | altR h1 ih1 =>
  rename_i a b e e2 ex
  intro hl
  have i1:=ih1 hl
  refine⟨i1.len,fun C c hc ρ tmps w Φ f hst=>?_,fun b hb=>by cases hb⟩
  have hc':dN P V n c b=true:=by cases c<;>simp only[dN,Bool.and_eq_true] at hc<;>exact hc.2
  exact wp_mono (i1.wp C c hc' ρ tmps w Φ f hst) fun ex2 a2 w2 h=>⟨h.1,oI (fun h=>by simp only[gst,Bool.or_eq_true];exact .inr h) h.2⟩
 | freeze j v v' he hf h1 ih1 =>
  intro hl
  have i1:=ih1 (by simpa using hl)
  refine⟨i1.len,fun C c hc ρ tmps w Φ f hst=>?_,fun b hb=>?_⟩
  ·obtain⟨Φ',f',hst'⟩:=xM hst he hf
   exact i1.wp C c hc ρ tmps w Φ' f' hst'
  ·obtain⟨k,hk⟩:=i1.loop b hb
   refine⟨k,fun C c hc ρ tmps w Φ f hst=>?_⟩
   obtain⟨Φ',f',hst'⟩:=xM hst he hf
   exact hk C c hc ρ tmps w Φ' f' hst'
 | exit =>
  intro hl
  refine⟨by omega,fun C c hc ρ tmps w Φ f hst=>?_,fun b hb=>by cases hb⟩
  cases c<;>try (simp[dN] at hc;done)
  ·simp[dN] at hc;subst hc
   exact wp_exit ⟨rfl,vT hst⟩
 | ret =>
  intro hl
  refine⟨by omega,fun C c hc ρ tmps w Φ f hst=>?_,fun b hb=>by cases hb⟩
  cases c<;>try (simp[dN] at hc;done)
  ·exact wp_ret ⟨rfl,vT hst⟩
end
end Go.AM
namespace Go.AM
open Go
inductive di where
 | tmp (j:Nat)
 | cell (j sz:Nat) (ag:Bool)
def og:AV→Bool
 | .dead=>false
 | .gone _=>false
 | .tup _ _=>false
 | _=>true
def OQ (e:Env):di→Option (AV × Env)
 | .tmp j=>match e[j]? with
  | some v=>if iQ v=false∧og v=true then some (v,e.set j .dead) else none
  | none=>none
 | .cell j sz ag=>match e[j]? with
  | some (.bx _ _ cs)=>if cs.length=sz then match mkv ag cs with
    | some v=>if og v=true then some (v,e.set j .dead) else none
    | none=>none
   else none
  | _=>none
def FO:Env→List di→Option (List AV)
 | _,[]=>some []
 | e,r::rs=>match OQ e r with
  | some (v,e')=>match FO e' rs with
   | some vs=>some (v::vs)
   | none=>none
  | none=>none
def Ed:Env→List di→Option (List AV × Env)
 | e,[]=>some ([],e)
 | e,r::rs=>match OQ e r with
  | some (v,e')=>match Ed e' rs with
   | some (vs,e2)=>some (v::vs,e2)
   | none=>none
  | none=>none
def isS (s:Nat):AV→Bool
 | .osl s' _ _ _=>s'==s
 | .bx s' _ _=>s'==s
 | _=>false
def y5 (s:Nat):List AV→Option (AV × List AV)
 | []=>none
 | c::cs=>if isS s c=true then some (c,.gone 0::cs) else match y5 s cs with
  | some (v,cs')=>some (v,c::cs')
  | none=>none
def y7 (s:Nat):AV→Option (AV × AV)
 | .bx t k cs=>match y5 s cs with
  | some (v,cs')=>some (v,.bx t k cs')
  | none=>none
 | .agg cs=>match y5 s cs with
  | some (v,cs')=>some (v,.agg cs')
  | none=>none
 | .fn g cs=>match y5 s cs with
  | some (v,cs')=>some (v,.fn g cs')
  | none=>none
 | _=>none
def Ez (s:Nat):Env→Option (AV × Env)
 | []=>none
 | c::cs=>if isS s c=true then some (c,.gone 0::cs) else match y7 s c with
  | some (v,c')=>some (v,c'::cs)
  | none=>match Ez s cs with
   | some (v,cs')=>some (v,c::cs')
   | none=>none
def wC:Env→List Nat→Option (List AV)
 | _,[]=>some []
 | e,s::ss=>match Ez s e with
  | some (v,e')=>match wC e' ss with
   | some vs=>some (v::vs)
   | none=>none
  | none=>none
def shA:AV→Option Nat
 | .agg cs=>some cs.length
 | _=>none
def nU:List AV→AV
 | [v]=>v
 | vs=>.tup (vs.map shA) (vs.flatMap cellsOf)
def oK (P:Program) (V:List Nat) (n:Nat):List ResultVar→List di→Bool
 | [],[]=>true
 | .tmp t::rs,.tmp j::ss=>V[j]?==some t&&decide (t<n)&&oK P V n rs ss
 | .cell a t::rs,.cell j sz ag::ss=>V[j]?==some a&&decide (a<n)&&uw P t==some ag&&(if ag then mi P t==some sz else sz==1)&&oK P V n rs ss
 | _,_=>false
def zI (P:Program) (fn:Func) (V:List Nat) (sc:ae) (rs:List di) (k:Nat):Bool :=
 (match fn.body with|some c=>dN P V fn.ntmps c sc|none=>false)&&nodupB V&&(V.take k==List.range k)&&decide (k≤V.length)&&decide (k≤fn.ntmps)&&oK P V fn.ntmps fn.results.toList rs
section
variable {P : Program} {w : World} {Φ : Nat → Prop} {σ : Nat → Value} {ρ : List Value}
theorem NJ {ag:Bool} {cs:List AV} {v:AV} {us:List Value} {f:Cnt} (hm:mkv ag cs=some v) (hc:CR P w Φ σ ρ cs us f) :
  VR P w Φ σ ρ v (if ag then .agg us.toArray else us.headD undef) f:=by
 cases ag with
 | true =>
  simp[mkv] at hm;subst hm
  simp only[if_true,VR]
  exact⟨_,rfl,by simpa using hc⟩
 | false =>
  simp[mkv] at hm
  split at hm
  ·rename_i c
   simp at hm;subst hm
   simp only[CR] at hc
   obtain⟨u,us',f1,f2,rfl,h1,⟨rfl,h2⟩,h3⟩:=hc
   have:f1=f:=funext fun b=>by have:=h3 b;have:=h2 b;omega
   simpa [this] using h1
  ·cases hm
def res1 (tmps:Array Value):ResultVar→Sem Value
 | .tmp t=>pure (tmps.getD t undef)
 | .cell a t=>do loadVar t (←asAddr (tmps.getD a undef))
theorem adF {ag:Bool} {cs:List AV} {v:AV} (h:hrs cs=false) (hm:mkv ag cs=some v):hr v=false:=by
 cases ag with
 | true=>simp[mkv] at hm;subst hm;simpa only[hr] using h
 | false =>
  simp[mkv] at hm
  split at hm
  ·simp at hm;subst hm;simpa [hrs] using h
  ·cases hm
theorem asQ {v:AV} {f:Cnt} (hv:og v=true) (h:VR P w Φ σ ρ v unk f):False:=by
 cases v<;>simp only[VR] at h
 ·simp[og] at hv
 ·simp[og] at hv
 ·have:=h.1;cases this
 ·have:=h.1;cases this
 ·have:=h.1;cases this
 ·obtain⟨vs,e,_⟩:=h;cases e
 ·have:=h.1;cases this
 ·have:=h.1;cases this
 ·obtain⟨⟨a,c,e,_⟩,_⟩:=h;cases e
 ·obtain⟨⟨a,c,e,_⟩,_⟩:=h;cases e
 ·obtain⟨⟨a,e,_⟩,_⟩:=h;cases e
 ·obtain⟨_,_,xs,f1,ho,_⟩:=h;obtain⟨a,c,e,_⟩:=dF ho;cases e
 ·obtain⟨_,_,b0,arr,f1,e,_⟩:=h;cases e
 ·obtain⟨arr,e,_⟩:=h;cases e
 ·simp[og] at hv
 ·obtain⟨⟨bo,row,a,n,c,_,_,e⟩,_⟩:=h;cases e
 ·obtain⟨⟨b0,row,_,e⟩,_⟩:=h;cases e
 ·obtain⟨⟨bo,row,g,fs,cs,_,_,e⟩,_⟩:=h;cases e
 ·obtain⟨⟨bo,row,a,n,c,_,_,_,e⟩,_⟩:=h;cases e
theorem Oz {v:AV} {cv:Value} {f:Cnt} (hv:og v=true) (h:VR P w Φ σ ρ v cv f):shp cv=shA v∧CR P w Φ σ ρ (cellsOf v) cv.cells.toList f:=by
 have one:∀ {v:AV},cellsOf v=[v]→shA v=none→VR P w Φ σ ρ v cv f→shp cv=none→cv.cells.toList=[cv]→shp cv=shA v∧CR P w Φ σ ρ (cellsOf v) cv.cells.toList f:=by
  intro v h1 h2 h3 h4 h5
  rw[h1,h2,h4,h5]
  refine⟨rfl,?_⟩
  have:=CR_cons h3 (CR_nil (P:=P) (w:=w) (Φ:=Φ) (σ:=σ) (ρ:=ρ))
  simpa using this
 have h0:=h
 cases v<;>simp only[VR] at h
 ·simp[og] at hv
 ·simp[og] at hv
 ·obtain⟨rfl,_⟩:=h;exact one rfl rfl h0 rfl rfl
 ·obtain⟨rfl,_⟩:=h;exact one rfl rfl h0 rfl rfl
 ·obtain⟨rfl,_⟩:=h;exact one rfl rfl h0 rfl rfl
 ·obtain⟨vs,rfl,_⟩:=h;exact one rfl rfl h0 rfl rfl
 ·obtain⟨rfl,_⟩:=h;exact one rfl rfl h0 rfl rfl
 ·obtain⟨rfl,_⟩:=h;exact one rfl rfl h0 rfl rfl
 ·obtain⟨⟨a,c,rfl,_⟩,_⟩:=h;exact one rfl rfl h0 rfl rfl
 ·obtain⟨⟨a,c,rfl,_⟩,_⟩:=h;exact one rfl rfl h0 rfl rfl
 ·obtain⟨⟨a,rfl,_⟩,_⟩:=h;exact one rfl rfl h0 rfl rfl
 ·obtain⟨_,_,xs,f1,ho,_⟩:=h;obtain⟨a,c,rfl,_⟩:=dF ho;exact one rfl rfl h0 rfl rfl
 ·obtain⟨_,_,b0,arr,f1,rfl,_⟩:=h;exact one rfl rfl h0 rfl rfl
 ·obtain⟨arr,rfl,h1⟩:=h
  exact⟨by simp[shp,shA,dm h1],h1⟩
 ·simp[og] at hv
 ·obtain⟨⟨bo,row,a,n,c,_,_,rfl⟩,_⟩:=h;exact one rfl rfl h0 rfl rfl
 ·obtain⟨⟨b0,row,_,rfl⟩,_⟩:=h;exact one rfl rfl h0 rfl rfl
 ·obtain⟨⟨bo,row,g,fs,cs,_,_,rfl⟩,_⟩:=h;exact one rfl rfl h0 rfl rfl
 ·obtain⟨⟨bo,row,a,n,c,_,_,_,rfl⟩,_⟩:=h;exact one rfl rfl h0 rfl rfl
theorem FP {V:List Nat} {n:Nat} {rv:ResultVar} {r:di} {e e':Env} {v:AV} {tmps:Array Value} {f:Cnt} (hok:oK P V n [rv] [r]=true) (hrel:CR P w Φ σ ρ e ρ f) (hl:LK V ρ e tmps) (hx:OQ e r=some (v,e')) :
  ∃ cv f1 f2,(res1 tmps rv).run P w=.ok cv w∧VR P w Φ σ ρ v cv f1∧hr v=false∧og v=true∧CR P w Φ σ ρ e' ρ f2∧∀ b,f1 b+f2 b≤f b:=by
 have lkv:∀ {j t:Nat} {cv:Value},V[j]?=some t→ρ[j]?=some cv→cv≠unk→tmps.getD t undef=cv:=by
  intro j t cv hj hc hne
  rcases hl j cv hc with h|⟨t',ht,h⟩
  ·exact absurd h hne
  ·rw[hj] at ht;cases ht;exact h
 have drop:∀ {j:Nat} {u:AV},e[j]?=some u→∃ cv f1 f2,ρ[j]?=some cv∧VR P w Φ σ ρ u cv f1∧(∀ b,f b=f1 b+f2 b)∧CR P w Φ σ ρ (e.set j .dead) ρ f2:=by
  intro j u hj
  obtain⟨cv,f1,f2,hv,hvr,hf,hset⟩:=dO j hrel hj
  have:=hset .dead cv (fun _=>0) (by simp[VR])
  rw[gW hv] at this
  simp only[Nat.zero_add] at this
  exact⟨cv,f1,f2,hv,hvr,hf,this⟩
 cases r with
 | tmp j =>
  cases rv<;>simp[oK] at hok
  rename_i t
  simp only[OQ] at hx
  split at hx
  ·rename_i u hu
   split at hx
   ·rename_i hc
    simp at hx
    obtain⟨rfl,rfl⟩:=hx
    obtain⟨cv,f1,f2,hv,hvr,hf,hset⟩:=drop hu
    refine⟨tmps.getD t undef,f1,f2,rfl,?_,kP hvr hc.1,hc.2,hset,fun b=>by have:=hf b;omega⟩
    rw[lkv hok.1 hv (by rintro rfl;exact asQ hc.2 hvr)];exact hvr
   ·cases hx
  ·cases hx
 | cell j sz ag =>
  cases rv<;>simp[oK] at hok
  rename_i a t
  obtain⟨⟨⟨h1,h2⟩,h3⟩,h4⟩:=hok
  simp only[OQ] at hx
  split at hx
  ·rename_i s bt cs hj
   split at hx
   ·rename_i hlen
    split at hx
    ·rename_i u hm
     obtain⟨hval,rfl,rfl⟩:og u=true∧u=v∧e.set j .dead=e':=by simpa using hx
     obtain⟨cv,f1,f2,hv,hvr,hf,hset⟩:=drop hj
     have hvr0:=hvr
     simp only[VR] at hvr
     obtain⟨_,hrf,b0,arr,g1,rfl,hheap,hcr,hg⟩:=hvr
     have hus:arr.toList.length=sz:=by rw[←dm hcr];exact hlen
     have hr:=rY (P:=P) (w:=w) (ad:=⟨b0,0,none⟩) h3 (by cases ag<;>simpa using h4) hus (fun i u hi=>by
      rw[add_lit,cell_of_row w b0 _ arr bt (0,0) hheap]
      simpa using hi)
     refine⟨_,g1,f2,?_,NJ hm hcr,adF hrf hm,hval,hset,fun b=>by have:=hf b;have:=hg b;omega⟩
     simp only[res1]
     rw[lkv h1 hv (by simp)]
     simpa [asAddr] using hr
    ·cases hx
   ·cases hx
  ·cases hx
theorem zF {V:List Nat} {n:Nat} {rv:ResultVar} {rvs:List ResultVar} {r:di} {rs:List di} (h:oK P V n (rv::rvs) (r::rs)=true):oK P V n [rv] [r]=true∧oK P V n rvs rs=true:=by
 cases rv<;>cases r<;>simp[oK] at h ⊢
 ·exact⟨h.1,h.2⟩
 ·exact⟨h.1,h.2⟩
theorem Ns {V:List Nat} {n:Nat} {tmps:Array Value}:∀ {rvs:List ResultVar} {rs:List di} {e:Env} {vs:List AV} {f:Cnt},oK P V n rvs rs=true→CR P w Φ σ ρ e ρ f→LK V ρ e tmps→FO e rs=some vs →
  ∃ cvs f1,(rvs.mapM (res1 tmps)).run P w=.ok cvs w∧CR P w Φ σ ρ vs cvs f1∧hrs vs=false∧(∀ v∈vs,og v=true)∧∀ b,f1 b≤f b
 | [],[],e,vs,f,hok,hrel,hl,hx=>by
  simp[FO] at hx;subst hx
  exact⟨[],fun _=>0,by simp,CR_nil,rfl,by simp,fun b=>Nat.zero_le _⟩
 | rv::rvs,r::rs,e,vs,f,hok,hrel,hl,hx=>by
  obtain⟨hok1,hok2⟩:=zF hok
  simp only[FO] at hx
  split at hx
  ·rename_i v e' h1
   split at hx
   ·rename_i vs' h2
    simp at hx;subst hx
    obtain⟨cv,f1,f2,k1,k2,k3,k4,k5,k6⟩:=FP hok1 hrel hl h1
    obtain⟨cvs,g1,m1,m2,m3,m4,m5⟩:=Ns (tmps:=tmps) hok2 k5 (fun j cv hj=>hl j cv hj) h2
    refine⟨cv::cvs,_,?_,CR_cons k2 m2,by simp[hrs,k3,m3],?_,fun b=>?_⟩
    ·rw[List.mapM_cons,Sem.run_bind,k1]
     simp only[Result.andThen_ok]
     rw[Sem.run_bind,m1]
     simp
    ·intro v' hv'
     rcases List.mem_cons.1 hv' with rfl|h
     ·exact k4
     ·exact m4 _ h
    ·have:=k6 b
     have:=m5 b
     show f1 b+g1 b≤f b
     omega
   ·cases hx
  ·cases hx
 | [],_::_,e,vs,f,hok,_,_,_=>by simp[oK] at hok
 | rv::_,[],e,vs,f,hok,_,_,_=>by cases rv<;>simp[oK] at hok
theorem FN {V:List Nat} {n:Nat} {tmps:Array Value}:∀ {rvs:List ResultVar} {rs:List di} {e e2:Env} {vs:List AV} {f:Cnt},oK P V n rvs rs=true→CR P w Φ σ ρ e ρ f→LK V ρ e tmps→Ed e rs=some (vs,e2) →
  ∃ cvs f1 f2,(rvs.mapM (res1 tmps)).run P w=.ok cvs w∧CR P w Φ σ ρ vs cvs f1∧hrs vs=false∧(∀ v∈vs,og v=true)∧CR P w Φ σ ρ e2 ρ f2∧∀ b,f1 b+f2 b≤f b
 | [],[],e,e2,vs,f,hok,hrel,hl,hx=>by
  simp[Ed] at hx;obtain⟨rfl,rfl⟩:=hx
  exact⟨[],fun _=>0,f,by simp,CR_nil,rfl,by simp,hrel,fun b=>by simp⟩
 | rv::rvs,r::rs,e,e2,vs,f,hok,hrel,hl,hx=>by
  obtain⟨hok1,hok2⟩:=zF hok
  simp only[Ed] at hx
  split at hx
  ·rename_i v e' h1
   split at hx
   ·rename_i vs' e3 h2
    simp at hx;obtain⟨rfl,rfl⟩:=hx
    obtain⟨cv,f1,f2,k1,k2,k3,k4,k5,k6⟩:=FP hok1 hrel hl h1
    obtain⟨cvs,g1,g2,m1,m2,m3,m4,m5,m6⟩:=FN (tmps:=tmps) hok2 k5 (fun j cv hj=>hl j cv hj) h2
    refine⟨cv::cvs,_,g2,?_,CR_cons k2 m2,by simp[hrs,k3,m3],?_,m5,fun b=>?_⟩
    ·rw[List.mapM_cons,Sem.run_bind,k1]
     simp only[Result.andThen_ok]
     rw[Sem.run_bind,m1]
     simp
    ·intro v' hv'
     rcases List.mem_cons.1 hv' with rfl|h
     ·exact k4
     ·exact m4 _ h
    ·have:=k6 b
     have:=m6 b
     show f1 b+g1 b+g2 b≤f b
     omega
   ·cases hx
  ·cases hx
 | [],_::_,e,e2,vs,f,hok,_,_,_=>by simp[oK] at hok
 | rv::_,[],e,e2,vs,f,hok,_,_,_=>by cases rv<;>simp[oK] at hok
theorem JA {s:Nat} {v:AV} {cv:Value} {f:Cnt} (hs:s≠0) (hv:isS s v=true) (h:VR P w Φ σ ρ v cv f):σ s=cv∧hr v=false:=by
 cases v<;>simp[isS] at hv
 ·subst hv;simp only[VR] at h;exact⟨h.1 hs,by simpa [hr] using h.2.1⟩
 ·subst hv;simp only[VR] at h;exact⟨h.1 hs,by simpa [hr] using h.2.1⟩
theorem sO {s:Nat} (hs:s≠0):∀ {cs cs':List AV} {v:AV} {vs:List Value} {f:Cnt},y5 s cs=some (v,cs')→CR P w Φ σ ρ cs vs f →
  ∃ cv f1 f2,VR P w Φ σ ρ v cv f1∧σ s=cv∧hr v=false∧CR P w Φ σ ρ cs' vs f2∧(∀ b,f b=f1 b+f2 b)∧(hrs cs=false→hrs cs'=false)∧((∀ c∈cs,eU c=true∨hr c=false)→∀ c∈cs',eU c=true∨hr c=false)
 | [],cs',v,vs,f,ht,h=>by simp[y5] at ht
 | c::cs,cs',v,vs,f,ht,h=>by
  simp only[CR] at h
  obtain⟨cv,vs',f1,f2,rfl,h1,h2,hf⟩:=h
  simp only[y5] at ht
  split at ht
  ·rename_i hc
   simp only[Option.some.injEq,Prod.mk.injEq] at ht
   obtain⟨rfl,rfl⟩:=ht
   obtain⟨k1,k2⟩:=JA hs hc h1
   refine⟨cv,f1,_,h1,k1,k2,CR_cons (v:=cv) (c:=.gone 0) (f1:=fun _=>0) (by unfold VR;exact⟨fun h=>absurd rfl h,fun _=>rfl⟩) h2,fun b=>by show f b=f1 b+(0+f2 b);rw[hf b];omega,?_,?_⟩
   ·intro hh;simp only[hrs,Bool.or_eq_false_iff] at hh ⊢;exact⟨rfl,hh.2⟩
   ·intro hh c hc
    rcases List.mem_cons.1 hc with rfl|hc
    ·exact .inr rfl
    ·exact hh c (by simp[hc])
  ·split at ht
   ·rename_i v' cs1 h3
    simp only[Option.some.injEq,Prod.mk.injEq] at ht
    obtain⟨rfl,rfl⟩:=ht
    obtain⟨cw,g1,g2,k1,k2,k3,k4,k5,k6,k7⟩:=sO hs h3 h2
    refine⟨cw,g1,_,k1,k2,k3,CR_cons h1 k4,fun b=>by show f b=g1 b+(f1 b+g2 b);rw[hf b,k5 b];omega,?_,?_⟩
    ·intro hh;simp only[hrs,Bool.or_eq_false_iff] at hh ⊢;exact⟨hh.1,k6 hh.2⟩
    ·intro hh c hc
     rcases List.mem_cons.1 hc with rfl|hc
     ·exact hh _ (by simp)
     ·exact k7 (fun c hc=>hh c (by simp[hc])) c hc
   ·cases ht
theorem JV {s:Nat} (hs:s≠0) {c c' v:AV} {cv:Value} {f:Cnt} (ht:y7 s c=some (v,c')) (h:VR P w Φ σ ρ c cv f) :
  ∃ cw f1 f2,VR P w Φ σ ρ v cw f1∧σ s=cw∧hr v=false∧VR P w Φ σ ρ c' cv f2∧(∀ b,f b=f1 b+f2 b):=by
 cases c with
 | bx t k cs =>
  simp only[y7] at ht
  split at ht
  ·rename_i v' cs1 h3
   simp only[Option.some.injEq,Prod.mk.injEq] at ht
   obtain⟨rfl,rfl⟩:=ht
   simp only[VR] at h
   obtain⟨hst,hx,b0,arr,f1,e,hg,hcr,hb⟩:=h
   obtain⟨cw,g1,g2,k1,k2,k3,k4,k5,k6,_⟩:=sO hs h3 hcr
   refine⟨cw,g1,fun b=>(if b=b0 then 1 else 0)+g2 b,k1,k2,k3,?_,fun b=>by show f b=g1 b+((if b=b0 then 1 else 0)+g2 b);rw[hb b,k5 b];omega⟩
   simp only[VR]
   exact⟨hst,k6 hx,b0,arr,g2,e,hg,k4,fun _=>rfl⟩
  ·cases ht
 | agg cs =>
  simp only[y7] at ht
  split at ht
  ·rename_i v' cs1 h3
   simp only[Option.some.injEq,Prod.mk.injEq] at ht
   obtain⟨rfl,rfl⟩:=ht
   simp only[VR] at h
   obtain⟨arr,e,hcr⟩:=h
   obtain⟨cw,g1,g2,k1,k2,k3,k4,k5,k6,_⟩:=sO hs h3 hcr
   refine⟨cw,g1,g2,k1,k2,k3,?_,k5⟩
   simp only[VR]
   exact⟨arr,e,k4⟩
  ·cases ht
 | fn g cs =>
  simp only[y7] at ht
  split at ht
  ·rename_i v' cs1 h3
   simp only[Option.some.injEq,Prod.mk.injEq] at ht
   obtain⟨rfl,rfl⟩:=ht
   simp only[VR] at h
   obtain⟨vs,e,hq,hcr⟩:=h
   obtain⟨cw,g1,g2,k1,k2,k3,k4,k5,k6,k7⟩:=sO hs h3 hcr
   refine⟨cw,g1,g2,k1,k2,k3,?_,k5⟩
   simp only[VR]
   exact⟨vs,e,k7 hq,k4⟩
  ·cases ht
 | _=>simp[y7] at ht
theorem Ce {s:Nat} (hs:s≠0):∀ {e e':List AV} {v:AV} {vs:List Value} {f:Cnt},Ez s e=some (v,e')→CR P w Φ σ ρ e vs f →
  ∃ cv f1 f2,VR P w Φ σ ρ v cv f1∧σ s=cv∧hr v=false∧CR P w Φ σ ρ e' vs f2∧(∀ b,f b=f1 b+f2 b)
 | [],e',v,vs,f,ht,h=>by simp[Ez] at ht
 | c::cs,e',v,vs,f,ht,h=>by
  simp only[CR] at h
  obtain⟨cv,vs',f1,f2,rfl,h1,h2,hf⟩:=h
  simp only[Ez] at ht
  split at ht
  ·rename_i hc
   simp only[Option.some.injEq,Prod.mk.injEq] at ht
   obtain⟨rfl,rfl⟩:=ht
   obtain⟨k1,k2⟩:=JA hs hc h1
   exact⟨cv,f1,_,h1,k1,k2,CR_cons (v:=cv) (c:=.gone 0) (f1:=fun _=>0) (by unfold VR;exact⟨fun h=>absurd rfl h,fun _=>rfl⟩) h2,fun b=>by show f b=f1 b+(0+f2 b);rw[hf b];omega⟩
  ·split at ht
   ·rename_i v' c' h3
    simp only[Option.some.injEq,Prod.mk.injEq] at ht
    obtain⟨rfl,rfl⟩:=ht
    obtain⟨cw,g1,g2,k1,k2,k3,k4,k5⟩:=JV hs h3 h1
    exact⟨cw,g1,_,k1,k2,k3,CR_cons k4 h2,fun b=>by show f b=g1 b+(g2 b+f2 b);rw[hf b,k5 b];omega⟩
   ·split at ht
    ·rename_i v' cs1 h3
     simp only[Option.some.injEq,Prod.mk.injEq] at ht
     obtain⟨rfl,rfl⟩:=ht
     obtain⟨cw,g1,g2,k1,k2,k3,k4,k5⟩:=Ce hs h3 h2
     exact⟨cw,g1,_,k1,k2,k3,CR_cons h1 k4,fun b=>by show f b=g1 b+(f1 b+g2 b);rw[hf b,k5 b];omega⟩
    ·cases ht
theorem CY:∀ {ss:List Nat} {e:List AV} {os:List AV} {vs:List Value} {f:Cnt},(∀ s∈ss,s≠0)→wC e ss=some os→CR P w Φ σ ρ e vs f →
  ∃ f1 f2 e',CR P w Φ σ ρ os (ss.map σ) f1∧hrs os=false∧CR P w Φ σ ρ e' vs f2∧os.length=ss.length∧(∀ b,f b=f1 b+f2 b)
 | [],e,os,vs,f,hs,ho,h=>by
  simp[wC] at ho;subst ho
  exact⟨fun _=>0,f,e,CR_nil,rfl,h,rfl,fun b=>by simp⟩
 | s::ss,e,os,vs,f,hs,ho,h=>by
  simp only[wC] at ho
  split at ho
  ·rename_i v e1 h1
   split at ho
   ·rename_i os1 h2
    simp only[Option.some.injEq] at ho
    subst ho
    obtain⟨cv,g1,g2,k1,k2,k3,k4,k5⟩:=Ce (hs s (by simp)) h1 h
    obtain⟨m1,m2,e2,n1,n2,n3,n4,n5⟩:=CY (fun s hs'=>hs s (by simp[hs'])) h2 k4
    refine⟨fun b=>g1 b+m1 b,m2,e2,?_,by simp[hrs,k3,n2],n3,by simp[n4],fun b=>?_⟩
    ·simp only[List.map_cons,k2];exact CR_cons k1 n1
    ·show f b=g1 b+m1 b+m2 b;rw[k5 b,n5 b];omega
   ·cases ho
  ·cases ho
theorem Gg:∀ {vs:List AV} {cvs:List Value} {f:Cnt},CR P w Φ σ ρ vs cvs f→(∀ v∈vs,og v=true)→cvs.map shp=vs.map shA∧CR P w Φ σ ρ (vs.flatMap cellsOf) (oq cvs) f
 | [],cvs,f,h,_=>by
  simp only[CR] at h
  obtain⟨rfl,hf⟩:=h
  exact⟨rfl,by simp only[List.flatMap_nil,CR];exact⟨rfl,hf⟩⟩
 | v::vs,cvs,f,h,hv=>by
  simp only[CR] at h
  obtain⟨cv,cvs',f1,f2,rfl,h1,h2,hf⟩:=h
  obtain⟨a1,a2⟩:=Oz (hv v (by simp)) h1
  obtain⟨b1,b2⟩:=Gg h2 (fun u hu=>hv u (by simp[hu]))
  refine⟨by simp[a1,b1],?_⟩
  have:=iJ a2 b2
  rw[show f=fun b=>f1 b+f2 b from funext hf]
  simpa [oq] using this
theorem F9:∀ {vs:List AV},hrs vs=false→hrs (vs.flatMap cellsOf)=false
 | [],_=>rfl
 | v::vs,h=>by
  simp only[hrs,Bool.or_eq_false_iff] at h
  rw[List.flatMap_cons,ah,F9 h.2]
  have:hrs (cellsOf v)=false:=by
   cases v<;>simp only[cellsOf,hrs,Bool.or_false]<;>first|exact h.1|(simpa only[hr] using h.1)
  simp[this]
theorem Su {vs:List AV} {cvs:List Value} {f:Cnt} (h:CR P w Φ σ ρ vs cvs f) (hr0:hrs vs=false) (hv:∀ v∈vs,og v=true) :
  VR P w Φ σ ρ (nU vs) (if h:cvs.toArray.size=1 then cvs.toArray[0] else .tuple cvs.toArray) f∧hr (nU vs)=false:=by
 have hl:=dm h
 match vs,cvs,hl with
 | [v],[cv],_ =>
  simp only[CR] at h
  obtain⟨cv',_,f1,f2,he,h1,⟨_,h2⟩,hf⟩:=h
  simp at he
  obtain⟨rfl,rfl⟩:=he
  have:f=f1:=funext fun b=>by have:=hf b;have:=h2 b;omega
  subst this
  exact⟨by simpa [nU] using h1,by simpa [nU,hrs] using hr0⟩
 | [],[],_ =>
  simp only[CR] at h
  refine⟨?_,rfl⟩
  simp only[nU,List.size_toArray,List.length_nil,VR]
  exact⟨#[],by simp,rfl,by simp[CR,oq];exact h.2⟩
 | v1::v2::vs,c1::c2::cvs,_ =>
  obtain⟨a1,a2⟩:=Gg h hv
  refine⟨?_,?_⟩
  ·rw[dif_neg (by simp)]
   show VR P w Φ σ ρ (.tup _ _) _ f
   simp only[VR]
   exact⟨_,rfl,by simpa using a1,by simpa using a2⟩
  ·simpa [nU,hr] using F9 hr0
theorem DN {ss:List Nat} {os:List AV} {g:Nat} {fn:Func} {V:List Nat} {sc:ae} {rs:List di} {args:List AV} {res:AV} (hf:P.funcs[g]?=some fn) (hok:zI P fn V sc rs args.length=true)
  (hlow:gst sc=false∨(DF Ei res=true∧qW Ei os=true∧∀ s∈ss,s<1000000))
  (h:∃ ex e,jS P V.length sc (args++gU (V.length-args.length)) ex e∧(ex=.normal∨ex=.ret)∧∃ vs e2,Ed e rs=some (vs,e2)∧nU vs=res∧wC e2 ss=some os) (hss:∀ s∈ss,s≠0):kR P g args res (ss.zip os):=by
 intro w Φ σ cargs fa hrel hinv
 simp only[zI,Bool.and_eq_true,decide_eq_true_eq,beq_iff_eq] at hok
 obtain⟨⟨⟨⟨⟨hc,hnd⟩,htake⟩,hkV⟩,hkn⟩,hres⟩:=hok
 cases hb:fn.body with
 | none=>simp[hb] at hc
 | some c =>
  simp only[hb] at hc
  obtain⟨ex,e,hruns,hex,vs,e2,hvs,rfl,hos⟩:=h
  have hlen:cargs.size=args.length:=by rw[←Array.length_toList,←dm hrel]
  have hV:V.Nodup:=lT hnd
  have hst:St P ⟨w,Φ,fa,σ⟩ V fn.ntmps (args++gU (V.length-args.length)) (cargs.toList++List.replicate (V.length-args.length) unk) (cargs++Array.replicate (fn.ntmps-cargs.size) undef) w Φ fa:=by
   refine⟨?_,fun j cv hj=>?_,hinv,Ext.refl _ _,fun _ h=>h,fun b h=>.inl h,fun b h=>.inl h,by simp;omega⟩
   ·have h1:=Ew (List.replicate (V.length-args.length) unk) _ _ _ hrel
    have:=iJ h1 (Bl (P:=P) (w:=w) (Φ:=Φ) (σ:=σ) (ρ:=cargs.toList++List.replicate (V.length-args.length) unk) (V.length-args.length))
    simpa using this
   ·by_cases hjl:j<args.length
    ·right
     refine⟨j,?_,?_⟩
     ·have:(V.take args.length)[j]?=some j:=by rw[htake];simp[hjl]
      rw[List.getElem?_take,if_pos hjl] at this
      exact this
     ·rw[List.getElem?_append_left (by simp;omega)] at hj
      rw[Array.getD_eq_getD_getElem?,Array.getElem?_append_left (by omega)]
      simp at hj
      simp[hj]
    ·left
     rw[List.getElem?_append_right (by simp;omega),List.getElem?_replicate] at hj
     split at hj
     ·simp at hj;exact hj.symm
     ·cases hj
  refine calls_of_wp hf hb (wp_mono ((IC rfl hruns (by simp[gU];omega)).wp ⟨w,Φ,fa,σ⟩ c hc _ _ _ _ _ hst) ?_)
  rintro ex' a w' ⟨rfl,σ',ρ',tmps',Φ',f',rfl,hg1,hg2,hst'⟩
  obtain⟨cvs,f1,f2,k1,k2,k3,k4,k6,k5⟩:=FN hres hst'.rel hst'.lk hvs
  obtain⟨m1,m2,e3,n1,n2,n3,n4,n5⟩:=CY hss hos k6
  have z1:(ss.zip os).map (·.2)=os:=List.map_snd_zip (by omega)
  have z2:(ss.zip os).map (fun p=>σ p.1)=ss.map σ:=by
   have:(ss.zip os).map (fun p=>σ p.1)=((ss.zip os).map (·.1)).map σ:=by simp
   rw[this,List.map_fst_zip (by omega)]
  have hrun:(results fn tmps').run P w'=.ok (if h:cvs.toArray.size=1 then cvs.toArray[0] else .tuple cvs.toArray) w':=by
   have e1:results fn tmps'=(do let vs ←fn.results.mapM (res1 tmps');pure (if h:vs.size=1 then vs[0] else .tuple vs)):=rfl
   rw[e1,Sem.run_bind]
   have e2:fn.results.mapM (res1 tmps')=List.toArray <$> fn.results.toList.mapM (res1 tmps'):=by
    rw[Array.mapM_eq_mapM_toList]
   rw[e2,Sem.run_map,k1]
   rfl
  obtain⟨t1,t2⟩:=Su k2 k3 k4
  have cvt:(∀ cv f,VR P w' Φ' σ' [] (nU vs) cv f→VR P w' Φ' σ [] (nU vs) cv f)∧(∀ f,CR P w' Φ' σ' [] os (ss.map σ') f→CR P w' Φ' σ [] os (ss.map σ) f):=by
   rcases hlow with h|⟨h1,h2,h3⟩
   ·have hz:σ'=σ:=hg1 h
    subst hz
    exact⟨fun _ _ h=>h,fun _ h=>h⟩
   ·refine⟨fun cv f h=>Gq (q:=Ei) (fun s hs=>(hg2 s (by simpa [Ei] using hs)).symm) _ _ _ h1 h,fun f h=>?_⟩
    rw[show ss.map σ=ss.map σ' from List.map_congr_left fun s hs=>(hg2 s (h3 s hs)).symm]
    exact jK (q:=Ei) (fun s hs=>(hg2 s (by simpa [Ei] using hs)).symm) _ _ _ (.inr h2) h
  have fin:∃ v,(results fn tmps').run P w'=.ok v w'∧∃ (cv:Value) (Φ':Nat→Prop) (f1 f2:Cnt),Ending.returned v=.returned cv∧Ext w w' fa∧(∀ b,Φ b→Φ' b)∧(∀ b,Φ' b→Φ b∨1≤fa b∨w.heap.size≤b) ∧
    VR P w' Φ' σ [] (nU vs) cv f1∧hr (nU vs)=false∧CR P w' Φ' σ [] ((ss.zip os).map (·.2)) ((ss.zip os).map fun p=>σ p.1) f2∧hrs ((ss.zip os).map (·.2))=false ∧
    Inv P w' Φ' (fun b=>f1 b+f2 b)∧(∀ b,1≤f1 b+f2 b→1≤fa b∨w.heap.size≤b):=by
   refine⟨_,hrun,_,Φ',f1,m1,rfl,hst'.ext,hst'.sub,hst'.new,cvt.1 _ _ (uM w' Φ' [] (fun _ _=>rfl) (fun _ h=>h) _ _ _ t2 (fun _ _=>rfl) t1),t2,?_,by rw[z1];exact n2,hst'.inv.le (fun b=>by show f1 b+m1 b≤_;have:=k5 b;have:=n5 b;omega),fun b hb=>hst'.own b (by have:=k5 b;have:=n5 b;omega)⟩
   rw[z1,z2]
   exact cvt.2 _ (iC w' Φ' [] (fun _ _=>rfl) (fun _ h=>h) _ _ _ n2 (fun _ _=>rfl) n1)
  rcases hex with rfl|rfl
  ·exact⟨rfl,fin⟩
  ·exact⟨rfl,fin⟩
def dA (P:Program) (fn:Func) (V:List Nat) (sc:ae) (rs:List di) (k:Nat):Bool:=zI P fn V sc rs k&&!gst sc
theorem DR {ss:List Nat} {os:List AV} {g:Nat} {fn:Func} {V:List Nat} {sc:ae} {rs:List di} {args:List AV} {res:AV} (hf:P.funcs[g]?=some fn) (hok:dA P fn V sc rs args.length=true)
  (h:∃ ex e,jS P V.length sc (args++gU (V.length-args.length)) ex e∧(ex=.normal∨ex=.ret)∧∃ vs e2,Ed e rs=some (vs,e2)∧nU vs=res∧wC e2 ss=some os) (hss:∀ s∈ss,s≠0):kR P g args res (ss.zip os):=by
 simp only[dA,Bool.and_eq_true,Bool.not_eq_true'] at hok
 exact DN hf hok.1 (.inl hok.2) h hss
theorem DT {ss:List Nat} {os:List AV} {g:Nat} {fn:Func} {V:List Nat} {sc:ae} {rs:List di} {args:List AV} {res:AV} (hf:P.funcs[g]?=some fn) (hok:dA P fn V sc rs args.length=true)
  (h:∃ ex e,jS P V.length sc (args++gU (V.length-args.length)) ex e∧(ex=.normal∨ex=.ret)∧∃ vs e2,Ed e rs=some (vs,e2)∧nU vs=res∧wC e2 ss=some os) (hss:∀ s∈ss,s≠0):Says P g args res (ss.zip os):=uH (DR hf hok h hss)
theorem Jf:∀ {rs:List di} {e:Env} {vs:List AV},FO e rs=some vs→∃ e2,Ed e rs=some (vs,e2)
 | [],e,vs,h=>by simp[FO] at h;subst h;exact⟨e,rfl⟩
 | r::rs,e,vs,h=>by
  simp only[FO] at h
  split at h
  ·rename_i v e' h1
   split at h
   ·rename_i vs' h2
    simp at h;subst h
    obtain⟨e2,h3⟩:=Jf h2
    exact⟨e2,by simp only[Ed,h1,h3]⟩
   ·cases h
  ·cases h
theorem GG {g:Nat} {fn:Func} {V:List Nat} {sc:ae} {rs:List di} {args:List AV} {res:AV} (hf:P.funcs[g]?=some fn) (hok:dA P fn V sc rs args.length=true)
  (h:∃ ex e,jS P V.length sc (args++gU (V.length-args.length)) ex e∧(ex=.normal∨ex=.ret)∧∃ vs,FO e rs=some vs∧nU vs=res):Says P g args res []:=by
 obtain⟨ex,e,h1,h2,vs,h3,h4⟩:=h
 obtain⟨e2,h5⟩:=Jf h3
 exact DT (ss:=[]) (os:=[]) hf hok ⟨ex,e,h1,h2,vs,e2,h5,h4,rfl⟩ (by simp)
end
end Go.AM
namespace Go.AM
open Go
def W (P:Program) (m:Nat) (sc:ae) (e:Env) (Q:Exit→Env→Prop):Prop:=∃ ex e2,jS P m sc e ex e2∧Q ex e2
section
variable {P : Program} {m : Nat} {Q : Exit → Env → Prop} {e : Env}
theorem Ri {k:Nat} {so:dJ} {e:Env} {Q:Env→Prop} (h:OpW P m k so e Q):∃ e2,OpW P m k so e (fun e1=>e1=e2)∧Q e2:=by
 unfold OpW at h
 split at h
 ·rename_i s hk
  split at h
  ·rename_i v e' hx
   split at h
   ·rename_i e2 hp
    exact⟨e2,by unfold OpW;rw[hk];simp only[hx,hp],h⟩
   ·cases h
  ·cases h
 ·rename_i g args fr hk
  split at h
  ·rename_i avs live hp
   obtain⟨res,h1,h2,h⟩:=h
   split at h
   ·rename_i v hv
    split at h
    ·rename_i e2 hp2
     exact⟨e2,by unfold OpW;rw[hk];simp only[hp];exact⟨res,h1,h2,by rw[hv];simp only[hp2]⟩,h⟩
    ·cases h
   ·cases h
  ·cases h
 ·rename_i x args hk
  split at h
  ·rename_i g caps avs live hc hp
   obtain⟨hpl,res,h1,h2,h⟩:=h
   split at h
   ·rename_i e2 hp2
    exact⟨e2,by unfold OpW;rw[hk];simp only[hc,hp];exact⟨hpl,res,h1,h2,by simp only[hp2]⟩,h⟩
   ·cases h
  ·cases h
 ·rename_i x args hk
  split at h
  ·rename_i e1 b1 vs h1
   split at h
   ·rename_i g caps e2 b2 h2
    split at h
    ·rename_i avs live h3
     obtain⟨q1,q2,res,outs,q3,q4,h⟩:=h
     split at h
     ·rename_i e3 h4
      split at h
      ·rename_i e4 h5
       exact⟨e4,by unfold OpW;rw[hk];simp only[h1,h2,h3];exact⟨q1,q2,res,outs,q3,q4,by simp only[h4,h5]⟩,h⟩
      ·cases h
     ·cases h
    ·cases h
   ·cases h
  ·cases h
 ·rename_i x args hk
  split at h
  ·rename_i e1 b1 vs h1
   split at h
   ·rename_i g caps e2 b2 h2
    split at h
    ·rename_i avs live h3
     obtain⟨q1,q2,res,outs,q3,q4,h⟩:=h
     split at h
     ·rename_i e3 h4
      split at h
      ·rename_i e4 h5
       exact⟨e4,by unfold OpW;rw[hk];simp only[h1,h2,h3];exact⟨q1,q2,res,outs,q3,q4,by simp only[h4,h5]⟩,h⟩
      ·cases h
     ·cases h
    ·cases h
   ·cases h
  ·cases h
theorem AA {k:Nat} {so:dJ} {e:Env} {Q Q':Env→Prop} (hQ:∀ e,Q e→Q' e) (h:OpW P m k so e Q):OpW P m k so e Q':=by
 unfold OpW at h ⊢
 split at h
 ·split at h
  ·split at h
   ·exact hQ _ h
   ·cases h
  ·cases h
 ·split at h
  ·obtain⟨res,h1,h2,h⟩:=h
   refine⟨res,h1,h2,?_⟩
   split at h
   ·split at h
    ·exact hQ _ h
    ·cases h
   ·cases h
  ·cases h
 ·split at h
  ·obtain⟨hpl,res,h1,h2,h⟩:=h
   refine⟨hpl,res,h1,h2,?_⟩
   split at h
   ·exact hQ _ h
   ·cases h
  ·cases h
 ·split at h
  ·split at h
   ·split at h
    ·obtain⟨q1,q2,res,outs,q3,q4,h⟩:=h
     refine⟨q1,q2,res,outs,q3,q4,?_⟩
     split at h
     ·split at h
      ·exact hQ _ h
      ·cases h
     ·cases h
    ·cases h
   ·cases h
  ·cases h
 ·split at h
  ·split at h
   ·split at h
    ·obtain⟨q1,q2,res,outs,q3,q4,h⟩:=h
     refine⟨q1,q2,res,outs,q3,q4,?_⟩
     split at h
     ·split at h
      ·exact hQ _ h
      ·cases h
     ·cases h
    ·cases h
   ·cases h
  ·cases h
theorem uI:∀ {sos:List dJ} {k:Nat} {e:Env} {Q:Env→Prop},kw P m k sos e Q→∃ e2,kw P m k sos e (fun e1=>e1=e2)∧Q e2
 | [],k,e,Q,h=>⟨e,by simp only[kw],by simpa only[kw] using h⟩
 | so::sos,k,e,Q,h=>by
  simp only[kw] at h
  split at h
  ·rename_i hg
   obtain⟨e1,h1,h2⟩:=Ri h
   obtain⟨e2,h3,h4⟩:=uI h2
   exact⟨e2,by simp only[kw,hg];exact AA (fun e he=>by rw[he];exact h3) h1,h4⟩
  ·rename_i s b hg
   split at h
   ·rename_i hb
    obtain⟨e1,h1,h2⟩:=Ri h
    obtain⟨e2,h3,h4⟩:=uI h2
    exact⟨e2,by simp only[kw,hg,hb];exact AA (fun e he=>by rw[he];exact h3) h1,h4⟩
   ·rename_i hb
    obtain⟨e2,h3,h4⟩:=uI h
    exact⟨e2,by simp only[kw,hg,hb];exact h3,h4⟩
   ·cases h
theorem iU:∀ {sos:List dJ} {info:List (List Bool × Option (List Nat))} {acc:List AV} {Q Q':List AV→Prop},(∀ vs,Q vs→Q' vs)→fD P e sos info acc Q→fD P e sos info acc Q'
 | [],info,acc,Q,Q',hQ,h=>by simp only[fD] at h ⊢;exact hQ _ h
 | so::sos,[],acc,Q,Q',hQ,h=>by simp only[fD] at h
 | so::sos,(bs,some j)::info,acc,Q,Q',hQ,h=>by
  simp only[fD] at h ⊢
  obtain⟨hd,h⟩:=h
  refine⟨hd,?_⟩
  split at h
  ·exact pq (fun u hu=>iU (fun vs hv=>⟨hv.1,hQ _ hv.2⟩) hu) h
  ·split at h
   ·exact pq (fun u hu=>iU (fun vs hv=>⟨hv.1,hQ _ hv.2⟩) hu) h
   ·exact iU hQ h
   ·cases h
 | so::sos,(bs,none)::info,acc,Q,Q',hQ,h=>by
  simp only[fD] at h ⊢
  obtain⟨hd,h⟩:=h
  refine⟨hd,?_⟩
  split at h
  ·exact pg (fun u hu=>iU hQ hu) h
  ·split at h
   ·exact pg (fun u hu=>iU hQ hu) h
   ·exact iU hQ h
   ·cases h
theorem mQ:∀ {sos:List dJ} {info:List (List Bool × Option (List Nat))} {acc:List AV} {Q:List AV→Prop},fD P e sos info acc Q→∃ vs,fD P e sos info acc (fun us=>us=vs)∧Q vs
 | [],info,acc,Q,h=>⟨acc,by simp only[fD],by simpa only[fD] using h⟩
 | so::sos,[],acc,Q,h=>by simp only[fD] at h
 | so::sos,(bs,some j)::info,acc,Q,h=>by
  simp only[fD] at h
  obtain⟨hd,h⟩:=h
  split at h
  ·rename_i hg
   obtain⟨v,h1,h2⟩:=EQ h
   obtain⟨vs,h3,h4⟩:=mQ h2
   exact⟨vs,by simp only[fD,hg];exact⟨hd,pq (fun u hu=>by rw[hu];exact iU (fun us hus=>by subst hus;exact⟨h4.1,rfl⟩) h3) h1⟩,h4.2⟩
  ·rename_i s b hg
   split at h
   ·rename_i hb
    obtain⟨v,h1,h2⟩:=EQ h
    obtain⟨vs,h3,h4⟩:=mQ h2
    exact⟨vs,by simp only[fD,hg,hb];exact⟨hd,pq (fun u hu=>by rw[hu];exact iU (fun us hus=>by subst hus;exact⟨h4.1,rfl⟩) h3) h1⟩,h4.2⟩
   ·rename_i hb
    obtain⟨vs,h3,h4⟩:=mQ h
    exact⟨vs,by simp only[fD,hg,hb];exact⟨hd,h3⟩,h4⟩
   ·cases h
 | so::sos,(bs,none)::info,acc,Q,h=>by
  simp only[fD] at h
  obtain⟨hd,h⟩:=h
  split at h
  ·rename_i hg
   obtain⟨v,h1,h2⟩:=EP h
   obtain⟨vs,h3,h4⟩:=mQ h2
   exact⟨vs,by simp only[fD,hg];exact⟨hd,pg (fun u hu=>by rw[hu];exact h3) h1⟩,h4⟩
  ·rename_i s b hg
   split at h
   ·rename_i hb
    obtain⟨v,h1,h2⟩:=EP h
    obtain⟨vs,h3,h4⟩:=mQ h2
    exact⟨vs,by simp only[fD,hg,hb];exact⟨hd,pg (fun u hu=>by rw[hu];exact h3) h1⟩,h4⟩
   ·rename_i hb
    obtain⟨vs,h3,h4⟩:=mQ h
    exact⟨vs,by simp only[fD,hg,hb];exact⟨hd,h3⟩,h4⟩
   ·cases h
def wpS (P:Program) (m:Nat):ae→Env→(Exit→Env→Prop)→Prop
 | .skip,e,Q=>Q .normal e
 | .reg _ ops,e,Q=>kw P m 0 ops (e++gU ops.length) fun e2=>endOk m e2=true∧Q .normal (e2.take m)
 | .bad,_,_=>False
 | .dreg _ ops _ t _ info fin,e,Q=>fD P e (ops.take t) info [] fun vs=>kw P m t (ops.drop t) (e++gK fin vs++gU (ops.length-t)) fun e2=>endOk m e2=true∧Q .normal (e2.take m)
 | .dregm j k _ ops _ t _ info fin,e,Q=>e.all (yA j)=true∧fD P (e.set j .dead) (ops.take t) info [] fun vs=>kw P m t (ops.drop t) (e.set j .dead++gK fin vs++gU (ops.length-t)) fun e2=>endOk m e2=true∧match yF m j k e2 with
  | some e3=>Q .normal e3
  | none=>False
 | .seq a b,e,Q=>wpS P m a e fun ex e1=>match ex with
  | .normal=>wpS P m b e1 Q
  | ex=>Q ex e1
 | .cond x a b,e,Q=>match ev e x with
  | some (.bool t)=>(t=true→wpS P m a (yG x e) Q)∧(t=false→wpS P m b (yG x e) Q)
  | _=>False
 | .condk x a b,e,Q=>match ev e x with
  | some (.bool t)=>(t=true→wpS P m a e Q)∧(t=false→wpS P m b e Q)
  | _=>False
 | .frz j b,e,Q=>match (e[j]?).bind ng with
  | some v'=>wpS P m b (e.set j v') Q
  | none=>False
 | .preg _ ops pl,e,Q=>∃ e2,Eu P m ops pl (e++gU ops.length) (fun e1=>e1=e2)∧endOk m e2=true∧Q .normal (e2.take m)
 | .alt a b,e,Q=>wpS P m a e Q∨wpS P m b e Q
 | .stp r p k s b,e,Q=>wpS P m b ((stX e r p k s).getD e) Q
 | .lnk j r p k b,e,Q=>wpS P m b ((lnX e j r p k).getD e) Q
 | .block id b,e,Q=>wpS P m b e fun ex e1=>Q (outOf id ex) e1
 | .loop b,e,Q=>W P m (.loop b) e Q
 | .exit id,e,Q=>Q (.exit id) e
 | .ret,e,Q=>Q .ret e
theorem gq:∀ {sc:ae} {e:Env} {Q:Exit→Env→Prop},wpS P m sc e Q→W P m sc e Q
 | .frz j b,e,Q,h=>by
  simp only[wpS] at h
  cases he:e[j]? with
  | none=>rw[he] at h;exact h.elim
  | some v =>
   rw[he] at h
   simp only[Option.bind_some] at h
   cases hf:ng v with
   | none=>rw[hf] at h;exact h.elim
   | some v' =>
    rw[hf] at h
    obtain⟨ex,e2,h1,h2⟩:=gq h
    exact⟨_,_,.frz he hf h1,h2⟩
 | .preg D ops pl,e,Q,h=>by
  obtain⟨e2,h1,h2,h3⟩:=h
  exact⟨_,_,.preg h1 h2,h3⟩
 | .alt a b,e,Q,h=>by
  simp only[wpS] at h
  rcases h with h|h
  ·obtain⟨ex,e2,h1,h2⟩:=gq h
   exact⟨_,_,.altL h1,h2⟩
  ·obtain⟨ex,e2,h1,h2⟩:=gq h
   exact⟨_,_,.altR h1,h2⟩
 | .stp r p k s b,e,Q,h=>by
  simp only[wpS] at h
  obtain⟨ex,e2,h1,h2⟩:=gq h
  exact⟨_,_,.stp h1,h2⟩
 | .lnk j r p k b,e,Q,h=>by
  simp only[wpS] at h
  obtain⟨ex,e2,h1,h2⟩:=gq h
  exact⟨_,_,.lnk h1,h2⟩
 | .skip,e,Q,h=>⟨_,_,.skip,h⟩
 | .reg D ops,e,Q,h=>by
  obtain⟨e2,h1,h2,h3⟩:=uI h
  exact⟨_,_,.reg h1 h2,h3⟩
 | .bad,e,Q,h=>h.elim
 | .dreg D ops sees t cons info fin,e,Q,h=>by
  obtain⟨vs,h1,h2⟩:=mQ h
  obtain⟨e2,h3,h4,h5⟩:=uI h2
  exact⟨_,_,.dreg (iU (fun us hu=>by subst hu;exact h3) h1) h4,h5⟩
 | .dregm j k D ops sees t cons info fin,e,Q,h=>by
  obtain⟨h0,h⟩:=h
  obtain⟨vs,h1,h2⟩:=mQ h
  obtain⟨e2,h3,h4,h5⟩:=uI h2
  cases hm:yF m j k e2 with
  | none=>rw[hm] at h5;exact h5.elim
  | some e3 =>
   rw[hm] at h5
   exact⟨_,_,.dregm h0 (iU (fun us hu=>by subst hu;exact h3) h1) h4 hm,h5⟩
 | .seq a b,e,Q,h=>by
  obtain⟨ex,e1,h1,h2⟩:=gq (sc:=a) (by simpa only[wpS] using h)
  cases ex with
  | normal =>
   obtain⟨ex2,e2,h3,h4⟩:=gq (sc:=b) h2
   exact⟨_,_,.seq h1 h3,h4⟩
  | _=>exact⟨_,_,.seqOut h1 (by simp),h2⟩
 | .cond x a b,e,Q,h=>by
  simp only[wpS] at h
  split at h
  ·rename_i t hx
   cases t
   ·obtain⟨ex,e1,h1,h2⟩:=gq (sc:=b) (h.2 rfl)
    exact⟨_,_,.cond (t:=false) hx h1,h2⟩
   ·obtain⟨ex,e1,h1,h2⟩:=gq (sc:=a) (h.1 rfl)
    exact⟨_,_,.cond (t:=true) hx h1,h2⟩
  ·cases h
 | .condk x a b,e,Q,h=>by
  simp only[wpS] at h
  split at h
  ·rename_i t hx
   cases t
   ·obtain⟨ex,e1,h1,h2⟩:=gq (sc:=b) (h.2 rfl)
    exact⟨_,_,.condk (t:=false) hx h1,h2⟩
   ·obtain⟨ex,e1,h1,h2⟩:=gq (sc:=a) (h.1 rfl)
    exact⟨_,_,.condk (t:=true) hx h1,h2⟩
  ·cases h
 | .block id b,e,Q,h=>by
  obtain⟨ex,e1,h1,h2⟩:=gq (sc:=b) (by simpa only[wpS] using h)
  exact⟨_,_,.block h1,h2⟩
 | .loop b,e,Q,h=>h
 | .exit id,e,Q,h=>⟨_,_,.exit,h⟩
 | .ret,e,Q,h=>⟨_,_,.ret,h⟩
theorem yS {b:ae} {e:Env} {Q:Exit→Env→Prop} (h:wpS P m b e fun ex e1=>match ex with
  | .normal=>W P m (.loop b) e1 Q
  | ex=>Q ex e1):W P m (.loop b) e Q:=by
 obtain⟨ex,e1,h1,h2⟩:=gq h
 cases ex with
 | normal =>
  obtain⟨ex2,e2,h3,h4⟩:=h2
  exact⟨_,_,.loop h1 h3,h4⟩
 | _=>exact⟨_,_,.loopOut h1 (by simp),h2⟩
theorem qh:∀ {sos:List dJ} {k:Nat} {e:Env} {Q Q':Env→Prop},(∀ e,Q e→Q' e)→kw P m k sos e Q→kw P m k sos e Q'
 | [],k,e,Q,Q',hQ,h=>by simp only[kw] at h ⊢;exact hQ _ h
 | so::sos,k,e,Q,Q',hQ,h=>by
  simp only[kw] at h ⊢
  split at h
  ·exact AA (fun e he=>qh hQ he) h
  ·split at h
   ·exact AA (fun e he=>qh hQ he) h
   ·exact qh hQ h
   ·cases h
theorem asP {sc:ae} {e:Env} {Q Q':Exit→Env→Prop} (hQ:∀ ex e,Q ex e→Q' ex e) (h:W P m sc e Q):W P m sc e Q':=by
 obtain⟨ex,e2,h1,h2⟩:=h
 exact⟨ex,e2,h1,hQ _ _ h2⟩
theorem iY:∀ {sc:ae} {e:Env} {Q Q':Exit→Env→Prop},(∀ ex e,Q ex e→Q' ex e)→wpS P m sc e Q→wpS P m sc e Q'
 | .skip,e,Q,Q',hQ,h=>hQ _ _ h
 | .reg D ops,e,Q,Q',hQ,h=>qh (fun e h=>⟨h.1,hQ _ _ h.2⟩) h
 | .bad,e,Q,Q',hQ,h=>h.elim
 | .dreg D ops sees t cons info fin,e,Q,Q',hQ,h=>iU (fun vs h=>qh (fun e h=>⟨h.1,hQ _ _ h.2⟩) h) h
 | .dregm j k D ops sees t cons info fin,e,Q,Q',hQ,h=>⟨h.1,iU (fun vs h=>qh (fun e h=>⟨h.1,by have:=h.2;revert this;cases yF m j k e with|none=>exact id|some e3=>exact hQ _ _⟩) h) h.2⟩
 | .seq a b,e,Q,Q',hQ,h=>by
  simp only[wpS] at h ⊢
  refine iY (sc:=a) (fun ex e h=>?_) h
  cases ex with
  | normal=>exact iY (sc:=b) hQ h
  | _=>exact hQ _ _ h
 | .cond x a b,e,Q,Q',hQ,h=>by
  simp only[wpS] at h ⊢
  split at h
  ·exact⟨fun t=>iY (sc:=a) hQ (h.1 t),fun t=>iY (sc:=b) hQ (h.2 t)⟩
  ·cases h
 | .frz j b,e,Q,Q',hQ,h=>by
  simp only[wpS] at h ⊢
  cases hf:(e[j]?).bind ng with
  | none=>rw[hf] at h;exact h.elim
  | some v'=>rw[hf] at h;exact iY (sc:=b) hQ h
 | .preg D ops pl,e,Q,Q',hQ,h=>by
  obtain⟨e2,h1,h2,h3⟩:=h
  exact⟨e2,h1,h2,hQ _ _ h3⟩
 | .alt a b,e,Q,Q',hQ,h=>by
  simp only[wpS] at h ⊢
  exact h.imp (iY (sc:=a) hQ) (iY (sc:=b) hQ)
 | .stp r p k s b,e,Q,Q',hQ,h=>by
  simp only[wpS] at h ⊢
  exact iY (sc:=b) hQ h
 | .lnk j r p k b,e,Q,Q',hQ,h=>by
  simp only[wpS] at h ⊢
  exact iY (sc:=b) hQ h
 | .condk x a b,e,Q,Q',hQ,h=>by
  simp only[wpS] at h ⊢
  split at h
  ·exact⟨fun t=>iY (sc:=a) hQ (h.1 t),fun t=>iY (sc:=b) hQ (h.2 t)⟩
  ·cases h
 | .block id b,e,Q,Q',hQ,h=>by
  simp only[wpS] at h ⊢
  exact iY (sc:=b) (fun ex e h=>hQ _ _ h) h
 | .loop b,e,Q,Q',hQ,h=>asP hQ h
 | .exit id,e,Q,Q',hQ,h=>hQ _ _ h
 | .ret,e,Q,Q',hQ,h=>hQ _ _ h
theorem aGc {l b:ae} {e:Env} {Q:Exit→Env→Prop} (hl:l=.loop b) (h:wpS P m b e fun ex e1=>match ex with
  | .normal=>W P m l e1 Q
  | ex=>Q ex e1):W P m l e Q:=by
 subst hl;exact yS h
theorem aug {l b:ae} {e:Env} {Q:Exit→Env→Prop} (hl:l=.loop b):wpS P m l e Q=W P m l e Q:=by
 subst hl;rfl
theorem acT {sc:ae} {e:Env} {Q Q':Exit→Env→Prop} (hQ:∀ ex e,Q ex e→Q' ex e) (h:W P m sc e Q):W P m sc e Q':=by
 obtain⟨ex,e2,h1,h2⟩:=h
 exact⟨ex,e2,h1,hQ _ _ h2⟩
def MI (rs:List di) (res:AV) (ex:Exit) (e:Env):Prop:=(ex=.normal∨ex=.ret)∧(FO e rs).map nU=some res
theorem OC {g:Nat} {fn:Func} {V:List Nat} {sc:ae} {rs:List di} {args:List AV} {res:AV} (hf:P.funcs[g]?=some fn) (hok:dA P fn V sc rs args.length=true)
  (h:wpS P V.length sc (args++gU (V.length-args.length)) (MI rs res)):Says P g args res []:=by
 obtain⟨ex,e2,h1,h2,h3⟩:=gq h
 rw[Option.map_eq_some_iff] at h3
 exact GG hf hok ⟨ex,e2,h1,h2,h3⟩
theorem aKi {g:Nat} {fn:Func} {V:List Nat} {sc:ae} {rs:List di} {args:List AV} {R:AV→Prop} (hf:P.funcs[g]?=some fn) (hok:dA P fn V sc rs args.length=true)
  (h:wpS P V.length sc (args++gU (V.length-args.length)) fun ex e=>∃ res,R res∧MI rs res ex e):∃ res,R res∧Says P g args res []:=by
 obtain⟨ex,e2,h1,res,hR,h2,h3⟩:=gq h
 rw[Option.map_eq_some_iff] at h3
 exact⟨res,hR,GG hf hok ⟨ex,e2,h1,h2,h3⟩⟩
def Tn (e:Env) (rs:List di) (ss:List Nat):Option (AV × List AV):=match Ed e rs with
 | some (vs,e2)=>match wC e2 ss with
  | some os=>some (nU vs,os)
  | none=>none
 | none=>none
def BX (rs:List di) (ss:List Nat) (res:AV) (os:List AV) (ex:Exit) (e:Env):Prop:=(ex=.normal∨ex=.ret)∧Tn e rs ss=some (res,os)
theorem LU {g:Nat} {fn:Func} {V:List Nat} {sc:ae} {rs:List di} {args:List AV} {res:AV} (ss:List Nat) (os:List AV) (hf:P.funcs[g]?=some fn) (hok:dA P fn V sc rs args.length=true) (hss:∀ s∈ss,s≠0)
  (h:wpS P V.length sc (args++gU (V.length-args.length)) (BX rs ss res os)):Says P g args res (ss.zip os):=by
 obtain⟨ex,e2,h1,h2,h3⟩:=gq h
 unfold Tn at h3
 split at h3
 ·rename_i vs e3 h4
  split at h3
  ·rename_i os' h5
   simp only[Option.some.injEq,Prod.mk.injEq] at h3
   obtain⟨rfl,rfl⟩:=h3
   exact DT hf hok ⟨ex,e2,h1,h2,vs,e3,h4,rfl,h5⟩ hss
  ·cases h3
 ·cases h3
theorem LQ {g:Nat} {fn:Func} {V:List Nat} {sc:ae} {rs:List di} {args:List AV} {res:AV} (ss:List Nat) (os:List AV) (hf:P.funcs[g]?=some fn) (hok:dA P fn V sc rs args.length=true) (hss:∀ s∈ss,s≠0)
  (h:wpS P V.length sc (args++gU (V.length-args.length)) (BX rs ss res os)):kR P g args res (ss.zip os):=by
 obtain⟨ex,e2,h1,h2,h3⟩:=gq h
 unfold Tn at h3
 split at h3
 ·rename_i vs e3 h4
  split at h3
  ·rename_i os' h5
   simp only[Option.some.injEq,Prod.mk.injEq] at h3
   obtain⟨rfl,rfl⟩:=h3
   exact DR hf hok ⟨ex,e2,h1,h2,vs,e3,h4,rfl,h5⟩ hss
  ·cases h3
 ·cases h3
theorem LP {g:Nat} {fn:Func} {V:List Nat} {sc:ae} {rs:List di} {args:List AV} {res:AV} (ss:List Nat) (os:List AV) (hf:P.funcs[g]?=some fn) (hok:zI P fn V sc rs args.length=true) (hss:∀ s∈ss,s≠0)
  (hlow:DF Ei res=true∧qW Ei os=true∧∀ s∈ss,s<1000000)
  (h:wpS P V.length sc (args++gU (V.length-args.length)) (BX rs ss res os)):kR P g args res (ss.zip os):=by
 obtain⟨ex,e2,h1,h2,h3⟩:=gq h
 unfold Tn at h3
 split at h3
 ·rename_i vs e3 h4
  split at h3
  ·rename_i os' h5
   simp only[Option.some.injEq,Prod.mk.injEq] at h3
   obtain⟨rfl,rfl⟩:=h3
   exact DN hf hok (.inr hlow) ⟨ex,e2,h1,h2,vs,e3,h4,rfl,h5⟩ hss
  ·cases h3
 ·cases h3
theorem auw {sc:ae} {Q:Exit→Env→Prop} {e:Env} (j:Nat) {v v':AV} (he:e[j]?=some v) (hf:ng v=some v') (h:W P m sc (e.set j v') Q):W P m sc e Q:=by
 obtain⟨ex,e2,h1,h2⟩:=h
 exact⟨ex,e2,.freeze j v v' he hf h1,h2⟩
theorem Bg {sc:ae} {Q:Exit→Env→Prop}:∀ {js:List Nat} {e:Env},W P m sc (js.foldl (fun e j=>e.set j .dead) e) Q→W P m sc e Q
 | [],e,h=>h
 | j::js,e,h=>by
  obtain⟨ex,e2,h1,h2⟩:=Bg (js:=js) (e:=e.set j .dead) h
  exact⟨ex,e2,.forget j h1,h2⟩
theorem Ox {l b:ae} {Q:Exit→Env→Prop} (hl:l=.loop b) (js:List Nat) (E:Nat→Env) (I:Nat→Prop) (n:Nat) (hstep:∀ i,i<n→I i→wpS P m b (E i) fun ex e=>match ex with
   | .normal=>js.foldl (fun e j=>e.set j .dead) e=E (i+1)∧I (i+1)
   | ex=>Q ex e) (hlast:I n→wpS P m b (E n) fun ex e=>match ex with
   | .normal=>False
   | ex=>Q ex e):∀ i,i≤n→I i→W P m l (E i) Q:=by
 intro i hi hI
 induction h:n-i generalizing i with
 | zero =>
  obtain rfl:i=n:=by omega
  subst hl
  exact yS (iY (fun ex e h=>by cases ex<;>first|exact h.elim|exact h) (hlast hI))
 | succ k ih =>
  subst hl
  refine yS (iY (fun ex e h=>?_) (hstep i (by omega) hI))
  cases ex with
  | normal=>simp only at h ⊢;refine Bg (js:=js) ?_;rw[h.1];exact ih (i+1) (by omega) h.2 (by omega)
  | _=>exact h
theorem aGb {l b:ae} {Q:Exit→Env→Prop} (hl:l=.loop b) (E:Nat→Env) (I:Nat→Prop) (n:Nat) (hstep:∀ i,i<n→I i→wpS P m b (E i) fun ex e=>match ex with
   | .normal=>e=E (i+1)∧I (i+1)
   | ex=>Q ex e) (hlast:I n→wpS P m b (E n) fun ex e=>match ex with
   | .normal=>False
   | ex=>Q ex e):∀ i,i≤n→I i→W P m l (E i) Q:=by
 intro i hi hI
 induction h:n-i generalizing i with
 | zero =>
  obtain rfl:i=n:=by omega
  subst hl
  exact yS (iY (fun ex e h=>by cases ex<;>first|exact h.elim|exact h) (hlast hI))
 | succ k ih =>
  subst hl
  refine yS (iY (fun ex e h=>?_) (hstep i (by omega) hI))
  cases ex with
  | normal=>simp only at h ⊢;rw[h.1];exact ih (i+1) (by omega) h.2 (by omega)
  | _=>exact h
end
end Go.AM
namespace Go.AM
open Go
inductive D where
 | I (k:IntKind) (n:Int)
 | B (b:Bool)
 | S (s:List UInt8)
 | L (e n:Nat) (cs:List D)
instance:Inhabited D:=⟨.B false⟩
mutual
def C:D→AV
 | .I k n=>.int k n
 | .B b=>.bool b
 | .S s=>.str s
 | .L _ n cs=>.rsl n (Cs cs)
def Cs:List D→List AV
 | []=>[]
 | d::ds=>C d::Cs ds
end
mutual
def Ow:D→AV
 | .I k n=>.int k n
 | .B b=>.bool b
 | .S s=>.str s
 | .L e n cs=>.osl 0 e n (Ows cs)
def Ows:List D→List AV
 | []=>[]
 | d::ds=>Ow d::Ows ds
end
@[simp] theorem C_I {k:IntKind} {n:Int}:C (.I k n)=.int k n:=by simp only[C]
@[simp] theorem C_B {b:Bool}:C (.B b)=.bool b:=by simp only[C]
@[simp] theorem C_S {s:List UInt8}:C (.S s)=.str s:=by simp only[C]
@[simp] theorem C_L {e n:Nat} {cs:List D}:C (.L e n cs)=.rsl n (Cs cs):=by simp only[C]
@[simp] theorem aJ7 {k:IntKind} {n:Int}:Ow (.I k n)=.int k n:=by simp only[Ow]
@[simp] theorem aJ8 {b:Bool}:Ow (.B b)=.bool b:=by simp only[Ow]
@[simp] theorem aJ6 {s:List UInt8}:Ow (.S s)=.str s:=by simp only[Ow]
@[simp] theorem aKo {e n:Nat} {cs:List D}:Ow (.L e n cs)=.osl 0 e n (Ows cs):=by simp only[Ow]
@[simp] theorem nS:Cs []=[]:=by simp only[Cs]
@[simp] theorem jL {d:D} {ds:List D}:Cs (d::ds)=C d::Cs ds:=by simp only[Cs]
@[simp] theorem aa4:Ows []=[]:=by simp only[Ows]
@[simp] theorem qi {d:D} {ds:List D}:Ows (d::ds)=Ow d::Ows ds:=by simp only[Ows]
theorem yT {ds:List D}:Cs ds=ds.map C:=by
 induction ds with
 | nil=>simp
 | cons d ds ih=>simp[ih]
theorem wX {ds:List D}:Ows ds=ds.map Ow:=by
 induction ds with
 | nil=>simp
 | cons d ds ih=>simp[ih]
@[simp] theorem tJ {a b:List D}:Cs (a++b)=Cs a++Cs b:=by simp[yT]
@[simp] theorem vH {a b:List D}:Ows (a++b)=Ows a++Ows b:=by simp[wX]
@[simp] theorem LX {a:List D}:(Cs a).length=a.length:=by simp[yT]
@[simp] theorem Az {a:List D}:(Ows a).length=a.length:=by simp[wX]
theorem aT {a:List D} {n:Nat}:(Cs a).drop n=Cs (a.drop n):=by simp[yT]
theorem aGy {a:List D} {n:Nat}:(Cs a).take n=Cs (a.take n):=by simp[yT]
theorem Bj {a:List D} {n:Nat}:(Ows a).drop n=Ows (a.drop n):=by simp[wX]
theorem auy {a:List D} {n:Nat}:(Ows a).take n=Ows (a.take n):=by simp[wX]
@[simp] theorem adD {d:D}:gY (C d)=true:=by cases d<;>simp[gY]
@[simp] theorem auq {d:D}:eU (C d)=false:=by cases d<;>rfl
@[simp] theorem aF2 {d:D}:pz (C d)=false:=by cases d<;>rfl
@[simp] theorem aup {d:D}:pz (Ow d)=false:=by cases d<;>rfl
@[simp] theorem as7 {d:D}:eU (Ow d)=false:=by cases d<;>rfl
@[simp] theorem aut {d:D}:iQ (C d)=false:=by cases d<;>rfl
@[simp] theorem atb {d:D}:iQ (Ow d)=false:=by cases d<;>rfl
@[simp] theorem aGJ {ds:List D}:(Cs ds).any pz=false:=by simp[yT]
@[simp] theorem aF9 {ds:List D}:(Ows ds).any pz=false:=by simp[wX]
@[simp] theorem aEB {e:Env} {d:D}:gZ e (C d)=some (C d,false):=by cases d<;>simp[gZ,gY]
@[simp] theorem as4 {e:Env} {ds:List D}:iV e (Cs ds)=some (Cs ds,false):=by
 induction ds with
 | nil=>simp[iV]
 | cons d ds ih=>simp[iV,ih]
@[simp] theorem aEx {e:Env} {d:D}:takeC e (C d)=some (C d,e):=by cases d<;>simp[takeC]
@[simp] theorem as3 {e:Env} {ds:List D}:dQ e (Cs ds)=some (Cs ds,e):=by
 induction ds with
 | nil=>simp[dQ]
 | cons d ds ih=>simp[dQ,ih]
@[simp] theorem aKa {r o:Nat} {p:List Nat} {d:D}:lz1 r p o (C d)=C d:=by cases d<;>simp[lz1]
@[simp] theorem aGE {r:Nat} {p:List Nat} {o:Nat} {ds:List D}:lzc r p o (Cs ds)=Cs ds:=by
 induction ds generalizing o with
 | nil=>simp[lzc]
 | cons d ds ih=>simp[lzc,ih]
@[simp] theorem aJ9 {j:Nat} {d:D}:lzv j (C d)=C d:=by cases d<;>simp[lzv,lz1]
mutual
theorem Em:∀ (d:D),jI (Ow d)=some (C d)
 | .I k n=>by simp[jI]
 | .B b=>by simp[jI]
 | .S s=>by simp[jI]
 | .L e n cs=>by simp[jI,wJ cs]
theorem wJ:∀ (ds:List D),jZ (Ows ds)=some (Cs ds)
 | []=>by simp[jZ]
 | d::ds=>by simp[jZ,Em d,wJ ds]
end
attribute [simp] Em wJ
@[simp] theorem aGF {d:D}:jI (C d)=some (C d):=by cases d<;>simp[jI]
@[simp] theorem aF4 {ds:List D}:jZ (Cs ds)=some (Cs ds):=by
 induction ds with
 | nil=>simp[jZ]
 | cons d ds ih=>simp[jZ,ih]
mutual
theorem FY:∀ (d:D),iP (Ow d)=true
 | .I k n=>by simp[iP]
 | .B b=>by simp[iP]
 | .S s=>by simp[iP]
 | .L e n cs=>by simp[iP,uX cs]
theorem uX:∀ (ds:List D),jf (Ows ds)=true
 | []=>by simp[jf]
 | d::ds=>by simp[jf,FY d,uX ds]
end
attribute [simp] FY uX
theorem aus {e n:Nat} {d:D} {cs:List D}:inner (Ow (.L e n (d::cs)))=some (Ows (d::cs)):=by simp[inner]
theorem adp {α:Type} (f:α→List D) (k:Nat):∀ (xs:List α) (i:Nat) (x:α),(∀ x∈xs,(f x).length=k)→xs[i]?=some x→((xs.flatMap f).drop (i*k)).take k=f x∧i*k+k≤(xs.flatMap f).length
 | [],i,x,_,h=>by simp at h
 | y::ys,0,x,hl,h=>by
  simp at h;subst h
  have:=hl y (by simp)
  simp[←this]
 | y::ys,i+1,x,hl,h=>by
  have h1:=hl y (by simp)
  obtain⟨a,b⟩:=adp f k ys i x (fun x hx=>hl x (by simp[hx])) (by simpa using h)
  have e:(i+1)*k=(f y).length+i*k:=by rw[h1,Nat.add_mul];omega
  rw[List.flatMap_cons,e,List.drop_append,List.drop_eq_nil_of_le (by omega)]
  refine⟨by simpa using a,?_⟩
  rw[List.length_append]
  omega
theorem bJ {x:Int} (h1:-9223372036854775808≤x) (h2:x<9223372036854775808):IntKind.i64.wrap x=x:=by
 simp only[IntKind.wrap,IntKind.bits,IntKind.signed]
 simp
 split<;>omega
@[simp] theorem asZ:IntKind.i64.wrap 0=0:=by decide
@[simp] theorem wrap_one:IntKind.i64.wrap 1=1:=by decide
@[simp] theorem as1:IntKind.i64.wrap (-1)=-1:=by decide
@[simp] theorem aur {s t:Nat} {cs:List AV}:inner (.bx s t cs)=some cs:=rfl
@[simp] theorem ata {s e n:Nat} {cs:List AV} (h:cs≠[]):inner (.osl s e n cs)=some cs:=by
 cases cs with
 | nil=>exact absurd rfl h
 | cons c cs=>rfl
@[simp] theorem abk {s t n:Nat} {e:Env}:takeC e (.osl s t 0 [])=some (.osl s t 0 [],e):=rfl
theorem jE {A B Z cs:List AV} {o:Nat} (ho:A.length=o) (hb:B.length=cs.length):splice (A++(B++Z)) o cs=A++(cs++Z):=by
 subst ho
 simp[splice,←hb,List.drop_append]
theorem TW {r r' o o':Nat} {p p':List Nat} (v:AV):lz1 r p o (lz1 r' p' o' v)=lz1 r' p' o' v:=by
 cases v with
 | fn f cs=>cases cs<;>rfl
 | _=>rfl
@[simp] theorem aF0 {r r':Nat} {p p':List Nat} {cs:List AV} {o o':Nat}:lzc r p o (lzc r' p' o' cs)=lzc r' p' o' cs:=by
 induction cs generalizing o o' with
 | nil=>rfl
 | cons c cs ih=>simp[lzc,ih,TW]
@[simp] theorem abn {row cs:List AV} (h:row.length≤cs.length):splice row 0 cs=cs:=by
 simp[splice,List.drop_eq_nil_of_le h]
def gn:D→AV
 | .L _ _ _=>.gone 0
 | d=>Ow d
def isL:D→Bool
 | .L _ _ _=>true
 | _=>false
@[simp] theorem abP {r:Nat} {p:List Nat} {o:Nat} {cs:List AV}:(lzc r p o cs).length=cs.length:=by
 induction cs generalizing o with
 | nil=>rfl
 | cons c cs ih=>simp[lzc,ih]
theorem EW {j:Nat}:∀ {ds:List D} {e:Env} {pre:List AV},e[j]?=some (.agg (pre++Ows ds))→dQ e (lzc j [] pre.length (Ows ds))=some (Ows ds,e.set j (.agg (pre++ds.map gn))):=by
 intro ds
 induction ds with
 | nil =>
  intro e pre h
  have:e.set j (.agg (pre++[]))=e:=gW (by simpa using h)
  simpa [lzc,dQ] using this.symm
 | cons d ds ih =>
  intro e pre h
  have hj:=(List.getElem?_eq_some_iff.1 h).1
  have sc:∀ {v:AV},Ow d=v→gn d=v→lz1 j [] pre.length v=v→takeC e v=some (v,e)→dQ e (lzc j [] pre.length (Ows (d::ds)))=some (Ows (d::ds),e.set j (.agg (pre++(d::ds).map gn))):=by
   intro v h1 h2 h3 h4
   have:=ih (e:=e) (pre:=pre++[v]) (by rw[h];simp[h1])
   simp only[List.length_append,List.length_singleton] at this
   simp[lzc,dQ,h1,h3,h4,this,h2]
  cases d with
  | I k n=>exact sc (v:=.int k n) (by simp) (by simp[gn]) rfl rfl
  | B b=>exact sc (v:=.bool b) (by simp) (by simp[gn]) rfl rfl
  | S s=>exact sc (v:=.str s) (by simp) (by simp[gn]) rfl rfl
  | L el n cs =>
   have hrow:jv e j []=some (pre++Ows (.L el n cs::ds)):=by simp[jv,h,rowAt,cellsOf]
   have hset:dY e j [] (pre++.gone 0::Ows ds)=e.set j (.agg (pre++.gone 0::Ows ds)):=by
    simp[dY,h,setRow,jy]
   have:=ih (e:=e.set j (.agg (pre++.gone 0::Ows ds))) (pre:=pre++[.gone 0]) (by simp[hj])
   simp only[List.length_append,List.length_singleton] at this
   simp[lzc,dQ,lz1,takeC,hrow,hset,this,gn]
@[simp] theorem aa7 {j:Nat} {ds:List D} {e:Env} (h:e[j]?=some (.agg (Ows ds))):dQ e (lzc j [] 0 (Ows ds))=some (Ows ds,e.set j (.agg (ds.map gn))):=by
 have:=EW (j:=j) (ds:=ds) (e:=e) (pre:=[]) (by simpa using h)
 simpa using this
theorem Hg {r:Nat} {p:List Nat} {e:Env}:∀ {ds:List D} {pre post:List AV},jv e r p=some (pre++(Ows ds++post))→iV e (lzc r p pre.length (Ows ds))=some (Cs ds,ds.any isL):=by
 intro ds
 induction ds with
 | nil=>intro pre post h;simp[lzc,iV]
 | cons d ds ih =>
  intro pre post h
  have sc:∀ {v:AV},Ow d=v→C d=v→isL d=false→lz1 r p pre.length v=v→gZ e v=some (v,false)→iV e (lzc r p pre.length (Ows (d::ds)))=some (Cs (d::ds),(d::ds).any isL):=by
   intro v h1 h2 h3 h4 h5
   have:=ih (pre:=pre++[v]) (post:=post) (by rw[h];simp[h1])
   simp only[List.length_append,List.length_singleton] at this
   simp[lzc,iV,h1,h2,h3,h4,h5,this]
  cases d with
  | I k n=>exact sc (v:=.int k n) (by simp) (by simp) rfl rfl (by simp[gZ,gY])
  | B b=>exact sc (v:=.bool b) (by simp) (by simp) rfl rfl (by simp[gZ,gY])
  | S s=>exact sc (v:=.str s) (by simp) (by simp) rfl rfl (by simp[gZ,gY])
  | L el n cs =>
   have:=ih (pre:=pre++[.osl 0 el n (Ows cs)]) (post:=post) (by rw[h];simp)
   simp only[List.length_append,List.length_singleton] at this
   have hs:gZ e (.ps r p pre.length)=some (.rsl n (Cs cs),true):=by simp[gZ,h,jI]
   simp[lzc,lz1,iV,hs,this,isL]
@[simp] theorem aa8 {r:Nat} {p:List Nat} {e:Env} {ds:List D} (h:jv e r p=some (Ows ds)):iV e (lzc r p 0 (Ows ds))=some (Cs ds,ds.any isL):=by
 have:=Hg (e:=e) (r:=r) (p:=p) (ds:=ds) (pre:=[]) (post:=[]) (by simpa using h)
 simpa using this
section
variable {P : Program} {m k : Nat}
@[congr] theorem auh {sc:ae} {e e':Env} {Q:Exit→Env→Prop} (h:e=e'):wpS P m sc e Q=wpS P m sc e' Q:=by rw[h]
@[congr] theorem aGK {sc:ae} {e e':Env} {Q:Exit→Env→Prop} (h:e=e'):W P m sc e Q=W P m sc e' Q:=by rw[h]
@[congr] theorem atd {ops ops':List dJ} {e e':Env} {Q:Env→Prop} (ho:ops=ops') (h:e=e'):kw P m k ops e Q=kw P m k ops' e' Q:=by rw[h,ho]
@[congr] theorem auz {so:dJ} {e e':Env} {Q:Env→Prop} (h:e=e'):OpW P m k so e Q=OpW P m k so e' Q:=by rw[h]
@[congr] theorem acU {e e':Env} {ops ops':List dJ} {info:List (List Bool × Option (List Nat))} {acc acc':List AV} {Q:List AV→Prop} (ho:ops=ops') (h:e=e') (ha:acc=acc'):fD P e ops info acc Q=fD P e' ops' info acc' Q:=by rw[h,ho,ha]
@[congr] theorem auA {so:dJ} {e e':Env} {Q:AV→Prop} (h:e=e'):OpV P so e Q=OpV P so e' Q:=by rw[h]
@[congr] theorem auB {so:dJ} {e e':Env} {d d':List Nat} {Q:AV→Prop} (h:e=e') (hd:d=d'):OpC so e d Q=OpC so e' d' Q:=by rw[h,hd]
end
attribute [simp] Ro at7 MO aua Td Jj zY ach BR vS wB wpS kw OpW opx ev lu lzv lz1 lzc endOk nH vw yA sQ BQ kW rH Es iQ pz eU FO OQ og nU gU yG outOf cellsOf mkv Iw kU ny gZ gY jv rowAt yB takeC dQ ry zD
 dY setRow jy kM II dR rM evs uC iV jI jZ frz iP jf oz shA uV fD OpV OpC gK jD BA MI ku BX Tn Ed wC Ez y7 y5 isS num nB aaY abC jq rJ EH EG qO pF mP oQ iZ L9 tC wE uf CO wW Ef mpV rP CS yC Dk jd gJ hrs hr oz GR MP qG upV qR dnV lX xR
end Go.AM
