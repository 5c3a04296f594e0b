import Derived.Tactics
import Derived.Laws.OwnMore
import Derived.OwnWalk
import Derived.Laws.StructEq
import Derived.Laws.Concat
import Derived.Laws.Strings
import Derived.Laws.BytesString
import Derived.ChangeKeysEq
import Derived.Lib.LaidTab
import Derived.Lib.ItoaNum
set_option linter.unusedVariables false
namespace Go.AM
open Go
inductive AV where
 | dead
 | gone (s:Nat)
 | int (k:IntKind) (n:Int)
 | bool (b:Bool)
 | str (s:List UInt8)
 | fn (f:Nat) (caps:List AV)
 | nilf
 | nilp
 | nsl (t:Bool)
 | rsl (n:Nat) (cs:List AV)
 | rp (cs:List AV)
 | osl (s:Nat) (e:Nat) (n:Nat) (cs:List AV)
 | bx (s:Nat) (t:Nat) (cs:List AV)
 | agg (cs:List AV)
 | tup (sh:List (Option Nat)) (cs:List AV)
 | ps (r:Nat) (p:List Nat) (o:Nat)
 | pp (r:Nat) (p:List Nat) (o:Nat)
 | pf (r:Nat) (p:List Nat) (o:Nat)
 | pw (r:Nat) (p:List Nat) (o:Nat) (lo n sz:Nat)
instance:Inhabited AV:=⟨.dead⟩
abbrev Env:=List AV
def cellsOf:AV→List AV
 | .agg cs=>cs
 | .tup _ cs=>cs
 | v=>[v]
def jy:AV→List AV→AV
 | .agg _,cs=>.agg cs
 | .tup sh _,cs=>.tup sh cs
 | _,cs=>cs.headD .dead
def inner:AV→Option (List AV)
 | .osl _ _ _ (c::cs)=>some (c::cs)
 | .bx _ _ cs=>some cs
 | _=>none
def kM:AV→List AV→AV
 | .osl s e n _,cs=>.osl s e n cs
 | .bx s t _,cs=>.bx s t cs
 | v,_=>v
def rowAt:List AV→List Nat→Option (List AV)
 | cs,[]=>some cs
 | cs,o::p=>match cs[o]? with
  | some v=>match inner v with
   | some ics=>rowAt ics p
   | none=>none
  | none=>none
def setRow:List AV→List Nat→List AV→List AV
 | _,[],row=>row
 | cs,o::p,row=>match cs[o]? with
  | some v=>match inner v with
   | some ics=>cs.set o (kM v (setRow ics p row))
   | none=>cs
  | none=>cs
def jv (e:Env) (r:Nat) (p:List Nat):Option (List AV) :=
 match e[r]? with
 | some .dead=>none
 | some (.gone _)=>none
 | some v=>rowAt (cellsOf v) p
 | none=>none
def dY (e:Env) (r:Nat) (p:List Nat) (row:List AV):Env :=
 match e[r]? with
 | some v=>e.set r (jy v (setRow (cellsOf v) p row))
 | none=>e
def lz1 (r:Nat) (p:List Nat) (o:Nat):AV→AV
 | .osl _ _ _ _=>.ps r p o
 | .bx _ _ _=>.pp r (p++[o]) 0
 | .fn f []=>.fn f []
 | .fn _ (_::_)=>.pf r p o
 | .agg _=>.gone 0
 | .gone _=>.gone 0
 | .tup _ _=>.gone 0
 | c=>c
def lzc (r:Nat) (p:List Nat):Nat→List AV→List AV
 | _,[]=>[]
 | o,c::cs=>lz1 r p o c::lzc r p (o+1) cs
def lzv (j:Nat):AV→AV
 | .agg cs=>.agg (lzc j [] 0 cs)
 | .tup _ _=>.gone 0
 | v=>lz1 j [] 0 v
def eU:AV→Bool
 | .ps _ _ _=>true
 | .pp _ _ _=>true
 | .pf _ _ _=>true
 | .pw _ _ _ _ _ _=>true
 | _=>false
def pz:AV→Bool
 | .fn _ cs=>cs.any eU
 | .agg _=>true
 | .tup _ _=>true
 | v=>eU v
def iQ:AV→Bool
 | .agg cs=>cs.any pz
 | .tup _ cs=>cs.any pz
 | v=>pz v
def nH (e:Env):Env:=e.map fun v=>if iQ v then .dead else v
def sQ (j:Nat):AV→Bool
 | .ps r _ _=>r != j
 | .pp r _ _=>r != j
 | .pf r _ _=>r != j
 | .pw r _ _ _ _ _=>r != j
 | v=>!pz v
def yA (j:Nat):AV→Bool
 | .agg cs=>cs.all (sQ j)
 | .tup _ cs=>cs.all (sQ j)
 | v=>sQ j v
def vw (j:Nat) (e:Env):Env:=e.map fun v=>if yA j v then v else .dead
def rH (e:Env):AV→Bool
 | .ps r p _=>(jv e r p).isSome
 | .pp r p _=>(jv e r p).isSome
 | .pf r p _=>(jv e r p).isSome
 | .pw r p _ _ _ _=>(jv e r p).isSome
 | v=>!pz v
def kW (e:Env):AV→Bool
 | .agg cs=>cs.all (rH e)
 | .tup _ cs=>cs.all (rH e)
 | v=>rH e v
def BQ (e:Env):Env:=e.map fun v=>if kW e v then v else .dead
def II (e:Env) (r:Nat):Bool:=match e[r]? with
 | some u=>!iQ u
 | none=>false
def dR:AV→Bool
 | .int _ _=>true
 | .bool _=>true
 | .str _=>true
 | _=>false
def takeC (e:Env):AV→Option (AV × Env)
 | .ps r p o=>match jv e r p with
  | some row=>match row[o]? with
   | some (.osl s t n cs)=>some (.osl s t n cs,dY e r p (row.set o (.gone 0)))
   | _=>none
  | none=>none
 | .pp r p o=>if o=0 then match p.getLast? with
   | some k=>match jv e r p.dropLast with
    | some row=>match row[k]? with
     | some (.bx s t cs)=>some (.bx s t cs,dY e r p.dropLast (row.set k (.gone 0)))
     | _=>none
    | none=>none
   | none=>none
  else none
 | .int k n=>some (.int k n,e)
 | .bool b=>some (.bool b,e)
 | .str s=>some (.str s,e)
 | .fn f []=>some (.fn f [],e)
 | .nilf=>some (.nilf,e)
 | .nilp=>some (.nilp,e)
 | .nsl t=>some (.nsl t,e)
 | .rsl n cs=>some (.rsl n cs,e)
 | .rp cs=>some (.rp cs,e)
 | .osl s t 0 []=>some (.osl s t 0 [],e)
 | _=>none
def dQ (e:Env):List AV→Option (List AV × Env)
 | []=>some ([],e)
 | c::cs=>match takeC e c with
  | some (c',e1)=>match dQ e1 cs with
   | some (cs',e2)=>some (c'::cs',e2)
   | none=>none
  | none=>none
def yB (e:Env):AV→Option (AV × Env)
 | .agg cs=>match dQ e cs with
  | some (cs',e')=>some (.agg cs',e')
  | none=>none
 | .tup _ _=>none
 | v=>takeC e v
mutual
def jI:AV→Option AV
 | .osl _ _ n cs=>match jZ cs with|some cs'=>some (.rsl n cs')|none=>none
 | .bx _ _ cs=>match jZ cs with|some cs'=>some (.rp cs')|none=>none
 | .int k n=>some (.int k n)
 | .bool b=>some (.bool b)
 | .str s=>some (.str s)
 | .fn f []=>some (.fn f [])
 | .nilf=>some .nilf
 | .nilp=>some .nilp
 | .nsl t=>some (.nsl t)
 | .rsl n cs=>some (.rsl n cs)
 | .rp cs=>some (.rp cs)
 | _=>none
def jZ:List AV→Option (List AV)
 | []=>some []
 | c::cs=>match jI c with
  | some c'=>match jZ cs with
   | some cs'=>some (c'::cs')
   | none=>none
  | none=>none
end
def frz:AV→Option AV
 | .agg cs=>match jZ cs with|some cs'=>some (.agg cs')|none=>none
 | .tup sh cs=>match jZ cs with|some cs'=>some (.tup sh cs')|none=>none
 | v=>jI v
mutual
def iP:AV→Bool
 | .osl _ _ _ cs=>jf cs
 | .bx _ _ cs=>jf cs
 | .agg cs=>jf cs
 | .tup _ cs=>jf cs
 | .fn _ cs=>jf cs
 | .rsl _ []=>true
 | .rsl _ (_::_)=>false
 | .rp _=>false
 | _=>true
def jf:List AV→Bool
 | []=>true
 | c::cs=>iP c&&jf cs
end
def gY:AV→Bool
 | .int _ _=>true
 | .bool _=>true
 | .str _=>true
 | .fn _ []=>true
 | .nilf=>true
 | .nilp=>true
 | .nsl _=>true
 | .rsl _ _=>true
 | .rp _=>true
 | _=>false
def oz (c:AV):Bool:=eU c||gY c
inductive Opd where
 | slot (j:Nat)
 | con (v:AV)
def ev (e:Env):Opd→Option AV
 | .slot j=>match e[j]? with
  | some v=>some (lzv j v)
  | none=>none
 | .con v=>some v
def bnd:Nat:=4294967296
inductive Sm where
 | sc
 | al
 | kp (k:Option Nat)
inductive SOp where
 | mv (x:Opd)
 | asg (x:Opd)
 | pick (c a b:Opd)
 | mk (t:Nat) (zero:List AV)
 | box (t:Nat) (sz:Nat) (x:Opd)
 | build (zero:List AV) (parts:List (Nat × Nat × Opd))
 | bldt (zero:List AV) (parts:List (Nat × Nat × Opd))
 | bsl (e:Nat) (n:Nat) (zero:List AV) (parts:List (Nat × Nat × Opd))
 | load (sz:Nat) (ag:Bool) (x:Opd)
 | store (sz:Nat) (st:Sm) (a x:Opd)
 | bin (op:BinOp) (x y:Opd)
 | beq (ne:Bool) (x y:Opd)
 | not (x:Opd)
 | neg (x:Opd)
 | conv (k:IntKind) (x:Opd)
 | mkf (f:Nat) (caps:List Opd)
 | mksl (e:Nat) (zero:List AV) (len cap:Opd)
 | slice (st:Bool) (sz:Nat) (x:Opd) (lo hi:Option Opd)
 | faddr (off:Nat) (x:Opd)
 | iaddr (sz:Nat) (x i:Opd)
 | idx (x i:Opd)
 | len (st:Bool) (x:Opd)
 | minmax (mx:Bool) (x y:Opd)
 | append (e:Nat) (sz:Nat) (s x:Opd)
 | appk (e:Nat) (sz:Nat) (s x:Opd)
 | cutk (sz:Nat) (x hi:Opd)
 | ext (j ix:Nat)
 | aidx (sz:Nat) (ag:Bool) (n:Nat) (x i:Opd)
 | b2s (x:Opd)
 | isnil (ne:Bool) (x:Opd)
 | pnil (ne:Bool) (x:Opd)
 | sbeq (ne:Bool) (ks:List Nat) (x y:Opd)
 | cut (sz:Nat) (x hi:Opd)
 | mvt (j:Nat)
 | nck (x:Opd)
 | fld (off sz:Nat) (ag:Bool) (x:Opd)
def eqC:List Nat→List AV→List AV→Option Bool
 | [],[],[]=>some true
 | 0::ks,.int k a::cs,.int k' b::ds=>if k=k' then match eqC ks cs ds with
   | some r=>some (a==b&&r)
   | none=>none
  else none
 | 1::ks,.bool a::cs,.bool b::ds=>match eqC ks cs ds with
  | some r=>some (a==b&&r)
  | none=>none
 | 2::ks,.str a::cs,.str b::ds=>match eqC ks cs ds with
  | some r=>some (a==b&&r)
  | none=>none
 | _,_,_=>none
def bytesOf:List AV→Option (List UInt8)
 | []=>some []
 | .int .u8 n::r=>match bytesOf r with
  | some l=>some (UInt8.ofNat n.toNat::l)
  | none=>none
 | _::_=>none
def BU (op:BinOp) (k:IntKind) (a b:Int):Int:=match op with
 | .and=>k.wrap (BitVec.ofInt k.bits a &&& BitVec.ofInt k.bits b).toNat
 | .or=>k.wrap (BitVec.ofInt k.bits a ||| BitVec.ofInt k.bits b).toNat
 | .xor=>k.wrap (BitVec.ofInt k.bits a ^^^ BitVec.ofInt k.bits b).toNat
 | _=>k.wrap (BitVec.ofInt k.bits a &&& ~~~(BitVec.ofInt k.bits b)).toNat
def mkv (ag:Bool) (cs:List AV):Option AV :=
 if ag then some (.agg cs) else match cs with
  | [c]=>some c
  | _=>none
def splice (cs:List AV) (off:Nat) (xs:List AV):List AV:=cs.take off++xs++cs.drop (off+xs.length)
def rM (e:Env) (cs:List AV):List (Nat × Nat × Opd)→Option (List AV)
 | []=>some cs
 | (off,sz,x)::ps=>match ev e x with
  | some .dead=>none
  | some (.gone _)=>none
  | some v=>if (cellsOf v).length=sz∧off+sz≤cs.length then rM e (splice cs off (cellsOf v)) ps else none
  | none=>none
def evs (e:Env):List Opd→Option (List AV)
 | []=>some []
 | x::xs=>match ev e x with
  | some v=>match evs e xs with
   | some vs=>some (v::vs)
   | none=>none
  | none=>none
def Iw (op:BinOp):AV→AV→Option AV
 | .int k a,.int k' b =>
  if k=k' then match op with
   | .add=>some (.int k (k.wrap (a+b)))
   | .sub=>some (.int k (k.wrap (a-b)))
   | .mul=>some (.int k (k.wrap (a*b)))
   | .quo=>if b=0 then none else some (.int k (k.wrap (a.tdiv b)))
   | .rem=>if b=0 then none else some (.int k (a.tmod b))
   | .eql=>some (.bool (a==b))
   | .neq=>some (.bool (a != b))
   | .lss=>some (.bool (a<b))
   | .leq=>some (.bool (a≤b))
   | .gtr=>some (.bool (a > b))
   | .geq=>some (.bool (a≥b))
   | .and=>some (.int k (BU .and k a b))
   | .or=>some (.int k (BU .or k a b))
   | .xor=>some (.int k (BU .xor k a b))
   | .andNot=>some (.int k (BU .andNot k a b))
   | _=>none
  else none
 | .str a,.str b=>match op with
  | .add=>if a.length+b.length≤bnd then some (.str (a++b)) else none
  | .eql=>some (.bool (a==b))
  | .neq=>some (.bool (a != b))
  | .lss=>some (.bool (Op.bytesLess a b))
  | .leq=>some (.bool (Op.bytesLess a b||a==b))
  | .gtr=>some (.bool (!(Op.bytesLess a b||a==b)))
  | .geq=>some (.bool (!(Op.bytesLess a b)))
  | _=>none
 | _,_=>none
def ry (e:Env):Bool→AV→Option Nat
 | true,.str s=>some s.length
 | false,.rsl n _=>some n
 | false,.nsl _=>some 0
 | false,.ps r p o=>match jv e r p with
  | some row=>match row[o]? with
   | some (.osl _ _ n _)=>some n
   | _=>none
  | none=>none
 | _,_=>none
def uC (e:Env) (el sz:Nat):AV→Option (Nat × List AV × Env)
 | .rsl n cs=>if cs.length=n*sz then some (n,cs,e) else none
 | .ps r p o=>match jv e r p with
  | some row=>match row[o]? with
   | some (.osl _ t n cs)=>if t=el then match dQ e (lzc r (p++[o]) 0 cs) with
    | some (cs',e')=>some (n,cs',e')
    | none=>none
    else none
   | _=>none
  | none=>none
 | .osl _ _ 0 []=>some (0,[],e)
 | .nsl _=>some (0,[],e)
 | .pw r p o lo m z=>match jv e r p with
  | some row=>match row[o]? with
   | some (.osl _ t n cs)=>if t=el∧z=sz∧cs.length=n*sz∧lo+m≤n then match dQ e (lzc r (p++[o]) (lo*sz) ((cs.drop (lo*sz)).take (m*sz))) with
    | some (cs',e')=>some (m,cs',e')
    | none=>none
    else none
   | _=>none
  | none=>none
 | _=>none
def pnX:AV→Option Bool
 | .nilp=>some true
 | .pp _ _ _=>some false
 | .rp _=>some false
 | _=>none
def MN (e:Env):AV→Option Bool
 | .nsl t=>some t
 | v=>match ry e false v with
  | some (_+1)=>some false
  | _=>none
def zD (e:Env) (d:Nat):Option Opd→Option Int
 | none=>some d
 | some x=>match ev e x with
  | some (.int _ i)=>some i
  | _=>none
def uV:List (Option Nat)→Nat→Nat
 | _,0=>0
 | [],_=>0
 | n::sh,ix+1=>n.getD 1+uV sh ix
def Es (e:Env) (t sz:Nat) (s x:Opd):Option (AV × Env):=match ev e s,ev e x with
 | some sv,some xv=>match uC e t sz xv with
  | some (m,new,e1)=>match takeC e1 sv with
   | some (.osl _ t' n cs,e2)=>if t'=t∧n+m≤bnd then some (.osl 0 t (n+m) (cs++new),e2) else none
   | _=>none
  | none=>none
 | _,_=>none
def Ut (e:Env) (sz:Nat) (x hi:Opd):Option (AV × Env):=match ev e x,ev e hi with
 | some xv,some (.int _ m)=>match takeC e xv with
  | some (.osl _ t n cs,e')=>if 0≤m∧m≤(n:Int)∧cs.length=n*sz then some (.osl 0 t m.toNat (cs.take (m.toNat*sz)),e') else none
  | _=>none
 | _,_=>none
def ach:Sm→Bool
 | .sc=>true
 | _=>false
def vS (o sz:Nat):AV→Bool
 | .pp _ p _=>p.tail.all fun k=>decide (k<o)||decide (o+sz≤k)
 | _=>false
def BR (o sz:Nat) (e:Env):Env:=e.map fun v=>if iQ v&&!vS o sz v then .dead else v
def zY (st:Sm) (o sz:Nat) (e:Env):Env:=match st with
 | .sc=>e
 | .al=>nH e
 | .kp _=>BR o sz e
def wB:AV→Bool
 | .agg cs=>cs.all fun c=>dR c||eU c
 | v=>eU v
def Jj (e:Env):Sm→Option Env
 | .kp (some k)=>match e[k]? with
  | some u=>if wB u=true then match yB e u with
    | some (u',e0)=>some (e0.set k u')
    | none=>none
   else none
  | none=>none
 | _=>some e
def nY:AV→Nat
 | .osl s _ _ _=>s
 | .bx s _ _=>s
 | _=>0
def kF:List AV→List Nat→Option (List Nat)
 | _,[]=>some []
 | cs,o::p=>match cs[o]? with
  | some v=>if nY v=0 then none else match inner v with
   | some ics=>match kF ics p with
    | some ss=>some (nY v::ss)
    | none=>none
   | none=>none
  | none=>none
def GL (e:Env) (r:Nat) (p:List Nat):Option (List Nat):=match e[r]? with
 | some .dead=>none
 | some (.gone _)=>none
 | some v=>kF (cellsOf v) p
 | none=>none
def rq (e e3:Env) (r:Nat) (p:List Nat):Bool:=match GL e r p,GL e3 r p with
 | some a,some b=>a==b
 | _,_=>false
def bz (e e3:Env):AV→AV→AV
 | .pp r p o,.dead=>if p≠[]∧rq e e3 r p=true then .pp r p o else .dead
 | _,v3=>v3
def oU (e e3:Env):Env:=List.zipWith (bz e e3) e e3
def abp (st:Sm) (e e':Env):Env:=match st with
 | .kp _=>oU e e'
 | _=>e'
def Td (e:Env) (sz:Nat) (st:Sm) (a x:Opd):Option (AV × Env):=match ev e a,ev e x with
 | some (.pp r p o),some v=>if (cellsOf v).length=sz∧p≠[] then match dQ e (cellsOf v) with
   | some (cs,e1)=>match jv (zY st o sz e1) r p with
    | some row=>if o+sz≤row.length∧II (zY st o sz e1) r=true∧(ach st=true→cs.all dR=true∧((row.drop o).take sz).all dR=true)
     then some (.dead,dY (zY st o sz e1) r p (splice row o cs))
     else none
    | none=>none
   | none=>none
  else none
 | _,_=>none
def opx (e:Env):SOp→Option (AV × Env)
 | .mv x=>match ev e x with
  | some v=>some (v,e)
  | none=>none
 | .mvt j=>match e[j]? with
  | some (.tup sh cs)=>some (.tup sh (lzc j [] 0 cs),e)
  | _=>none
 | .asg x=>match ev e x with
  | some v=>yB e v
  | none=>none
 | .pick c a b=>match ev e c with
  | some (.bool t)=>match ev e (if t then a else b) with
   | some v=>some (v,e)
   | none=>none
  | _=>none
 | .mk t zero=>some (.bx 0 t zero,e)
 | .box t sz x=>match ev e x with
  | some v=>if (cellsOf v).length=sz then match dQ e (cellsOf v) with
    | some (cs,e')=>some (.bx 0 t cs,e')
    | none=>none
   else none
  | none=>none
 | .build zero parts=>match rM e zero parts with
  | some cs=>some (.agg cs,e)
  | none=>none
 | .bldt zero parts=>match rM e zero parts with
  | some cs=>match dQ e cs with
   | some (cs',e')=>some (.agg cs',e')
   | none=>none
  | none=>none
 | .bsl t n zero parts=>match rM e (List.replicate n zero).flatten parts with
  | some cs=>match dQ e cs with
   | some (cs',e')=>some (.osl 0 t n cs',e')
   | none=>none
  | none=>none
 | .load sz ag x=>match ev e x with
  | some (.rp cs)=>if sz≤cs.length then match mkv ag (cs.take sz) with
    | some v=>some (v,e)
    | none=>none
   else none
  | some (.pp r p o)=>match jv e r p with
   | some row=>if o+sz≤row.length then match mkv ag (lzc r p o ((row.drop o).take sz)) with
     | some v=>some (v,e)
     | none=>none
    else none
   | none=>none
  | _=>none
 | .store sz st a x=>match Jj e st with
  | some e=>match Td e sz st a x with
   | some (v,e')=>some (v,abp st e e')
   | none=>none
  | none=>none
 | .bin op x y=>match ev e x,ev e y with
  | some a,some b=>match Iw op a b with
   | some v=>some (v,e)
   | none=>none
  | _,_=>none
 | .beq ne x y=>match ev e x,ev e y with
  | some (.bool a),some (.bool b)=>some (.bool (if ne then a != b else a==b),e)
  | _,_=>none
 | .not x=>match ev e x with
  | some (.bool b)=>some (.bool (!b),e)
  | _=>none
 | .neg x=>match ev e x with
  | some (.int k n)=>some (.int k (k.wrap (0-n)),e)
  | _=>none
 | .conv k x=>match ev e x with
  | some (.int _ n)=>some (.int k (k.wrap n),e)
  | _=>none
 | .mkf f caps=>match evs e caps with
  | some vs=>if vs.all oz=true then some (.fn f vs,e) else none
  | none=>none
 | .mksl t zero l c=>match ev e l,ev e c with
  | some (.int _ l),some (.int _ c)=>if 0≤l∧l=c∧c≤(bnd:Int) then some (.osl 0 t l.toNat (List.replicate l.toNat zero).flatten,e) else none
  | _,_=>none
 | .slice st sz x lo hi=>match st,ev e x with
  | false,some (.rsl n cs)=>match zD e 0 lo,zD e n hi with
   | some l,some h=>if 0≤l∧l≤h∧h≤(n:Int) then some (.rsl (h-l).toNat ((cs.drop (l.toNat*sz)).take ((h-l).toNat*sz)),e) else none
   | _,_=>none
  | false,some (.ps r p o)=>match jv e r p with
   | some row=>match row[o]? with
    | some (.osl _ _ n _)=>match zD e 0 lo,zD e n hi with
     | some l,some h=>if 0≤l∧l≤h∧h≤(n:Int) then some (.pw r p o l.toNat (h-l).toNat sz,e) else none
     | _,_=>none
    | _=>none
   | none=>none
  | true,some (.str s)=>match zD e 0 lo,zD e s.length hi with
   | some l,some h=>if 0≤l∧l≤h∧h≤(s.length:Int) then some (.str ((s.drop l.toNat).take (h-l).toNat),e) else none
   | _,_=>none
  | _,_=>none
 | .faddr off x=>match ev e x with
  | some (.rp cs)=>if off≤cs.length then some (.rp (cs.drop off),e) else none
  | some (.pp r p o)=>some (.pp r p (o+off),e)
  | _=>none
 | .iaddr sz x i=>match ev e x,ev e i with
  | some (.rsl n cs),some (.int _ i)=>if 0≤i∧i<(n:Int) then some (.rp (cs.drop (i.toNat*sz)),e) else none
  | some (.ps r p o),some (.int _ i)=>match jv e r p with
   | some row=>match row[o]? with
    | some (.osl _ _ n _)=>if 0≤i∧i<(n:Int) then some (.pp r (p++[o]) (i.toNat*sz),e) else none
    | _=>none
   | none=>none
  | _,_=>none
 | .idx x i=>match ev e x,ev e i with
  | some (.str s),some (.int _ i)=>if 0≤i∧i<(s.length:Int) then some (.int .u8 (s.getD i.toNat 0).toNat,e) else none
  | _,_=>none
 | .len st x=>match ev e x with
  | some v=>match ry e st v with
   | some n=>some (.int .i64 n,e)
   | none=>none
  | none=>none
 | .minmax mx x y=>match ev e x,ev e y with
  | some (.int k a),some (.int k' b)=>if k=k' then some (.int k (if mx then (if b > a then b else a) else (if b<a then b else a)),e) else none
  | _,_=>none
 | .append t sz s x=>match Es e t sz s x with
  | some (v,e2)=>some (v,BQ e2)
  | none=>none
 | .ext j ix=>match e[j]? with
  | some (.tup sh cs)=>match sh[ix]? with
   | some none=>match cs[uV sh ix]? with
    | some c=>some (lz1 j [] (uV sh ix) c,e)
    | none=>none
   | some (some n)=>if uV sh ix+n≤cs.length then some (.agg (lzc j [] (uV sh ix) ((cs.drop (uV sh ix)).take n)),e) else none
   | none=>none
  | _=>none
 | .aidx sz ag n x i=>match ev e x,ev e i with
  | some (.agg cs),some (.int _ i)=>if 0≤i∧i<(n:Int)∧i.toNat*sz+sz≤cs.length then match mkv ag ((cs.drop (i.toNat*sz)).take sz) with
    | some v=>some (v,e)
    | none=>none
   else none
  | _,_=>none
 | .cut sz x hi=>Ut e sz x hi
 | .appk t sz s x=>match Es e t sz s x with
  | some (v,e2)=>some (v,oU e (BQ e2))
  | none=>none
 | .cutk sz x hi=>match Ut e sz x hi with
  | some (v,e2)=>some (v,oU e e2)
  | none=>none
 | .sbeq ne ks x y=>match ev e x,ev e y with
  | some (.agg cs),some (.agg ds)=>match eqC ks cs ds with
   | some b=>some (.bool (if ne then !b else b),e)
   | none=>none
  | _,_=>none
 | .nck x=>match ev e x with
  | some (.rp cs)=>some (.rp cs,e)
  | some (.pp r p o)=>some (.pp r p o,e)
  | _=>none
 | .fld off sz ag x=>match ev e x with
  | some (.agg cs)=>if off+sz≤cs.length then match mkv ag ((cs.drop off).take sz) with
    | some v=>some (v,e)
    | none=>none
   else none
  | _=>none
 | .pnil ne x=>match ev e x with
  | some v=>match pnX v with
   | some b=>some (.bool (if ne then !b else b),e)
   | none=>none
  | none=>none
 | .isnil ne x=>match ev e x with
  | some v=>match MN e v with
   | some b=>some (.bool (if ne then !b else b),e)
   | none=>none
  | none=>none
 | .b2s x=>match ev e x with
  | some (.rsl n cs)=>match bytesOf cs with
   | some l=>if cs.length=n then some (.str l,e) else none
   | none=>none
  | some (.ps r p o)=>match jv e r p with
   | some row=>match row[o]? with
    | some (.osl _ _ n cs)=>match bytesOf cs with
     | some l=>if cs.length=n then some (.str l,e) else none
     | none=>none
    | _=>none
   | none=>none
  | _=>none
mutual
def hr:AV→Bool
 | .ps _ _ _=>true
 | .pp _ _ _=>true
 | .pf _ _ _=>true
 | .pw _ _ _ _ _ _=>true
 | .fn _ cs=>hrs cs
 | .osl _ _ _ cs=>hrs cs
 | .bx _ _ cs=>hrs cs
 | .agg cs=>hrs cs
 | .tup _ cs=>hrs cs
 | _=>false
def hrs:List AV→Bool
 | []=>false
 | c::cs=>hr c||hrs cs
end
mutual
def jd:AV→Bool
 | .osl s _ _ cs=>s==0&&gJ cs
 | .bx s _ cs=>s==0&&gJ cs
 | .agg cs=>gJ cs
 | .tup _ cs=>gJ cs
 | .fn _ cs=>gJ cs
 | .gone s=>s==0
 | _=>true
def gJ:List AV→Bool
 | []=>true
 | c::cs=>jd c&&gJ cs
end
mutual
def upV:AV→AV
 | .osl s e n cs=>.osl (if s=0 then 0 else s+1000) e n (qG cs)
 | .bx s t cs=>.bx (if s=0 then 0 else s+1000) t (qG cs)
 | .agg cs=>.agg (qG cs)
 | .tup sh cs=>.tup sh (qG cs)
 | .fn g cs=>.fn g (qG cs)
 | .gone s=>.gone (if s=0 then 0 else s+1000)
 | v=>v
def qG:List AV→List AV
 | []=>[]
 | c::cs=>upV c::qG cs
end
mutual
def dnV:AV→AV
 | .osl s e n cs=>.osl (s-1000) e n (qR cs)
 | .bx s t cs=>.bx (s-1000) t (qR cs)
 | .agg cs=>.agg (qR cs)
 | .tup sh cs=>.tup sh (qR cs)
 | .fn g cs=>.fn g (qR cs)
 | .gone s=>.gone (s-1000)
 | v=>v
def qR:List AV→List AV
 | []=>[]
 | c::cs=>dnV c::qR cs
end
mutual
def xR:AV→Bool
 | .osl s _ _ cs=>(s==0||decide (1000<s))&&lX cs
 | .bx s _ cs=>(s==0||decide (1000<s))&&lX cs
 | .agg cs=>lX cs
 | .tup _ cs=>lX cs
 | .fn _ cs=>lX cs
 | .gone s=>s==0||decide (1000<s)
 | _=>true
def lX:List AV→Bool
 | []=>true
 | c::cs=>xR c&&lX cs
end
def GR (cs:List AV):List AV:=if gJ cs=true then cs else qG cs
def MP (cs:List AV):List AV:=if gJ cs=true then cs else qR cs
inductive Bk where
 | pl (r:Nat) (p:List Nat) (o:Nat) (s:Nat)
 | cl (r:Nat) (g:Nat) (ss:List Nat)
 | sl (r:Nat) (s:Nat)
def nB:List Bk→Nat
 | []=>0
 | .pl _ _ _ _::bs=>nB bs+1
 | .cl _ _ ss::bs=>nB bs+ss.length
 | .sl _ _::bs=>nB bs+1
def abC (e:Env) (r:Nat):Bool:=match e[r]? with
 | some (.osl _ _ _ _)=>true
 | some (.bx _ _ _)=>true
 | _=>false
def aaY (e:Env) (r:Nat) (p:List Nat) (o s:Nat):Bk:=if p=[]∧o=0∧abC e r=true then .sl r s else .pl r p o s
def jq (e:Env) (s:Nat):AV→Option (AV × Env × List Bk)
 | .ps r p o=>match jv e r p with
  | some row=>match row[o]? with
   | some (.osl s0 t n cs)=>some (.osl s t n (GR cs),dY e r p (row.set o (.gone 0)),[aaY e r p o s0])
   | _=>none
  | none=>none
 | .pp r p o=>if o=0 then match p.getLast? with
   | some k=>match jv e r p.dropLast with
    | some row=>match row[k]? with
     | some (.bx s0 t cs)=>some (.bx s t (GR cs),dY e r p.dropLast (row.set k (.gone 0)),[aaY e r p.dropLast k s0])
     | _=>none
    | none=>none
   | none=>none
  else none
 | .pf _ _ _=>none
 | c=>if gY c=true then some (c,e,[]) else none
def rJ (e:Env) (s:Nat):List AV→Option (List AV × Env × List Bk)
 | []=>some ([],e,[])
 | c::cs=>match jq e s c with
  | some (c',e1,b)=>match rJ e1 (s+nB b) cs with
   | some (cs',e2,b')=>some (c'::cs',e2,b++b')
   | none=>none
  | none=>none
def oQ:Nat→List AV→Option (List AV × List Nat)
 | _,[]=>some ([],[])
 | s,.osl s0 t n cs::r=>match oQ (s+1) r with
   | some (r',ss)=>some (.osl s t n (GR cs)::r',s0::ss)
   | none=>none
 | s,.bx s0 t cs::r=>match oQ (s+1) r with
   | some (r',ss)=>some (.bx s t (GR cs)::r',s0::ss)
   | none=>none
 | _,_=>none
def EH (e:Env) (s r:Nat):Option (Nat × List AV × Env × List Bk):=match e[r]? with
 | some (.fn g caps)=>if hrs caps=true then match rJ e s caps with
   | some (cs',e',b)=>some (g,cs',e',b)
   | none=>none
  else match oQ s caps with
   | some (cs',ss)=>some (g,cs',e.set r (.gone 0),[.cl r g ss])
   | none=>none
 | _=>none
def EG (e:Env) (s:Nat):AV→Option (AV × Env × List Bk)
 | .agg cs=>match rJ e s cs with
  | some (cs',e',b)=>some (.agg cs',e',b)
  | none=>none
 | .pf r p o=>if p=[]∧o=0 then match EH e s r with
   | some (g,cs',e',b)=>some (.fn g cs',e',b)
   | none=>none
  else none
 | v=>jq e s v
def ku (e:Env) (x:Opd):Option (Nat × List AV):=match ev e x with
 | some (.fn g [])=>some (g,[])
 | some (.pf r p o)=>if p=[]∧o=0 then match e[r]? with
   | some (.fn g caps)=>if caps.all gY=true then some (g,caps) else none
   | _=>none
  else none
 | _=>none
def mP (e:Env) (s:Nat) (x:Opd):Option (Nat × List AV × Env × List Bk):=match ku e x with
 | some (g,caps)=>some (g,caps,e,[])
 | none=>match ev e x with
  | some (.pf r p o)=>if p=[]∧o=0 then EH e s r else none
  | _=>none
def qO:Env→Nat→List (Opd × Bool)→Option (Env × List Bk × List (Option AV))
 | e,_,[]=>some (e,[],[])
 | e,s,(_,false)::xs=>match qO e s xs with
  | some (e',b,vs)=>some (e',b,none::vs)
  | none=>none
 | e,s,(x,true)::xs=>match ev e x with
  | some v=>match EG e s v with
   | some (v',e1,b)=>match qO e1 (s+nB b) xs with
    | some (e',b',vs)=>some (e',b++b',some v'::vs)
    | none=>none
   | none=>none
  | none=>none
def CS (s:Nat):AV→AV
 | .osl _ e n cs=>.osl s e n (MP cs)
 | .bx _ t cs=>.bx s t (MP cs)
 | .gone _=>.gone s
 | v=>v
def yC:List Nat→List AV→List AV
 | s::ss,v::vs=>CS s v::yC ss vs
 | _,_=>[]
def Dk:AV→Bool
 | .osl _ _ _ cs=>gJ cs||lX cs
 | .bx _ _ cs=>gJ cs||lX cs
 | .gone _=>true
 | _=>false
def L9 (e:Option Env) (r g:Nat) (ss:List Nat) (vs:List AV):Option Env:=match e with
 | some e1=>match e1[r]? with
  | some (.gone _)=>some (e1.set r (.fn g (yC ss (vs.take ss.length))))
  | _=>none
 | none=>none
def iZ (e:Env):List Bk→List AV→Option Env
 | [],[]=>some e
 | .pl r p o s::bs,v::vs=>match iZ e bs vs with
  | some e1=>match jv e1 r p with
   | some row=>match row[o]? with
    | some (.gone _)=>some (dY e1 r p (row.set o (CS s v)))
    | _=>none
   | none=>none
  | none=>none
 | .sl r s::bs,v::vs=>match iZ e bs vs with
  | some e1=>match e1[r]? with
   | some (.gone _)=>some (e1.set r (CS s v))
   | _=>none
  | none=>none
 | .cl r g ss::bs,vs=>if ss.length≤vs.length then L9 (iZ e bs (vs.drop ss.length)) r g ss vs else none
 | _,_=>none
def tC (e:Env) (bs:List Bk):Bool:=decide (nB bs≤1000)&&bs.all fun b=>match b with
 | .pl r p _ _=>(jv e r p).isSome
 | .cl _ _ _=>true
 | .sl _ _=>true
def num:Nat→List AV→List (Nat × AV)
 | _,[]=>[]
 | s,v::vs=>(s,v)::num (s+1) vs
def uf (n:Nat) (live:Bool) (res:AV) (outs:List AV):Bool:=(outs.length==n)&&outs.all Dk&&(!live||(iP res&&jf outs))
def wW:List Bk→List Nat
 | []=>[]
 | .pl _ _ _ s::bs=>s::wW bs
 | .cl _ _ ss::bs=>ss++wW bs
 | .sl _ s::bs=>s::wW bs
def Ef (ss:List Nat) (s:Nat):Nat:=if s=0 then 0 else if s≤1000 then ss.getD (s-1) 0 else s-1000
mutual
def mpV (ss:List Nat):AV→AV
 | .osl s e n cs=>.osl (Ef ss s) e n (rP ss cs)
 | .bx s t cs=>.bx (Ef ss s) t (rP ss cs)
 | .agg cs=>.agg (rP ss cs)
 | .tup sh cs=>.tup sh (rP ss cs)
 | .fn g cs=>.fn g (rP ss cs)
 | .gone s=>.gone (Ef ss s)
 | v=>v
def rP (ss:List Nat):List AV→List AV
 | []=>[]
 | c::cs=>mpV ss c::rP ss cs
end
def CO (bs:List Bk) (res:AV):AV:=if jd res=true then res else mpV (wW bs) res
def wE (n:Nat) (live:Bool) (res:AV) (outs:List AV):Bool:=(outs.length==n)&&jd res&&outs.all Dk&&(!live||(iP res&&jf outs))
def gZ (e:Env):AV→Option (AV × Bool)
 | .ps r p o=>match jv e r p with
  | some row=>match row[o]? with
   | some (.osl s t n cs)=>match jI (.osl s t n cs) with
    | some v=>some (v,true)
    | none=>none
   | _=>none
  | none=>none
 | .pp r p o=>if p=[] then none else match jv e r p with
  | some row=>match jZ row with
   | some cs=>some (.rp (cs.drop o),true)
   | none=>none
  | none=>none
 | .osl _ _ 0 []=>some (.rsl 0 [],false)
 | c=>if gY c then some (c,false) else none
def iV (e:Env):List AV→Option (List AV × Bool)
 | []=>some ([],false)
 | c::cs=>match gZ e c with
  | some (c',b)=>match iV e cs with
   | some (cs',b')=>some (c'::cs',b||b')
   | none=>none
  | none=>none
def ny (e:Env):AV→Option (AV × Bool)
 | .agg cs=>match iV e cs with
  | some (cs',b)=>some (.agg cs',b)
  | none=>none
 | .pf r p o=>if p=[]∧o=0 then match e[r]? with
   | some (.fn g caps)=>if caps.all oz=true then match iV e caps with
     | some (cs',b)=>some (.fn g cs',b)
     | none=>none
    else none
   | _=>none
  else none
 | v=>gZ e v
def kU (e:Env):List Opd→Option (List AV × Bool)
 | []=>some ([],false)
 | x::xs=>match ev e x with
  | some v=>match ny e v with
   | some (v',b)=>match kU e xs with
    | some (vs,b')=>some (v'::vs,b||b')
    | none=>none
   | none=>none
  | none=>none
def Me:AV→Bool
 | .pp _ _ _=>true
 | _=>false
def pF (e:Env):List (Opd × Bool)→List (Option AV)→Option (List AV × Bool)
 | [],[]=>some ([],false)
 | (_,_)::xs,some v::vs=>match pF e xs vs with
  | some (us,b)=>some (v::us,b)
  | none=>none
 | (x,_)::xs,none::vs=>match ev e x with
  | some v=>match ny e v with
   | some (v',b)=>match pF e xs vs with
    | some (us,b')=>some (v'::us,b||b')
    | none=>none
   | none=>if Me v=true then match pF e xs vs with
     | some (us,b')=>some (.dead::us,b')
     | none=>none
    else none
  | none=>none
 | _,_=>none
def kY (e:Env):Nat→List (Opd × Bool)→List (Nat × Nat × List Nat)
 | _,[]=>[]
 | j,(x,true)::xs=>match ev e x with
  | some (.pp r p 0)=>(j,r,p)::kY e (j+1) xs
  | _=>kY e (j+1) xs
 | j,(_,false)::xs=>kY e (j+1) xs
def yJ:List (Nat × Nat × List Nat)→Nat→List Nat→Nat→AV
 | [],_,_,_=>.dead
 | (j,r',p')::gl,r,p,o=>if r'=r∧p'.isPrefixOf p=true∧p'≠[] then .pp j (0::p.drop p'.length) o else yJ gl r p o
def upg (e:Env) (gl:List (Nat × Nat × List Nat)):List (Opd × Bool)→List AV→List AV
 | (x,_)::xs,.dead::vs=>(match ev e x with
  | some (.pp r p o)=>yJ gl r p o
  | _=>.dead)::upg e gl xs vs
 | _::xs,v::vs=>v::upg e gl xs vs
 | [],vs=>vs
 | _,[]=>[]
inductive SK where
 | op (o:SOp)
 | call (f:Nat) (args:List Opd) (fr:Bool)
 | callv (x:Opd) (args:List Opd)
 | callm (x:Opd) (args:List (Opd × Bool))
 | callr (x:Opd) (args:List (Opd × Bool))
structure dJ where
 k:SK
 dst:Option Nat:=none
 guard:Option (Nat × Bool):=none
inductive Gy where
 | done
 | first (i:Nat) (p:Gy)
 | alt (i:Nat) (p rest:Gy)
 | nil
inductive ae where
 | skip
 | reg (D:List Nat) (ops:List dJ)
 | dreg (D:List Nat) (ops:List dJ) (sees:List (List Nat)) (t:Nat) (cons:List (Nat × Nat)) (info:List (List Bool × Option (List Nat))) (fin:List Bool)
 | dregm (j k:Nat) (D:List Nat) (ops:List dJ) (sees:List (List Nat)) (t:Nat) (cons:List (Nat × Nat)) (info:List (List Bool × Option (List Nat))) (fin:List Bool)
 | preg (D:List Nat) (ops:List dJ) (pl:Gy)
 | bad
 | seq (a b:ae)
 | cond (x:Opd) (a b:ae)
 | condk (x:Opd) (a b:ae)
 | frz (j:Nat) (b:ae)
 | stp (r:Nat) (p:List Nat) (k s:Nat) (b:ae)
 | lnk (j r:Nat) (p:List Nat) (k:Nat) (b:ae)
 | alt (a b:ae)
 | block (id:Nat) (b:ae)
 | loop (b:ae)
 | exit (id:Nat)
 | ret
mutual
def DF (q:Nat→Bool):AV→Bool
 | .osl s _ _ cs=>(s==0||q s)&&(gJ cs||qW q cs)
 | .bx s _ cs=>(s==0||q s)&&(gJ cs||qW q cs)
 | .agg cs=>gJ cs||qW q cs
 | .tup _ cs=>gJ cs||qW q cs
 | .fn _ cs=>gJ cs||qW q cs
 | .gone s=>s==0||q s
 | _=>true
def qW (q:Nat→Bool):List AV→Bool
 | []=>true
 | c::cs=>DF q c&&qW q cs
end
def TQ (s x:Nat):Bool:=decide (x≠s)
def Ei (x:Nat):Bool:=decide (x<1000000)
def stE (e:Env) (r:Nat) (p:List Nat) (k s:Nat):Option Env:=match jv e r p with
 | some row=>match row[k]? with
  | some (.osl _ t n cs)=>some (dY e r p (row.set k (.osl s t n cs)))
  | some (.bx _ t cs)=>some (dY e r p (row.set k (.bx s t cs)))
  | _=>none
 | none=>none
def stX (e:Env) (r:Nat) (p:List Nat) (k s:Nat):Option Env:=if s=0∨(1000000≤s∧qW (TQ s) e=true) then stE e r p k s else none
def lnX (e:Env) (j r:Nat) (p:List Nat) (k:Nat):Option Env:=match e[j]? with
 | some (.gone s)=>match jv e r p with
  | some row=>match row[k]? with
   | some (.bx s' _ _)=>if s≠0∧s'=s then some (e.set j (.pp r (p++[k]) 0)) else none
   | _=>none
  | none=>none
 | _=>none
def gst:ae→Bool
 | .stp _ _ _ _ _=>true
 | .lnk _ _ _ _ b=>gst b
 | .frz _ b=>gst b
 | .alt a b=>gst a||gst b
 | .seq a b=>gst a||gst b
 | .cond _ a b=>gst a||gst b
 | .condk _ a b=>gst a||gst b
 | .block _ b=>gst b
 | .loop b=>gst b
 | _=>false
def at7 (m j:Nat):AV→Bool
 | .pp r _ _=>decide (r<m)&&decide (r≠j)
 | .ps r _ _=>decide (r<m)&&decide (r≠j)
 | _=>false
def Ro (m j:Nat) (v:AV):Bool:=!iQ v||at7 m j v
def aua (m:Nat):AV→Bool
 | .pp r _ _=>decide (r<m)
 | .ps r _ _=>decide (r<m)
 | _=>false
def MO (m:Nat) (v:AV):Bool:=!iQ v||aua m v
def lu (m k:Nat) (dst:Option Nat) (v:AV) (e:Env):Option Env :=
 match dst with
 | none=>some (e.set (m+k) v)
 | some j=>if j<m∧Ro m j v=true then some ((vw j e).set j v) else none
end Go.AM
namespace Go.AM
open Go
abbrev Cnt:=Nat→Nat
abbrev unk:Value:=.nilIface
def shp:Value→Option Nat
 | .agg a=>some a.size
 | _=>none
def oq (vs:List Value):List Value:=vs.flatMap fun v=>v.cells.toList
def gB:Value→List Value
 | .agg a=>a.toList
 | .tuple a=>oq a.toList
 | v=>[v]
def hblk:Value→Option Nat
 | .slice (some ⟨b,0,none⟩) _ _=>some b
 | .pointer (some ⟨b,0,none⟩)=>some b
 | _=>none
def jQ (w:World) (b:Nat):Option (List Value) :=
 match w.heap[b]? with
 | some (.cells arr _ _)=>some arr.toList
 | _=>none
def walk (w:World):Option Nat→List Value→List Nat→Option (Option Nat × List Value)
 | b,vs,[]=>some (b,vs)
 | _,vs,o::p=>match vs[o]? with
  | none=>none
  | some v=>match hblk v with
   | none=>none
   | some b=>match jQ w b with
    | none=>none
    | some row=>walk w (some b) row p
def rowOf (ρ:List Value) (r:Nat):List Value :=
 match ρ[r]? with
 | some v=>gB v
 | none=>[]
def jF (v:Value) (b:Nat):Nat:=if v.ownBlock=some b then 1 else 0
mutual
def VR (P:Program) (w:World) (Φ:Nat→Prop) (σ:Nat→Value) (ρ:List Value):AV→Value→Cnt→Prop
 | .dead,_,f=>∀ b,f b=0
 | .gone s,v,f=>(s≠0→σ s=v)∧∀ b,f b=0
 | .int k n,v,f=>v=.int k n∧∀ b,f b=0
 | .bool t,v,f=>v=.bool t∧∀ b,f b=0
 | .str s,v,f=>v=.string ⟨s.toArray⟩∧∀ b,f b=0
 | .fn g cs,v,f=>∃ vs:Array Value,v=.func (.func g) #[] vs∧(∀ c∈cs,eU c=true∨hr c=false)∧CR P w Φ σ ρ cs vs.toList f
 | .nilf,v,f=>v=.nilFunc∧∀ b,f b=0
 | .nilp,v,f=>v=.pointer none∧∀ b,f b=0
 | .nsl t,v,f=>(∃ a c,v=.slice a 0 c∧a.isNone=t∧(a=none→c=0))∧∀ b,f b=0
 | .rsl n cs,v,f=>(∃ a c,v=.slice a n c∧n≤c∧(a=none→n=0∧c=0)∧FC P w Φ σ ρ cs a 0)∧∀ b,f b=0
 | .rp cs,v,f=>(∃ a,v=.pointer (some a)∧FC P w Φ σ ρ cs (some a) 0)∧∀ b,f b=0
 | .osl s e n cs,v,f=>(s≠0→σ s=v)∧hrs cs=false∧∃ xs f1,w.ownsRow 0 e (P.cellsOf e) v n xs∧CR P w Φ σ ρ cs xs f1∧∀ b,f b=jF v b+f1 b
 | .bx s t cs,v,f=>(s≠0→σ s=v)∧hrs cs=false∧∃ b0 arr f1,v=.pointer (some ⟨b0,0,none⟩)∧w.heap[b0]?=some (.cells arr t (0,0))∧CR P w Φ σ ρ cs arr.toList f1 ∧
   ∀ b,f b=(if b=b0 then 1 else 0)+f1 b
 | .agg cs,v,f=>∃ arr:Array Value,v=.agg arr∧CR P w Φ σ ρ cs arr.toList f
 | .tup sh cs,v,f=>∃ arr:Array Value,v=.tuple arr∧arr.toList.map shp=sh∧CR P w Φ σ ρ cs (oq arr.toList) f
 | .ps r p o,v,f=>(∃ bo row a n c,walk w none (rowOf ρ r) p=some (bo,row)∧row[o]?=some v∧v=.slice a n c)∧∀ b,f b=0
 | .pp r p o,v,f=>(∃ b0 row,walk w none (rowOf ρ r) p=some (some b0,row)∧v=.pointer (some ⟨b0,o,none⟩))∧∀ b,f b=0
 | .pf r p o,v,f=>(∃ bo row g fs cs,walk w none (rowOf ρ r) p=some (bo,row)∧row[o]?=some v∧v=.func g fs cs)∧∀ b,f b=0
 | .pw r p o lo m sz,v,f=>(∃ bo row a n c,walk w none (rowOf ρ r) p=some (bo,row)∧row[o]?=some (.slice a n c)∧lo+m≤n∧v=.slice (if c=lo then a else a.map (·.add (lo*sz))) m (c-lo))∧∀ b,f b=0
def CR (P:Program) (w:World) (Φ:Nat→Prop) (σ:Nat→Value) (ρ:List Value):List AV→List Value→Cnt→Prop
 | [],vs,f=>vs=[]∧∀ b,f b=0
 | c::cs,vs,f=>∃ v vs' f1 f2,vs=v::vs'∧VR P w Φ σ ρ c v f1∧CR P w Φ σ ρ cs vs' f2∧∀ b,f b=f1 b+f2 b
def FC (P:Program) (w:World) (Φ:Nat→Prop) (σ:Nat→Value) (ρ:List Value):List AV→Option Addr→Nat→Prop
 | [],_,_=>True
 | c::cs,a,j=>(∃ ad u,a=some ad∧Φ ad.block∧w.cell? (ad.add j)=some u∧gY c=true∧∀ f,(∀ b,f b=0)→VR P w Φ σ ρ c u f)∧FC P w Φ σ ρ cs a (j+1)
end
section
variable {P : Program} {w : World} {Φ : Nat → Prop} {σ : Nat → Value} {ρ : List Value}
theorem dm:∀ {cs:List AV} {vs:List Value} {f:Cnt},CR P w Φ σ ρ cs vs f→cs.length=vs.length
 | [],vs,f,h=>by simp only[CR] at h;simp[h.1]
 | c::cs,vs,f,h=>by
  simp only[CR] at h
  obtain⟨v,vs',f1,f2,rfl,h1,h2,_⟩:=h
  simp[dm h2]
theorem aGL {f g:Cnt} (hfg:∀ b,f b=g b):f=g:=funext hfg
theorem VR_pw {r:Nat} {p:List Nat} {o lo m sz:Nat} {v:Value} {f:Cnt}:VR P w Φ σ ρ (.pw r p o lo m sz) v f↔∃ a n c,VR P w Φ σ ρ (.ps r p o) (.slice a n c) f∧lo+m≤n∧v=.slice (if c=lo then a else a.map (·.add (lo*sz))) m (c-lo):=by
 simp only[VR]
 constructor
 ·rintro⟨⟨bo,row,a,n,c,h1,h2,h3,h4⟩,hz⟩
  exact⟨a,n,c,⟨⟨bo,row,a,n,c,h1,h2,rfl⟩,hz⟩,h3,h4⟩
 ·rintro⟨a,n,c,⟨⟨bo,row,_,_,_,h1,h2,_⟩,hz⟩,h3,h4⟩
  exact⟨⟨bo,row,a,n,c,h1,h2,h3,h4⟩,hz⟩
theorem CR_nil:CR P w Φ σ ρ [] [] (fun _=>0):=by simp[CR]
theorem CR_cons {c:AV} {cs:List AV} {v:Value} {vs:List Value} {f1 f2:Cnt} (h1:VR P w Φ σ ρ c v f1) (h2:CR P w Φ σ ρ cs vs f2) :
  CR P w Φ σ ρ (c::cs) (v::vs) (fun b=>f1 b+f2 b):=by
 simp only[CR];exact⟨v,vs,f1,f2,rfl,h1,h2,fun _=>rfl⟩
theorem dO:∀ {cs:List AV} {vs:List Value} {f:Cnt} (i:Nat) {c:AV},CR P w Φ σ ρ cs vs f→cs[i]?=some c →
  ∃ (v:Value) (f1 f2:Cnt),vs[i]?=some v∧VR P w Φ σ ρ c v f1∧(∀ b,f b=f1 b+f2 b) ∧
   ∀ c' v' f',VR P w Φ σ ρ c' v' f'→CR P w Φ σ ρ (cs.set i c') (vs.set i v') (fun b=>f' b+f2 b)
 | [],_,_,i,_,_,hi=>by simp at hi
 | c0::cs,vs,f,0,c,h,hi=>by
  simp only[CR] at h
  obtain⟨v,vs',f1,f2,rfl,h1,h2,hf⟩:=h
  simp at hi;subst hi
  refine⟨v,f1,f2,rfl,h1,hf,fun c' v' f' h'=>?_⟩
  simp only[List.set_cons_zero]
  exact CR_cons h' h2
 | c0::cs,vs,f,i+1,c,h,hi=>by
  simp only[CR] at h
  obtain⟨v0,vs',f1,f2,rfl,h1,h2,hf⟩:=h
  simp at hi
  obtain⟨v,g1,g2,hv,hc,hg,hset⟩:=dO i h2 hi
  refine⟨v,g1,fun b=>f1 b+g2 b,by simpa using hv,hc,fun b=>by show f b=g1 b+(f1 b+g2 b);have:=hf b;have:=hg b;omega,fun c' v' f' h'=>?_⟩
  simp only[List.set_cons_succ]
  have:=CR_cons h1 (hset c' v' f' h')
  have e:(fun b=>f1 b+(f' b+g2 b))=(fun b=>f' b+(f1 b+g2 b)):=funext fun b=>by omega
  rw[e] at this;exact this
theorem iJ:∀ {cs ds:List AV} {vs us:List Value} {f g:Cnt},CR P w Φ σ ρ cs vs f→CR P w Φ σ ρ ds us g →
  CR P w Φ σ ρ (cs++ds) (vs++us) (fun b=>f b+g b)
 | [],ds,vs,us,f,g,h,h'=>by
  simp only[CR] at h
  obtain⟨rfl,hf⟩:=h
  have e:(fun b=>f b+g b)=g:=funext fun b=>by simp[hf b]
  simpa [e] using h'
 | c::cs,ds,vs,us,f,g,h,h'=>by
  simp only[CR] at h
  obtain⟨v,vs',f1,f2,rfl,h1,h2,hf⟩:=h
  have:=CR_cons h1 (iJ h2 h')
  have e:(fun b=>f1 b+(f2 b+g b))=(fun b=>f b+g b):=funext fun b=>by have:=hf b;omega
  rw[e] at this;simpa using this
theorem GI:∀ {cs ds:List AV} {vs:List Value} {f:Cnt},CR P w Φ σ ρ (cs++ds) vs f →
  ∃ f1 f2,CR P w Φ σ ρ cs (vs.take cs.length) f1∧CR P w Φ σ ρ ds (vs.drop cs.length) f2∧∀ b,f b=f1 b+f2 b
 | [],ds,vs,f,h=>⟨fun _=>0,f,by simp[CR],by simpa using h,fun b=>by simp⟩
 | c::cs,ds,vs,f,h=>by
  simp only[List.cons_append,CR] at h
  obtain⟨v,vs',f1,f2,rfl,h1,h2,hf⟩:=h
  obtain⟨g1,g2,k1,k2,hg⟩:=GI h2
  refine⟨fun b=>f1 b+g1 b,g2,?_,by simpa using k2,fun b=>by show f b=f1 b+g1 b+g2 b;have:=hf b;have:=hg b;omega⟩
  simpa using CR_cons h1 k1
theorem dM {cs:List AV} {vs:List Value} {f:Cnt} (n:Nat) (h:CR P w Φ σ ρ cs vs f) :
  ∃ f1 f2,CR P w Φ σ ρ (cs.take n) (vs.take n) f1∧CR P w Φ σ ρ (cs.drop n) (vs.drop n) f2∧∀ b,f b=f1 b+f2 b:=by
 have hl:=dm h
 rw[←List.take_append_drop n cs] at h
 obtain⟨f1,f2,h1,h2,hf⟩:=GI h
 simp only[List.length_take] at h1 h2
 rcases Nat.le_total n cs.length with hn|hn
 ·rw[Nat.min_eq_left hn] at h1 h2;exact⟨f1,f2,h1,h2,hf⟩
 ·rw[Nat.min_eq_right hn,hl] at h1 h2
  rw[List.take_of_length_le (Nat.le_refl _)] at h1
  rw[List.drop_of_length_le (Nat.le_refl _)] at h2
  refine⟨f1,f2,?_,?_,hf⟩
  ·rw[List.take_of_length_le hn] at h1 ⊢;rw[List.take_of_length_le (by omega)];exact h1
  ·rw[List.drop_of_length_le (by omega:vs.length≤n)];exact h2
theorem uM (w':World) (Φ':Nat→Prop) (ρ':List Value) (hΦ:∀ b,Φ b→w'.heap[b]?=w.heap[b]?) (hsub:∀ b,Φ b→Φ' b) :
  (∀ (v:AV) (cv:Value) (f:Cnt),hr v=false→(∀ b,1≤f b→w'.heap[b]?=w.heap[b]?)→VR P w Φ σ ρ v cv f→VR P w' Φ' σ ρ' v cv f):=by
 intro v
 induction v using AV.rec (motive_2:=fun cs=>(∀ (vs:List Value) (f:Cnt),hrs cs=false→(∀ b,1≤f b→w'.heap[b]?=w.heap[b]?)→CR P w Φ σ ρ cs vs f→CR P w' Φ' σ ρ' cs vs f) ∧
   (∀ a j,FC P w Φ σ ρ cs a j→FC P w' Φ' σ ρ' cs a j)) with
 | dead=>intro cv f _ _ h;simpa only[VR] using h
 | gone s=>intro cv f _ _ h;simpa only[VR] using h
 | int k n=>intro cv f _ _ h;simpa only[VR] using h
 | bool t=>intro cv f _ _ h;simpa only[VR] using h
 | str s=>intro cv f _ _ h;simpa only[VR] using h
 | nilf=>intro cv f _ _ h;simpa only[VR] using h
 | nilp=>intro cv f _ _ h;simpa only[VR] using h
 | nsl t=>intro cv f _ _ h;simpa only[VR] using h
 | fn g cs ih =>
  intro cv f hh hf h
  simp only[VR] at h ⊢
  obtain⟨vs,e,hq,h⟩:=h
  exact⟨vs,e,hq,ih.1 _ _ (by simpa [hr] using hh) hf h⟩
 | rsl n cs ih =>
  intro cv f hh hf h
  simp only[VR] at h ⊢
  obtain⟨⟨a,c,e,hn,h0,h⟩,hz⟩:=h
  exact⟨⟨a,c,e,hn,h0,ih.2 _ _ h⟩,hz⟩
 | rp cs ih =>
  intro cv f hh hf h
  simp only[VR] at h ⊢
  obtain⟨⟨a,e,h⟩,hz⟩:=h
  exact⟨⟨a,e,ih.2 _ _ h⟩,hz⟩
 | osl s t n cs ih =>
  intro cv f hh hf h
  simp only[VR] at h ⊢
  obtain⟨hst,hx,xs,f1,ho,h,hb⟩:=h
  refine⟨hst,hx,xs,f1,?_,ih.1 _ _ hx (fun b hb1=>hf b (by have:=hb b;omega)) h,hb⟩
  refine⟨ho.1,?_⟩
  rcases ho.2 with hn|⟨g,cap,cur,e,h0,hg,rest⟩
  ·exact .inl hn
  ·refine .inr ⟨g,cap,cur,e,h0,?_,rest⟩
   rw[hf g (by have:=hb g;subst e;simp[jF,Value.ownBlock] at this;omega)]
   exact hg
 | bx s t cs ih =>
  intro cv f hh hf h
  simp only[VR] at h ⊢
  obtain⟨hst,hx,b0,arr,f1,e,hg,h,hb⟩:=h
  refine⟨hst,hx,b0,arr,f1,e,?_,ih.1 _ _ hx (fun b hb1=>hf b (by have:=hb b;omega)) h,hb⟩
  rw[hf b0 (by have:=hb b0;simp at this;omega)]
  exact hg
 | agg cs ih =>
  intro cv f hh hf h
  simp only[VR] at h ⊢
  obtain⟨arr,e,h⟩:=h
  exact⟨arr,e,ih.1 _ _ (by simpa [hr] using hh) hf h⟩
 | tup sh cs ih =>
  intro cv f hh hf h
  simp only[VR] at h ⊢
  obtain⟨arr,e,hs,h⟩:=h
  exact⟨arr,e,hs,ih.1 _ _ (by simpa [hr] using hh) hf h⟩
 | ps r p o=>intro cv f hh;simp[hr] at hh
 | pp r p o=>intro cv f hh;simp[hr] at hh
 | pf r p o=>intro cv f hh;simp[hr] at hh
 | pw r p o lo m sz=>intro cv f hh;simp[hr] at hh
 | nil =>
  refine⟨fun vs f _ _ h=>by simpa only[CR] using h,fun a j _=>by simp only[FC]⟩
 | cons c cs ihc ihs =>
  refine⟨fun vs f hh hf h=>?_,fun a j h=>?_⟩
  ·simp only[hrs,Bool.or_eq_false_iff] at hh
   simp only[CR] at h ⊢
   obtain⟨v,vs',f1,f2,e,h1,h2,hb⟩:=h
   exact⟨v,vs',f1,f2,e,ihc _ _ hh.1 (fun b hb1=>hf b (by have:=hb b;omega)) h1,ihs.1 _ _ hh.2 (fun b hb1=>hf b (by have:=hb b;omega)) h2,hb⟩
  ·simp only[FC] at h ⊢
   obtain⟨⟨ad,u,e,hp,hc,hz,hv⟩,h⟩:=h
   refine⟨⟨ad,u,e,hsub _ hp,?_,hz,fun f hf=>?_⟩,ihs.2 _ _ h⟩
   ·rw[World.cell?_of_block (w:=w)];exact hc
    have:(ad.add j).block=ad.block:=by unfold Addr.add;split<;>rfl
    rw[this];exact hΦ _ hp
   ·refine ihc _ _ ?_ (fun b hb=>by have:=hf b;omega) (hv f hf)
    revert hz;cases c<;>simp[gY,hr]
    rename_i g cs;cases cs<;>simp[hrs]
theorem BP (w':World) (Φ':Nat→Prop) (ρ':List Value) (hΦ:∀ b,Φ b→w'.heap[b]?=w.heap[b]?) (hsub:∀ b,Φ b→Φ' b)
  (hps:∀ r p o cv f,VR P w Φ σ ρ (.ps r p o) cv f→VR P w' Φ' σ ρ' (.ps r p o) cv f)
  (hpp:∀ r p o cv f,VR P w Φ σ ρ (.pp r p o) cv f→VR P w' Φ' σ ρ' (.pp r p o) cv f)
  (hpf:∀ r p o cv f,VR P w Φ σ ρ (.pf r p o) cv f→VR P w' Φ' σ ρ' (.pf r p o) cv f) :
  (∀ (v:AV) (cv:Value) (f:Cnt),(∀ b,1≤f b→w'.heap[b]?=w.heap[b]?)→VR P w Φ σ ρ v cv f→VR P w' Φ' σ ρ' v cv f):=by
 intro v
 induction v using AV.rec (motive_2:=fun cs=>(∀ (vs:List Value) (f:Cnt),(∀ b,1≤f b→w'.heap[b]?=w.heap[b]?)→CR P w Φ σ ρ cs vs f→CR P w' Φ' σ ρ' cs vs f) ∧
   (∀ a j,FC P w Φ σ ρ cs a j→FC P w' Φ' σ ρ' cs a j)) with
 | dead=>intro cv f _ h;simpa only[VR] using h
 | gone s=>intro cv f _ h;simpa only[VR] using h
 | int k n=>intro cv f _ h;simpa only[VR] using h
 | bool t=>intro cv f _ h;simpa only[VR] using h
 | str s=>intro cv f _ h;simpa only[VR] using h
 | nilf=>intro cv f _ h;simpa only[VR] using h
 | nilp=>intro cv f _ h;simpa only[VR] using h
 | nsl t=>intro cv f _ h;simpa only[VR] using h
 | fn g cs ih =>
  intro cv f hf h
  simp only[VR] at h ⊢
  obtain⟨vs,e,hq,h⟩:=h
  exact⟨vs,e,hq,ih.1 _ _ hf h⟩
 | rsl n cs ih =>
  intro cv f hf h
  simp only[VR] at h ⊢
  obtain⟨⟨a,c,e,hn,h0,h⟩,hz⟩:=h
  exact⟨⟨a,c,e,hn,h0,ih.2 _ _ h⟩,hz⟩
 | rp cs ih =>
  intro cv f hf h
  simp only[VR] at h ⊢
  obtain⟨⟨a,e,h⟩,hz⟩:=h
  exact⟨⟨a,e,ih.2 _ _ h⟩,hz⟩
 | osl s t n cs ih =>
  intro cv f hf h
  simp only[VR] at h ⊢
  obtain⟨hst,hx,xs,f1,ho,h,hb⟩:=h
  refine⟨hst,hx,xs,f1,?_,ih.1 _ _ (fun b hb1=>hf b (by have:=hb b;omega)) h,hb⟩
  refine⟨ho.1,?_⟩
  rcases ho.2 with hn|⟨g,cap,cur,e,h0,hg,rest⟩
  ·exact .inl hn
  ·refine .inr ⟨g,cap,cur,e,h0,?_,rest⟩
   rw[hf g (by have:=hb g;subst e;simp[jF,Value.ownBlock] at this;omega)]
   exact hg
 | bx s t cs ih =>
  intro cv f hf h
  simp only[VR] at h ⊢
  obtain⟨hst,hx,b0,arr,f1,e,hg,h,hb⟩:=h
  refine⟨hst,hx,b0,arr,f1,e,?_,ih.1 _ _ (fun b hb1=>hf b (by have:=hb b;omega)) h,hb⟩
  rw[hf b0 (by have:=hb b0;simp at this;omega)]
  exact hg
 | agg cs ih =>
  intro cv f hf h
  simp only[VR] at h ⊢
  obtain⟨arr,e,h⟩:=h
  exact⟨arr,e,ih.1 _ _ hf h⟩
 | tup sh cs ih =>
  intro cv f hf h
  simp only[VR] at h ⊢
  obtain⟨arr,e,hs,h⟩:=h
  exact⟨arr,e,hs,ih.1 _ _ hf h⟩
 | ps r p o=>intro cv f _ h;exact hps _ _ _ _ _ h
 | pp r p o=>intro cv f _ h;exact hpp _ _ _ _ _ h
 | pf r p o=>intro cv f _ h;exact hpf _ _ _ _ _ h
 | pw r p o lo m sz=>intro cv f _ h;obtain⟨a,n,c,h1,h2,h3⟩:=VR_pw.1 h;exact VR_pw.2 ⟨a,n,c,hps _ _ _ _ _ h1,h2,h3⟩
 | nil =>
  refine⟨fun vs f _ h=>by simpa only[CR] using h,fun a j _=>by simp only[FC]⟩
 | cons c cs ihc ihs =>
  refine⟨fun vs f hf h=>?_,fun a j h=>?_⟩
  ·simp only[CR] at h ⊢
   obtain⟨v,vs',f1,f2,e,h1,h2,hb⟩:=h
   exact⟨v,vs',f1,f2,e,ihc _ _ (fun b hb1=>hf b (by have:=hb b;omega)) h1,ihs.1 _ _ (fun b hb1=>hf b (by have:=hb b;omega)) h2,hb⟩
  ·simp only[FC] at h ⊢
   obtain⟨⟨ad,u,e,hp,hc,hz,hv⟩,h⟩:=h
   refine⟨⟨ad,u,e,hsub _ hp,?_,hz,fun f hf=>?_⟩,ihs.2 _ _ h⟩
   ·rw[World.cell?_of_block (w:=w)];exact hc
    have:(ad.add j).block=ad.block:=by unfold Addr.add;split<;>rfl
    rw[this];exact hΦ _ hp
   ·exact ihc _ _ (fun b hb=>by have:=hf b;omega) (hv f hf)
end
end Go.AM
set_option linter.unusedSimpArgs false
namespace Go.AM
open Go
section
variable {P : Program} {w : World} {Φ : Nat → Prop} {σ : Nat → Value} {ρ : List Value}
theorem xy (Φ':Nat→Prop):∀ (v:AV) (cv:Value) (f:Cnt),iP v=true→VR P w Φ σ ρ v cv f→VR P w Φ' σ ρ v cv f:=by
 intro v
 induction v using AV.rec (motive_2:=fun cs=>∀ (vs:List Value) (f:Cnt),jf cs=true→CR P w Φ σ ρ cs vs f→CR P w Φ' σ ρ cs vs f) with
 | dead=>intro cv f _ h;simpa only[VR] using h
 | gone s=>intro cv f _ h;simpa only[VR] using h
 | int k n=>intro cv f _ h;simpa only[VR] using h
 | bool t=>intro cv f _ h;simpa only[VR] using h
 | str s=>intro cv f _ h;simpa only[VR] using h
 | nilf=>intro cv f _ h;simpa only[VR] using h
 | nilp=>intro cv f _ h;simpa only[VR] using h
 | nsl t=>intro cv f _ h;simpa only[VR] using h
 | fn g cs ih =>
  intro cv f hh h
  simp only[VR] at h ⊢
  obtain⟨vs,e,hq,h⟩:=h
  exact⟨vs,e,hq,ih _ _ (by simpa [iP] using hh) h⟩
 | rsl n cs ih =>
  intro cv f hh h
  cases cs with
  | cons c cs=>simp[iP] at hh
  | nil =>
   simp only[VR] at h ⊢
   obtain⟨⟨a,c,e,h1,h2,_⟩,hz⟩:=h
   exact⟨⟨a,c,e,h1,h2,by simp only[FC]⟩,hz⟩
 | rp cs ih=>intro cv f hh;simp[iP] at hh
 | osl s t n cs ih =>
  intro cv f hh h
  simp only[VR] at h ⊢
  obtain⟨hst,hx,xs,f1,ho,h,hb⟩:=h
  exact⟨hst,hx,xs,f1,ho,ih _ _ (by simpa [iP] using hh) h,hb⟩
 | bx s t cs ih =>
  intro cv f hh h
  simp only[VR] at h ⊢
  obtain⟨hst,hx,b0,arr,f1,e,hg,h,hb⟩:=h
  exact⟨hst,hx,b0,arr,f1,e,hg,ih _ _ (by simpa [iP] using hh) h,hb⟩
 | agg cs ih =>
  intro cv f hh h
  simp only[VR] at h ⊢
  obtain⟨arr,e,h⟩:=h
  exact⟨arr,e,ih _ _ (by simpa [iP] using hh) h⟩
 | tup sh cs ih =>
  intro cv f hh h
  simp only[VR] at h ⊢
  obtain⟨arr,e,hs,h⟩:=h
  exact⟨arr,e,hs,ih _ _ (by simpa [iP] using hh) h⟩
 | ps r p o=>intro cv f hh h;simpa only[VR] using h
 | pp r p o=>intro cv f hh h;simpa only[VR] using h
 | pf r p o=>intro cv f hh h;simpa only[VR] using h
 | pw r p o lo m sz=>intro cv f hh h;simpa only[VR] using h
 | nil=>rename_i vs f _ h;simpa only[CR] using h
 | cons c cs ihc ihs =>
  rename_i vs f hh h
  simp only[jf,Bool.and_eq_true] at hh
  simp only[CR] at h ⊢
  obtain⟨v,vs',f1,f2,e,h1,h2,hb⟩:=h
  exact⟨v,vs',f1,f2,e,ihc _ _ hh.1 h1,ihs _ _ hh.2 h2,hb⟩
theorem jY {c:AV} (h:gY c=true):hr c=false:=by
 revert h;cases c<;>simp[gY,hr]
 rename_i g cs;cases cs<;>simp[hrs]
theorem add_block (a:Addr) (j:Nat):(a.add j).block=a.block:=by unfold Addr.add;split<;>rfl
theorem add_add (a:Addr) (i j:Nat):(a.add i).add j=a.add (i+j):=by
 unfold Addr.add
 by_cases hi:i=0<;>by_cases hj:j=0<;>simp[hi,hj]<;>omega
theorem add_lit (b o j:Nat):(⟨b,o,none⟩:Addr).add j=⟨b,o+j,none⟩:=by
 unfold Addr.add;split<;>simp_all
theorem IX:∀ {cs:List AV} {a:Option Addr} {j:Nat} (i:Nat) {c:AV},FC P w Φ σ ρ cs a j→cs[i]?=some c →
  ∃ ad u,a=some ad∧Φ ad.block∧w.cell? (ad.add (j+i))=some u∧gY c=true∧∀ f,(∀ b,f b=0)→VR P w Φ σ ρ c u f
 | [],_,_,i,_,_,h=>by simp at h
 | c0::cs,a,j,0,c,h,hi=>by
  simp only[FC] at h;simp at hi;subst hi
  exact h.1
 | c0::cs,a,j,i+1,c,h,hi=>by
  simp only[FC] at h;simp at hi
  have:=IX i h.2 hi
  rwa [show j+1+i=j+(i+1) by omega] at this
theorem ES:∀ (cs:List AV) (a:Option Addr) (j:Nat),(∀ i c,cs[i]?=some c →
  ∃ ad u,a=some ad∧Φ ad.block∧w.cell? (ad.add (j+i))=some u∧gY c=true∧∀ f,(∀ b,f b=0)→VR P w Φ σ ρ c u f)→FC P w Φ σ ρ cs a j
 | [],_,_,_=>by simp only[FC]
 | c0::cs,a,j,h=>by
  simp only[FC]
  refine⟨h 0 c0 rfl,ES cs a (j+1) fun i c hi=>?_⟩
  rw[show j+1+i=j+(i+1) by omega]
  exact h (i+1) c (by simpa using hi)
theorem AC {cs:List AV} {ad:Addr} {j:Nat} (n:Nat) (h:FC P w Φ σ ρ cs (some ad) j):FC P w Φ σ ρ (cs.drop n) (some (ad.add (j+n))) 0 :=
 ES _ _ _ fun i c hi=>by
  rw[List.getElem?_drop] at hi
  obtain⟨ad',u,e,hp,hc,hz,hv⟩:=IX (n+i) h hi
  obtain rfl:=Option.some.inj e
  exact⟨_,u,rfl,by rw[add_block];exact hp,by rw[Nat.zero_add,add_add,Nat.add_assoc];exact hc,hz,hv⟩
theorem JQ {cs:List AV} {a:Option Addr} {j:Nat} (n:Nat) (h:FC P w Φ σ ρ cs a j):FC P w Φ σ ρ (cs.take n) a j :=
 ES _ _ _ fun i c hi=>by
  rw[List.getElem?_take] at hi
  split at hi
  ·exact IX i h hi
  ·cases hi
theorem GH {cs:List AV} {ad:Addr} {j:Nat} (h:FC P w Φ σ ρ cs (some ad) j) :
  ∃ us,CR P w Φ σ ρ cs us (fun _=>0)∧∀ i u,us[i]?=some u→w.cell? (ad.add (j+i))=some u:=by
 induction cs generalizing j with
 | nil=>exact⟨[],CR_nil,fun i u h=>by simp at h⟩
 | cons c cs ih =>
  simp only[FC] at h
  obtain⟨⟨ad',u,e,hp,hc,hz,hv⟩,h⟩:=h
  obtain rfl:=Option.some.inj e
  obtain⟨us,h1,h2⟩:=ih h
  refine⟨u::us,?_,fun i x hi=>?_⟩
  ·have:=CR_cons (hv (fun _=>0) (fun _=>rfl)) h1
   simpa using this
  ·cases i with
   | zero=>simp at hi;subst hi;exact hc
   | succ i=>simp at hi;have:=h2 i x hi;rwa [show j+1+i=j+(i+1) by omega] at this
theorem dF {w:World} {b0 e s n:Nat} {v:Value} {xs:List Value} (h:w.ownsRow b0 e s v n xs) :
  ∃ a c,v=.slice a n c∧n≤c∧(a=none→n=0∧c=0)∧(∀ j u,xs[j]?=some u→∃ ad,a=some ad∧jF v ad.block=1∧w.cell? (ad.add j)=some u):=by
 rcases h.2 with ⟨rfl,rfl⟩|⟨g,cap,cur,rfl,h0,hg,hn,hm,hs,ht⟩
 ·refine⟨none,0,rfl,Nat.le_refl _,fun _=>⟨rfl,rfl⟩,fun j u hj=>?_⟩
  have:xs=[]:=List.eq_nil_of_length_eq_zero (by simpa using h.1)
  subst this;simp at hj
 ·refine⟨some ⟨g,0,none⟩,cap,rfl,hn,fun h=>by simp at h,fun j u hj=>⟨_,rfl,by simp[jF,Value.ownBlock],?_⟩⟩
  exact h.cells (g:=g) rfl j u hj
theorem uA (Φ':Nat→Prop) (hsub:∀ b,Φ b→Φ' b) :
  ∀ (v:AV) (v':AV) (cv:Value) (f:Cnt),jI v=some v'→(∀ b,1≤f b→Φ' b)→VR P w Φ σ ρ v cv f →
   gY v'=true∧∀ g,(∀ b,g b=0)→VR P w Φ' σ ρ v' cv g:=by
 intro v
 have mono:∀ (v:AV) cv f,gY v=true→VR P w Φ σ ρ v cv f→∀ g,(∀ b,g b=0)→VR P w Φ' σ ρ v cv g:=by
  intro v cv f hv h g hg
  have hz:∀ b,f b=0:=by
   revert h;revert hv
   cases v<;>simp only[gY,VR]<;>intro hv h
   all_goals first|(cases hv;done)|exact h.2|skip
   rename_i g0 cs
   cases cs with
   | nil=>obtain⟨vs,_,_,h⟩:=h;simp only[CR] at h;exact h.2
   | cons c cs=>simp[gY] at hv
  have e:f=g:=funext fun b=>by rw[hz b,hg b]
  subst e
  exact uM w Φ' ρ (fun _ _=>rfl) hsub v cv f (jY hv) (fun _ _=>rfl) h
 induction v using AV.rec (motive_2:=fun cs=>∀ (cs':List AV) (xs:List Value) (f:Cnt),jZ cs=some cs'→(∀ b,1≤f b→Φ' b)→CR P w Φ σ ρ cs xs f →
   (∀ c∈cs',gY c=true)∧∀ g,(∀ b,g b=0)→CR P w Φ' σ ρ cs' xs g) with
 | dead=>intro v' cv f h;simp[jI] at h
 | gone s=>intro v' cv f h;simp[jI] at h
 | int k n=>intro v' cv f h _ hv;simp[jI] at h;subst h;exact⟨rfl,mono _ _ _ rfl hv⟩
 | bool t=>intro v' cv f h _ hv;simp[jI] at h;subst h;exact⟨rfl,mono _ _ _ rfl hv⟩
 | str s=>intro v' cv f h _ hv;simp[jI] at h;subst h;exact⟨rfl,mono _ _ _ rfl hv⟩
 | nilf=>intro v' cv f h _ hv;simp[jI] at h;subst h;exact⟨rfl,mono _ _ _ rfl hv⟩
 | nilp=>intro v' cv f h _ hv;simp[jI] at h;subst h;exact⟨rfl,mono _ _ _ rfl hv⟩
 | nsl t=>intro v' cv f h _ hv;simp[jI] at h;subst h;exact⟨rfl,mono _ _ _ rfl hv⟩
 | fn g cs ih =>
  intro v' cv f h _ hv
  cases cs with
  | nil=>simp[jI] at h;subst h;exact⟨rfl,mono _ _ _ rfl hv⟩
  | cons c cs=>simp[jI] at h
 | rsl n cs ih=>intro v' cv f h _ hv;simp[jI] at h;subst h;exact⟨rfl,mono _ _ _ rfl hv⟩
 | rp cs ih=>intro v' cv f h _ hv;simp[jI] at h;subst h;exact⟨rfl,mono _ _ _ rfl hv⟩
 | osl s t n cs ih =>
  intro v' cv f h hf hv
  simp only[jI] at h
  cases hc:jZ cs with
  | none=>simp[hc] at h
  | some cs' =>
   simp[hc] at h;subst h
   simp only[VR] at hv
   obtain⟨hst,hx,xs,f1,ho,hr1,hb⟩:=hv
   obtain⟨hz,hall⟩:=ih cs' xs f1 hc (fun b h1=>hf b (by have:=hb b;omega)) hr1
   refine⟨rfl,fun g hg=>?_⟩
   simp only[VR]
   obtain⟨a,c,e,hn,h0n,hcells⟩:=dF ho
   refine⟨⟨a,c,e,hn,h0n,ES _ _ _ fun i x hi=>?_⟩,hg⟩
   obtain⟨u,f1',f2',hu,hvr,hff,_⟩:=dO i (hall (fun _=>0) (fun _=>rfl)) hi
   obtain⟨ad,ea,hown,hcell⟩:=hcells i u hu
   refine⟨ad,u,ea,hf _ (by have:=hb ad.block;omega),by rw[Nat.zero_add];exact hcell,hz x (List.mem_of_getElem? hi),fun f0 hf0=>?_⟩
   have e:f1'=f0:=funext fun b=>by have this:0=f1' b+f2' b:=hff b;rw[hf0 b];omega
   exact e▸hvr
 | bx s t cs ih =>
  intro v' cv f h hf hv
  simp only[jI] at h
  cases hc:jZ cs with
  | none=>simp[hc] at h
  | some cs' =>
   simp[hc] at h;subst h
   simp only[VR] at hv
   obtain⟨hst,hx,b0,arr,f1,e,hg0,hr1,hb⟩:=hv
   obtain⟨hz,hall⟩:=ih cs' _ f1 hc (fun b h1=>hf b (by have:=hb b;omega)) hr1
   refine⟨rfl,fun g hg=>?_⟩
   simp only[VR]
   refine⟨⟨_,e,ES _ _ _ fun i x hi=>?_⟩,hg⟩
   obtain⟨u,f1',f2',hu,hvr,hff,_⟩:=dO i (hall (fun _=>0) (fun _=>rfl)) hi
   refine⟨_,u,rfl,hf _ (by have:=hb b0;simp at this;show 1≤f b0;omega),?_,hz x (List.mem_of_getElem? hi),fun f0 hf0=>?_⟩
   ·rw[Nat.zero_add,add_lit,cell_of_row w b0 _ arr t (0,0) hg0]
    simpa using hu
   ·have e:f1'=f0:=funext fun b=>by have this:0=f1' b+f2' b:=hff b;rw[hf0 b];omega
    exact e▸hvr
 | agg cs ih=>intro v' cv f h;simp[jI] at h
 | tup sh cs ih=>intro v' cv f h;simp[jI] at h
 | ps r p o=>intro v' cv f h;simp[jI] at h
 | pp r p o=>intro v' cv f h;simp[jI] at h
 | pf r p o=>intro v' cv f h;simp[jI] at h
 | pw r p o lo m sz=>intro v' cv f h;simp[jI] at h
 | nil =>
  rename_i cs' xs f h _ hv
  simp[jZ] at h;subst h
  simp only[CR] at hv ⊢
  exact⟨by simp,fun g hg=>⟨hv.1,hg⟩⟩
 | cons c cs ihc ihs =>
  rename_i cs' xs f h hf hv
  simp only[jZ] at h
  cases hc:jI c with
  | none=>simp[hc] at h
  | some c' =>
   cases hcs:jZ cs with
   | none=>simp[hc,hcs] at h
   | some cs1 =>
    simp[hc,hcs] at h;subst h
    simp only[CR] at hv
    obtain⟨v,vs',f1,f2,rfl,h1,h2,hb⟩:=hv
    obtain⟨z1,k1⟩:=ihc c' v f1 hc (fun b hb1=>hf b (by have:=hb b;omega)) h1
    obtain⟨z2,k2⟩:=ihs cs1 vs' f2 hcs (fun b hb1=>hf b (by have:=hb b;omega)) h2
    refine⟨by simpa using ⟨z1,z2⟩,fun g hg=>?_⟩
    simp only[CR]
    exact⟨v,vs',g,fun _=>0,rfl,k1 g hg,k2 _ (fun _=>rfl),fun b=>by simp⟩
end
end Go.AM
namespace Go.AM
open Go
section
variable {P : Program} {w : World} {Φ : Nat → Prop} {σ : Nat → Value} {ρ : List Value}
theorem RQ {α:Type} (vs:List α) (n i:Nat) (v:α):(vs.take n).set i v=(vs.set i v).take n:=by
 rw[List.take_set]
theorem dS {α:Type} {vs:List α} {n i:Nat} {v:α} (h:(vs.take n)[i]?=some v):vs[i]?=some v∧i<n:=by
 rw[List.getElem?_take] at h
 split at h
 ·exact⟨h,by assumption⟩
 ·cases h
theorem gW {α:Type} {vs:List α} {i:Nat} {v:α} (h:vs[i]?=some v):vs.set i v=vs:=by
 apply List.ext_getElem?
 intro j
 rw[List.getElem?_set]
 split
 ·subst_vars
  split
  ·exact h.symm
  ·rename_i h2;rw[List.getElem?_eq_none (by omega)] at h;cases h
 ·rfl
theorem iC (w':World) (Φ':Nat→Prop) (ρ':List Value) (hΦ:∀ b,Φ b→w'.heap[b]?=w.heap[b]?) (hsub:∀ b,Φ b→Φ' b) :
  ∀ (cs:List AV) (vs:List Value) (f:Cnt),hrs cs=false→(∀ b,1≤f b→w'.heap[b]?=w.heap[b]?)→CR P w Φ σ ρ cs vs f→CR P w' Φ' σ ρ' cs vs f
 | [],vs,f,_,_,h=>by simpa only[CR] using h
 | c::cs,vs,f,hh,hf,h=>by
  simp only[hrs,Bool.or_eq_false_iff] at hh
  simp only[CR] at h ⊢
  obtain⟨v,vs',f1,f2,e,h1,h2,hb⟩:=h
  exact⟨v,vs',f1,f2,e,uM w' Φ' ρ' hΦ hsub _ _ _ hh.1 (fun b hb1=>hf b (by have:=hb b;omega)) h1,
   iC w' Φ' ρ' hΦ hsub _ _ _ hh.2 (fun b hb1=>hf b (by have:=hb b;omega)) h2,hb⟩
theorem wY:∀ {cs:List AV} {vs:List Value} {f:Cnt} (i:Nat) {c:AV},CR P w Φ σ ρ cs vs f→cs[i]?=some c →
  ∃ (v:Value) (f1 f2:Cnt),vs[i]?=some v∧VR P w Φ σ ρ c v f1∧(∀ b,f b=f1 b+f2 b) ∧
   (∀ c' v' f',VR P w Φ σ ρ c' v' f'→CR P w Φ σ ρ (cs.set i c') (vs.set i v') (fun b=>f' b+f2 b)) ∧
   ∀ (w':World) (Φ':Nat→Prop) (ρ':List Value),hrs cs=false→(∀ b,1≤f2 b→w'.heap[b]?=w.heap[b]?)→(∀ b,Φ b→w'.heap[b]?=w.heap[b]?)→(∀ b,Φ b→Φ' b) →
    ∀ c' v' f',VR P w' Φ' σ ρ' c' v' f'→CR P w' Φ' σ ρ' (cs.set i c') (vs.set i v') (fun b=>f' b+f2 b)
 | [],_,_,i,_,_,hi=>by simp at hi
 | c0::cs,vs,f,0,c,h,hi=>by
  simp only[CR] at h
  obtain⟨v,vs',f1,f2,rfl,h1,h2,hf⟩:=h
  simp at hi;subst hi
  refine⟨v,f1,f2,rfl,h1,hf,fun c' v' f' h'=>?_,fun w' Φ' ρ' hh hk hΦ hsub c' v' f' h'=>?_⟩
  ·simp only[List.set_cons_zero]
   exact CR_cons h' h2
  ·simp only[List.set_cons_zero]
   simp only[hrs,Bool.or_eq_false_iff] at hh
   exact CR_cons h' (iC w' Φ' ρ' hΦ hsub _ _ _ hh.2 hk h2)
 | c0::cs,vs,f,i+1,c,h,hi=>by
  simp only[CR] at h
  obtain⟨v0,vs',f1,f2,rfl,h1,h2,hf⟩:=h
  simp at hi
  obtain⟨v,g1,g2,hv,hc,hg,hset,hset2⟩:=wY i h2 hi
  refine⟨v,g1,fun b=>f1 b+g2 b,by simpa using hv,hc,fun b=>by show f b=g1 b+(f1 b+g2 b);have:=hf b;have:=hg b;omega,fun c' v' f' h'=>?_,fun w' Φ' ρ' hh hk hΦ hsub c' v' f' h'=>?_⟩
  ·simp only[List.set_cons_succ]
   have:=CR_cons h1 (hset c' v' f' h')
   have e:(fun b=>f1 b+(f' b+g2 b))=(fun b=>f' b+(f1 b+g2 b)):=funext fun b=>by omega
   rw[e] at this;exact this
  ·simp only[List.set_cons_succ]
   simp only[hrs,Bool.or_eq_false_iff] at hh
   have:=CR_cons (uM w' Φ' ρ' hΦ hsub _ _ _ hh.1 (fun b hb=>hk b (by show 1≤f1 b+g2 b;omega)) h1)
    (hset2 w' Φ' ρ' hh.2 (fun b hb=>hk b (by show 1≤f1 b+g2 b;omega)) hΦ hsub c' v' f' h')
   have e:(fun b=>f1 b+(f' b+g2 b))=(fun b=>f' b+(f1 b+g2 b)):=funext fun b=>by omega
   rw[e] at this;exact this
theorem pM {v:AV} {ics:List AV} {cv:Value} {g:Cnt} (hi:inner v=some ics) (h:VR P w Φ σ ρ v cv g) :
  ∃ (b t:Nat) (arr:Array Value) (h1:Cnt),hblk cv=some b∧w.heap[b]?=some (.cells arr t (0,0))∧CR P w Φ σ ρ ics (arr.toList.take ics.length) h1∧(∀ x,g x=(if x=b then 1 else 0)+h1 x)∧hrs ics=false ∧
   (∀ (w':World) (Φ':Nat→Prop) (ρ':List Value) (arr':Array Value) (ics':List AV) (h1':Cnt),w'.heap[b]?=some (.cells arr' t (0,0))→arr'.size=arr.size→ics'.length=ics.length→hrs ics'=false →
    CR P w' Φ' σ ρ' ics' (arr'.toList.take ics.length) h1'→VR P w' Φ' σ ρ' (kM v ics') cv (fun x=>h1' x+(if x=b then 1 else 0))):=by
 cases v<;>simp only[inner] at hi<;>try (cases hi;done)
 case osl s e n cs =>
  cases cs with
  | nil=>cases hi
  | cons c0 cs0 =>
   obtain rfl:=Option.some.inj hi
   simp only[VR] at h
   obtain⟨hst,hx,xs,f1,ho,hr1,hb⟩:=h
   rcases ho.2 with ⟨rfl,rfl⟩|⟨b,cap,cur,rfl,h0,hg,hn,hm,hs,ht⟩
   ·have hx0:xs=[]:=List.eq_nil_of_length_eq_zero (by simpa using ho.1)
    subst hx0
    simp[CR] at hr1
   ·have hl:=dm hr1
    have hlen:(c0::cs0).length=n*P.cellsOf e:=hl.trans ho.1
    refine⟨b,e,cur,f1,rfl,hg,?_,fun x=>by rw[hb x];simp[jF,Value.ownBlock,eq_comm],hx,?_⟩
    ·rw[hlen,ht];exact hr1
    ·intro w' Φ' ρ' arr' ics' h1' hg' hsz hlen' hx' hr'
     simp only[kM,VR]
     refine⟨hst,hx',_,h1',⟨?_,.inr ⟨b,cap,arr',rfl,Nat.zero_le _,hg',hn,hm,by rw[hsz,hs],rfl⟩⟩,?_,fun x=>by simp[jF,Value.ownBlock,eq_comm];omega⟩
     ·rw[List.length_take,Array.length_toList,hsz,hs]
      exact Nat.min_eq_left (Nat.mul_le_mul_right _ hn)
     ·rw[←hlen];exact hr'
 case bx s t cs =>
  obtain rfl:=Option.some.inj hi
  simp only[VR] at h
  obtain⟨hst,hx,b,arr,f1,rfl,hg,hr1,hb⟩:=h
  have hl:=dm hr1
  refine⟨b,t,arr,f1,rfl,hg,?_,hb,hx,?_⟩
  ·rw[hl,List.take_length];exact hr1
  ·intro w' Φ' ρ' arr' ics' h1' hg' hsz hlen' hx' hr'
   simp only[kM,VR]
   refine⟨hst,hx',b,arr',h1',rfl,hg',?_,fun x=>by omega⟩
   rw[hl] at hr'
   rwa [List.take_of_length_le (by simp[hsz])] at hr'
theorem ah (a b:List AV):hrs (a++b)=(hrs a||hrs b):=by
 induction a with
 | nil=>simp[hrs]
 | cons c a ih=>simp[hrs,ih,Bool.or_assoc]
theorem uz {cs:List AV} (h:hrs cs=false):∀ c∈cs,hr c=false:=by
 induction cs with
 | nil=>simp
 | cons c cs ih =>
  simp only[hrs,Bool.or_eq_false_iff] at h
  simpa using ⟨h.1,ih h.2⟩
theorem Qa {cs:List AV} (h:∀ c∈cs,hr c=false):hrs cs=false:=by
 induction cs with
 | nil=>simp[hrs]
 | cons c cs ih =>
  simp only[hrs,Bool.or_eq_false_iff]
  exact⟨h c (by simp),ih fun x hx=>h x (by simp[hx])⟩
theorem wU {cs:List AV} (h:hrs cs=false) (i:Nat) {c:AV} (hc:hr c=false):hrs (cs.set i c)=false :=
 Qa fun x hx=>by
  rcases List.mem_or_eq_of_mem_set hx with h1|h1
  ·exact uz h x h1
  ·exact h1▸hc
theorem D9 {v:AV} {cs:List AV} (hv:hr v=false) (h:hrs cs=false):hr (kM v cs)=false:=by
 cases v<;>simp_all[kM,hr]
theorem uO:∀ (p:List Nat) {cs row:List AV},hrs cs=false→hrs row=false→hrs (setRow cs p row)=false
 | [],cs,row,_,h=>by simpa [setRow] using h
 | o::p,cs,row,hc,h=>by
  simp only[setRow]
  cases hv:cs[o]? with
  | none=>exact hc
  | some v =>
   cases hi:inner v with
   | none=>simp[hi];exact hc
   | some ics =>
    simp only[hi]
    have hrv:=uz hc v (List.mem_of_getElem? hv)
    refine wU hc o (D9 hrv (uO p ?_ h))
    revert hi hrv
    cases v<;>simp[inner,hr]
    ·rename_i e n cs1;cases cs1<;>simp
     rintro rfl h;exact h
    ·rintro rfl h;exact h
theorem lq:∀ (p:List Nat) {cs row r:List AV},rowAt cs p=some r→row.length=r.length→(setRow cs p row).length=cs.length
 | [],cs,row,r,h,hl=>by simp[rowAt] at h;subst h;simpa [setRow] using hl
 | o::p,cs,row,r,h,hl=>by
  simp only[setRow]
  cases hv:cs[o]? with
  | none=>rfl
  | some v =>
   cases hi:inner v with
   | none=>simp[hi]
   | some ics=>simp[hi]
theorem focus:∀ (p:List Nat) (cs:List AV) (vs:List Value) (f:Cnt) (bo:Option Nat) (row:List AV),
  CR P w Φ σ ρ cs (vs.take cs.length) f→(∀ b,f b≤1)→rowAt cs p=some row →
  ∃ (bo':Option Nat) (cvs:List Value) (f1 f2:Cnt),walk w bo vs p=some (bo',cvs)∧CR P w Φ σ ρ row (cvs.take row.length) f1∧(∀ b,f b=f1 b+f2 b) ∧
   (p=[]→bo'=bo∧cvs=vs∧row=cs∧∀ b,f2 b=0) ∧
   (∀ row' f1',row'.length=row.length→(p≠[]→hrs row'=false)→CR P w Φ σ ρ row' (cvs.take row.length) f1' →
    CR P w Φ σ ρ (setRow cs p row') (vs.take cs.length) (fun b=>f1' b+f2 b)) ∧
   (p≠[]→∃ b t arr,bo'=some b∧w.heap[b]?=some (.cells arr t (0,0))∧cvs=arr.toList∧1≤f2 b∧hrs row=false ∧
    ∀ (w':World) (Φ':Nat→Prop) (ρ':List Value) (row':List AV) (arr':Array Value) (f1':Cnt),hrs cs=false →
     w'.heap[b]?=some (.cells arr' t (0,0))→arr'.size=arr.size→(∀ x,x≠b→1≤f2 x→w'.heap[x]?=w.heap[x]?) →
     (∀ x,Φ x→w'.heap[x]?=w.heap[x]?)→(∀ x,Φ x→Φ' x) →
     row'.length=row.length→hrs row'=false→CR P w' Φ' σ ρ' row' (arr'.toList.take row.length) f1' →
     CR P w' Φ' σ ρ' (setRow cs p row') (vs.take cs.length) (fun b=>f1' b+f2 b))
 | [],cs,vs,f,bo,row,h,hsep,hp=>by
  simp[rowAt] at hp;subst hp
  refine⟨bo,vs,f,fun _=>0,by simp[walk],h,fun b=>by simp,fun _=>⟨rfl,rfl,rfl,fun _=>rfl⟩,?_,fun hne=>absurd rfl hne⟩
  intro row' f1' _ _ h'
  simpa [setRow] using h'
 | o::p,cs,vs,f,bo,row,h,hsep,hp=>by
  simp only[rowAt] at hp
  cases hv:cs[o]? with
  | none=>simp[hv] at hp
  | some v =>
   cases hi:inner v with
   | none=>simp[hv,hi] at hp
   | some ics =>
    simp only[hv,hi] at hp
    obtain⟨cv,g1,g2,hcv,hvr,hg,hset,hset2⟩:=wY o h hv
    obtain⟨hcv0,holt⟩:=dS hcv
    obtain⟨b,t,arr,h1,hbk,hheap,hcr,hcnt,hhr,hupd⟩:=pM hi hvr
    have hsep1:∀ x,h1 x≤1:=fun x=>by have:=hsep x;have:=hg x;have:=hcnt x;omega
    obtain⟨bo',cvs,f1,f2,hw,hrow,hf,hnil,hu1,hu2⟩:=focus p ics arr.toList h1 (some b) row hcr hsep1 hp
    have hwalk:walk w bo vs (o::p)=some (bo',cvs):=by
     simp only[walk,hcv0,hbk,jQ,hheap];exact hw
    refine⟨bo',cvs,f1,fun x=>f2 x+(if x=b then 1 else 0)+g2 x,hwalk,hrow,fun x=>by show f x=f1 x+(f2 x+(if x=b then 1 else 0)+g2 x);rw[hg x,hcnt x,hf x];omega,fun hne=>by simp at hne,?_,fun _=>?_⟩
    ·intro row' f1' hl hh h'
     have hrow0:hrs row'=false:=hh (by simp)
     have k1:=hu1 row' f1' hl (fun _=>hrow0) h'
     have k2:=hupd w Φ ρ arr (setRow ics p row') _ hheap rfl (lq p hp hl) (uO p hhr hrow0) k1
     have k3:=hset _ cv _ k2
     simp only[setRow,hv,hi]
     rw[gW (α:=Value) hcv] at k3
     refine Eq.mp (congrArg (fun F=>CR P w Φ σ ρ _ _ F) (funext fun x=>?_)) k3
     omega
    ·cases p with
     | nil =>
      simp[rowAt] at hp;subst hp
      obtain⟨rfl,rfl,_,hf0⟩:=hnil rfl
      refine⟨b,t,arr,rfl,hheap,rfl,by simp;omega,hhr,?_⟩
      intro w' Φ' ρ' row' arr' f1' hcs hheap' hsz hoth hΦ hsub hl hrow' hcr'
      have k2:=hupd w' Φ' ρ' arr' row' f1' hheap' hsz hl hrow' hcr'
      simp only[setRow,hv,hi]
      have hz:∀ x,f2 x=0:=hf0
      have k3:=hset2 w' Φ' ρ' hcs (fun x h2=>hoth x (by intro e;have:=hsep x;have:=hg x;have:=hcnt x;subst e;simp at *;omega) (by simp;omega)) hΦ hsub _ cv _ k2
      rw[gW (α:=Value) hcv] at k3
      refine Eq.mp (congrArg (fun F=>CR P w' Φ' σ ρ' _ _ F) (funext fun x=>?_)) k3
      have:=hz x
      omega
     | cons o2 p2 =>
      obtain⟨b2,t2,arr2,rfl,hheap2,rfl,hb2,hrr,hupd2⟩:=hu2 (by simp)
      have hne:b≠b2:=by
       intro e
       have:=hsep b2;have:=hg b2;have:=hcnt b2;have:=hf b2
       subst e;simp at *;omega
      refine⟨b2,t2,arr2,rfl,hheap2,rfl,by simp;omega,hrr,?_⟩
      intro w' Φ' ρ' row' arr' f1' hcs hheap' hsz hoth hΦ hsub hl hrow' hcr'
      have k1:=hupd2 w' Φ' ρ' row' arr' f1' hhr hheap' hsz (fun x hx h2=>hoth x hx (by simp;omega)) hΦ hsub hl hrow' hcr'
      have hb':w'.heap[b]?=some (.cells arr t (0,0)):=by
       rw[hoth b hne (by simp;omega)];exact hheap
      have k2:=hupd w' Φ' ρ' arr (setRow ics (o2::p2) row') _ hb' rfl (lq _ hp hl) (uO _ hhr hrow') k1
      have k3:=hset2 w' Φ' ρ' hcs (fun x h2=>hoth x (by intro e;have:=hsep x;have:=hg x;have:=hcnt x;have:=hf x;subst e;simp at *;omega) (by simp;omega)) hΦ hsub _ cv _ k2
      rw[gW (α:=Value) hcv] at k3
      rw[show setRow cs (o::o2::p2) row'=cs.set o (kM v (setRow ics (o2::p2) row')) by simp only[setRow,hv,hi]]
      refine Eq.mp (congrArg (fun F=>CR P w' Φ' σ ρ' _ _ F) (funext fun x=>?_)) k3
      show f1' x+f2 x+(if x=b then 1 else 0)+g2 x=f1' x+(f2 x+(if x=b then 1 else 0)+g2 x)
      omega
end
end Go.AM
namespace Go.AM
open Go
section
variable {P : Program} {w : World} {Φ : Nat → Prop} {σ : Nat → Value} {ρ : List Value}
theorem Zf {f:Cnt} (h:∀ b,f b=0):f=fun _=>0:=funext h
theorem iG {v:AV} {cv:Value} {f:Cnt} (h:VR P w Φ σ ρ v cv f):CR P w Φ σ ρ [v] [cv] f:=by
 have:=CR_cons h CR_nil
 simpa using this
theorem qX {v:AV} {cv:Value} {f:Cnt} (h:CR P w Φ σ ρ [v] [cv] f):VR P w Φ σ ρ v cv f:=by
 simp only[CR] at h
 obtain⟨v',vs',f1,f2,e,h1,⟨rfl,hz⟩,hf⟩:=h
 obtain⟨rfl,_⟩:=List.cons.inj e
 have:f=f1:=funext fun b=>by rw[hf b,hz b];omega
 rw[this];exact h1
theorem RS {cv:Value} {a:Option Addr} {n c:Nat} (h:cv=.slice a n c):gB cv=[cv]:=by subst h;rfl
theorem abz {cv:Value} {a:Option Addr} (h:cv=.pointer a):gB cv=[cv]:=by subst h;rfl
theorem jA {v:AV} {cv:Value} {f:Cnt} (hd:v≠.dead) (hg:∀ s,v≠.gone s) (h:VR P w Φ σ ρ v cv f):CR P w Φ σ ρ (cellsOf v) (gB cv) f:=by
 cases v with
 | dead=>exact absurd rfl hd
 | gone s=>exact absurd rfl (hg s)
 | agg cs=>simp only[VR] at h;obtain⟨arr,rfl,h⟩:=h;exact h
 | tup sh cs=>simp only[VR] at h;obtain⟨arr,rfl,_,h⟩:=h;exact h
 | int k n=>have h0:=h;simp only[VR] at h;rw[h.1] at *;exact iG h0
 | bool t=>have h0:=h;simp only[VR] at h;rw[h.1] at *;exact iG h0
 | str s=>have h0:=h;simp only[VR] at h;rw[h.1] at *;exact iG h0
 | nilf=>have h0:=h;simp only[VR] at h;rw[h.1] at *;exact iG h0
 | nilp=>have h0:=h;simp only[VR] at h;rw[h.1] at *;exact iG h0
 | nsl t=>have h0:=h;simp only[VR] at h;obtain⟨⟨a,c,rfl,_⟩,_⟩:=h;exact iG h0
 | fn g cs=>have h0:=h;simp only[VR] at h;obtain⟨vs,rfl,_⟩:=h;exact iG h0
 | rsl n cs=>have h0:=h;simp only[VR] at h;obtain⟨⟨a,c,rfl,_⟩,_⟩:=h;exact iG h0
 | rp cs=>have h0:=h;simp only[VR] at h;obtain⟨⟨a,rfl,_⟩,_⟩:=h;exact iG h0
 | osl s t n cs =>
  have h0:=h;simp only[VR] at h;obtain⟨_,_,xs,f1,ho,_⟩:=h
  obtain⟨a,c,rfl,_⟩:=dF ho;exact iG h0
 | bx s t cs=>have h0:=h;simp only[VR] at h;obtain⟨_,_,b0,arr,f1,rfl,_⟩:=h;exact iG h0
 | ps r p o=>have h0:=h;simp only[VR] at h;obtain⟨⟨bo,row,a,n,c,_,_,rfl⟩,_⟩:=h;exact iG h0
 | pp r p o=>have h0:=h;simp only[VR] at h;obtain⟨⟨b0,row,_,rfl⟩,_⟩:=h;exact iG h0
 | pf r p o=>have h0:=h;simp only[VR] at h;obtain⟨⟨bo,row,g,fs,cs,_,_,rfl⟩,_⟩:=h;exact iG h0
 | pw r p o lo m sz=>have h0:=h;obtain⟨a,n,c,_,_,rfl⟩:=VR_pw.1 h;exact iG h0
theorem tK {w':World} {Φ':Nat→Prop} {ρ':List Value} {v:AV} {cv:Value} {f:Cnt} (h:VR P w Φ σ ρ v cv f) (hd:v≠.dead) (hg:∀ s,v≠.gone s) {cs:List AV} {g:Cnt} (hl:cs.length=(cellsOf v).length)
  (hc:CR P w' Φ' σ ρ' cs (gB cv) g):VR P w' Φ' σ ρ' (jy v cs) cv g:=by
 have one:∀ c1:AV,jy v cs=cs.headD .dead→gB cv=[cv]→cs.length=1→VR P w' Φ' σ ρ' (jy v cs) cv g:=by
  intro c1 e1 e2 e3
  rw[e1]
  match cs,e3 with
  | [c],_=>rw[e2] at hc;exact qX hc
 have hcr:=dm (jA hd hg h)
 cases v with
 | dead=>exact absurd rfl hd
 | gone s=>exact absurd rfl (hg s)
 | agg cs0=>simp only[VR] at h ⊢;obtain⟨arr,rfl,h⟩:=h;simp only[jy,VR];exact⟨arr,rfl,hc⟩
 | tup sh cs0=>simp only[VR] at h ⊢;obtain⟨arr,rfl,hs,h⟩:=h;simp only[jy,VR];exact⟨arr,rfl,hs,hc⟩
 | _ =>
  refine one .dead rfl ?_ hl
  have h1:(gB cv).length=1:=by rw[←hcr];rfl
  cases cv<;>first|rfl|skip
  all_goals (exfalso;simp only[VR] at h)
  all_goals first
   | (have:=h.1;cases this;done)
   | (obtain⟨vs,e,_⟩:=h;cases e;done)
   | (obtain⟨⟨a,c,e,_⟩,_⟩:=h;cases e;done)
   | (obtain⟨⟨a,e,_⟩,_⟩:=h;cases e;done)
   | (obtain⟨_,_,xs,f1,ho,_⟩:=h;obtain⟨a,c,e,_⟩:=dF ho;cases e;done)
   | (obtain⟨_,_,b0,arr,f1,e,_⟩:=h;cases e;done)
   | (obtain⟨⟨bo,row,a,n,c,_,_,e⟩,_⟩:=h;cases e;done)
   | (obtain⟨⟨b0,row,_,e⟩,_⟩:=h;cases e;done)
   | (obtain⟨⟨bo,row,g,fs,cs,_,_,e⟩,_⟩:=h;cases e;done)
   | (obtain⟨⟨bo,row,a,n,c,_,_,_,e⟩,_⟩:=h;cases e;done)
theorem pI {e:Env} {r:Nat} {p:List Nat} {row:List AV} (h:jv e r p=some row) :
  ∃ v,e[r]?=some v∧v≠.dead∧(∀ s,v≠.gone s)∧rowAt (cellsOf v) p=some row:=by
 unfold jv at h
 split at h
 ·cases h
 ·cases h
 ·rename_i v h1 h2 hv;exact⟨v,hv,h1,h2,h⟩
 ·cases h
theorem gI {e:Env} {f:Cnt} {r:Nat} {p:List Nat} {row:List AV} (h:CR P w Φ σ ρ e ρ f) (hsep:∀ b,f b≤1) (hrow:jv e r p=some row) :
  ∃ (bo:Option Nat) (cvs:List Value) (f1 f2:Cnt),walk w none (rowOf ρ r) p=some (bo,cvs)∧CR P w Φ σ ρ row (cvs.take row.length) f1∧(∀ b,f b=f1 b+f2 b) ∧
   (∀ row' f1',row'.length=row.length→(p≠[]→hrs row'=false)→CR P w Φ σ ρ row' (cvs.take row.length) f1' →
    CR P w Φ σ ρ (dY e r p row') ρ (fun b=>f1' b+f2 b)) ∧
   (p≠[]→∃ b t arr,bo=some b∧w.heap[b]?=some (.cells arr t (0,0))∧cvs=arr.toList∧1≤f2 b∧hrs row=false):=by
 obtain⟨v,hv,hd,hg,hra⟩:=pI hrow
 obtain⟨cv,g1,g2,hcv,hvr,hf,hset,hset2⟩:=wY r h hv
 have hc:=jA hd hg hvr
 have hl:=dm hc
 have hc':CR P w Φ σ ρ (cellsOf v) ((gB cv).take (cellsOf v).length) g1:=by rw[hl,List.take_length];exact hc
 obtain⟨bo,cvs,f1,f2,hw,hr1,hff,hnil,hu1,hu2⟩:=focus p (cellsOf v) (gB cv) g1 none row hc' (fun b=>by have:=hsep b;have:=hf b;omega) hra
 have hro:rowOf ρ r=gB cv:=by simp[rowOf,hcv]
 refine⟨bo,cvs,f1,fun x=>f2 x+g2 x,by rw[hro];exact hw,hr1,fun b=>by show f b=f1 b+(f2 b+g2 b);rw[hf b,hff b];omega,?_,?_⟩
 ·intro row' f1' hlen hh hcr
  have k:=hu1 row' f1' hlen hh hcr
  rw[hl,List.take_length] at k
  have k2:=tK (v:=v) hvr hd hg (lq p hra hlen) k
  have k3:=hset _ cv _ k2
  rw[gW (α:=Value) hcv] at k3
  simp only[dY,hv]
  refine Eq.mp (congrArg (fun F=>CR P w Φ σ ρ _ _ F) (funext fun x=>?_)) k3
  show f1' x+f2 x+g2 x=f1' x+(f2 x+g2 x)
  omega
 ·intro hp
  obtain⟨b,t,arr,h1,h2,h3,h4,h5,_⟩:=hu2 hp
  exact⟨b,t,arr,h1,h2,h3,by show 1≤f2 b+g2 b;omega,h5⟩
theorem Cb {w':World}:∀ (p:List Nat) (cs:List AV) (vs:List Value) (f:Cnt) (bo:Option Nat) (row:List AV),CR P w Φ σ ρ cs (vs.take cs.length) f→rowAt cs p=some row→(∀ b,1≤f b→w'.heap[b]?=w.heap[b]?)→walk w' bo vs p=walk w bo vs p
 | [],cs,vs,f,bo,row,_,_,_=>by simp[walk]
 | o::p,cs,vs,f,bo,row,h,hp,hk=>by
  simp only[rowAt] at hp
  cases hv:cs[o]? with
  | none=>simp[hv] at hp
  | some v =>
   cases hi:inner v with
   | none=>simp[hv,hi] at hp
   | some ics =>
    simp only[hv,hi] at hp
    obtain⟨cv,g1,g2,hcv,hvr,hg,_,_⟩:=wY o h hv
    obtain⟨hcv0,holt⟩:=dS hcv
    obtain⟨b,t,arr,h1,hbk,hheap,hcr,hcnt,hhr,hupd⟩:=pM hi hvr
    have hb:w'.heap[b]?=some (.cells arr t (0,0)):=by
     rw[hk b (by have:=hg b;have:=hcnt b;simp at *;omega)];exact hheap
    simp only[walk,hcv0,hbk,jQ,hheap,hb]
    exact Cb p ics arr.toList h1 (some b) row hcr hp (fun x hx=>hk x (by have:=hg x;have:=hcnt x;omega))
theorem sV {w':World} {e:Env} {f:Cnt} {r:Nat} {p:List Nat} {row:List AV} (h:CR P w Φ σ ρ e ρ f) (hrow:jv e r p=some row) (hk:∀ b,1≤f b→w'.heap[b]?=w.heap[b]?):walk w' none (rowOf ρ r) p=walk w none (rowOf ρ r) p:=by
 obtain⟨v,hv,hd,hg,hra⟩:=pI hrow
 obtain⟨cv,g1,g2,hcv,hvr,hf,_,_⟩:=wY r h hv
 have hc:=jA hd hg hvr
 have hl:=dm hc
 have hro:rowOf ρ r=gB cv:=by simp[rowOf,hcv]
 rw[hro]
 exact Cb p (cellsOf v) (gB cv) g1 none row (by rw[hl,List.take_length];exact hc) hra (fun b hb=>hk b (by have:=hf b;omega))
theorem Ii {e:Env} {f:Cnt} {r:Nat} {p:List Nat} {row:List AV} (h:CR P w Φ σ ρ e ρ f) (hsep:∀ b,f b≤1) (hrow:jv e r p=some row) (hp:p≠[]) :
  ∃ (b t:Nat) (arr:Array Value) (f1 f2:Cnt) (u:AV),e[r]?=some u∧walk w none (rowOf ρ r) p=some (some b,arr.toList)∧w.heap[b]?=some (.cells arr t (0,0))∧CR P w Φ σ ρ row (arr.toList.take row.length) f1∧hrs row=false ∧
   (∀ b,f b=f1 b+f2 b)∧1≤f2 b ∧
   ∀ (w':World) (Φ':Nat→Prop) (row':List AV) (arr':Array Value) (f1':Cnt),hrs (cellsOf u)=false →
     w'.heap[b]?=some (.cells arr' t (0,0))→arr'.size=arr.size→(∀ x,x≠b→1≤f2 x→w'.heap[x]?=w.heap[x]?) →
     (∀ x,Φ x→w'.heap[x]?=w.heap[x]?)→(∀ x,Φ x→Φ' x) →
     row'.length=row.length→hrs row'=false→CR P w' Φ' σ ρ row' (arr'.toList.take row.length) f1' →
     (∀ (v:AV) cv g,v∈e→(∀ x,1≤g x→w'.heap[x]?=w.heap[x]?)→VR P w Φ σ ρ v cv g→VR P w' Φ' σ ρ v cv g) →
     CR P w' Φ' σ ρ (dY e r p row') ρ (fun x=>f1' x+f2 x):=by
 obtain⟨v,hv,hd,hg,hra⟩:=pI hrow
 have get3:∀ {cs:List AV} {vs:List Value} {f:Cnt} (i:Nat) {c:AV},CR P w Φ σ ρ cs vs f→cs[i]?=some c →
  ∃ (v:Value) (f1 f2:Cnt),vs[i]?=some v∧VR P w Φ σ ρ c v f1∧(∀ b,f b=f1 b+f2 b) ∧
   ∀ (w':World) (Φ':Nat→Prop),(∀ b,1≤f2 b→w'.heap[b]?=w.heap[b]?) →
    (∀ (v:AV) cv g,v∈cs→(∀ x,1≤g x→w'.heap[x]?=w.heap[x]?)→VR P w Φ σ ρ v cv g→VR P w' Φ' σ ρ v cv g) →
    ∀ c' v' f',VR P w' Φ' σ ρ c' v' f'→CR P w' Φ' σ ρ (cs.set i c') (vs.set i v') (fun b=>f' b+f2 b):=by
  have all:∀ (w':World) (Φ':Nat→Prop) {cs:List AV} {vs:List Value} {f:Cnt},(∀ b,1≤f b→w'.heap[b]?=w.heap[b]?) →
    (∀ (v:AV) cv g,v∈cs→(∀ x,1≤g x→w'.heap[x]?=w.heap[x]?)→VR P w Φ σ ρ v cv g→VR P w' Φ' σ ρ v cv g)→CR P w Φ σ ρ cs vs f→CR P w' Φ' σ ρ cs vs f:=by
   intro w' Φ' cs
   induction cs with
   | nil=>intro vs f _ _ h;simpa only[CR] using h
   | cons c cs ih =>
    intro vs f hf hk h
    simp only[CR] at h ⊢
    obtain⟨v,vs',f1,f2,e,h1,h2,hb⟩:=h
    exact⟨v,vs',f1,f2,e,hk c v f1 (by simp) (fun x hx=>hf x (by have:=hb x;omega)) h1,
     ih (fun x hx=>hf x (by have:=hb x;omega)) (fun v cv g hm=>hk v cv g (by simp[hm])) h2,hb⟩
  intro cs
  induction cs with
  | nil=>intro vs f i c _ hi;simp at hi
  | cons c0 cs ih =>
   intro vs f i c h hi
   simp only[CR] at h
   obtain⟨v0,vs',f1,f2,rfl,h1,h2,hf⟩:=h
   cases i with
   | zero =>
    simp at hi;subst hi
    refine⟨v0,f1,f2,rfl,h1,hf,fun w' Φ' hk hall c' v' f' h'=>?_⟩
    simp only[List.set_cons_zero]
    exact CR_cons h' (all w' Φ' hk (fun v cv g hm=>hall v cv g (by simp[hm])) h2)
   | succ i =>
    simp at hi
    obtain⟨v,g1,g2,hv,hc,hg,hset⟩:=ih i h2 hi
    refine⟨v,g1,fun b=>f1 b+g2 b,by simpa using hv,hc,fun b=>by show f b=g1 b+(f1 b+g2 b);have:=hf b;have:=hg b;omega,fun w' Φ' hk hall c' v' f' h'=>?_⟩
    simp only[List.set_cons_succ]
    have:=CR_cons (hall c0 v0 f1 (by simp) (fun x hx=>hk x (by show 1≤f1 x+g2 x;omega)) h1)
     (hset w' Φ' (fun x hx=>hk x (by show 1≤f1 x+g2 x;omega)) (fun v cv g hm=>hall v cv g (by simp[hm])) c' v' f' h')
    have e:(fun b=>f1 b+(f' b+g2 b))=(fun b=>f' b+(f1 b+g2 b)):=funext fun b=>by omega
    rw[e] at this;exact this
 obtain⟨cv,g1,g2,hcv,hvr,hf,hset⟩:=get3 r h hv
 have hc:=jA hd hg hvr
 have hl:=dm hc
 have hc':CR P w Φ σ ρ (cellsOf v) ((gB cv).take (cellsOf v).length) g1:=by rw[hl,List.take_length];exact hc
 obtain⟨bo,cvs,f1,f2,hw,hr1,hff,hnil,hu1,hu2⟩:=focus p (cellsOf v) (gB cv) g1 none row hc' (fun b=>by have:=hsep b;have:=hf b;omega) hra
 have hro:rowOf ρ r=gB cv:=by simp[rowOf,hcv]
 obtain⟨b,t,arr,rfl,h2,rfl,h4,h5,hup⟩:=hu2 hp
 refine⟨b,t,arr,f1,fun x=>f2 x+g2 x,v,hv,by rw[hro];exact hw,h2,hr1,h5,fun b=>by show f b=f1 b+(f2 b+g2 b);rw[hf b,hff b];omega,by show 1≤f2 b+g2 b;omega,?_⟩
 intro w' Φ' row' arr' f1' hcs hheap hsz hoth hΦ hsub hlen hrow' hcr hall
 have k:=hup w' Φ' ρ row' arr' f1' hcs hheap hsz (fun x hx h2=>hoth x hx (by show 1≤f2 x+g2 x;omega)) hΦ hsub hlen hrow' hcr
 rw[hl,List.take_length] at k
 have k2:=tK (v:=v) hvr hd hg (lq p hra hlen) k
 have k3:=hset w' Φ' (fun x hx=>hoth x (by intro e;subst e;have:=hsep x;have:=hf x;have:=hff x;omega) (by show 1≤f2 x+g2 x;omega)) hall _ cv _ k2
 rw[gW (α:=Value) hcv] at k3
 simp only[dY,hv]
 refine Eq.mp (congrArg (fun F=>CR P w' Φ' σ ρ _ _ F) (funext fun x=>?_)) k3
 show f1' x+f2 x+g2 x=f1' x+(f2 x+g2 x)
 omega
end
end Go.AM
namespace Go.AM
open Go
section
variable {P : Program} {w : World} {Φ : Nat → Prop} {σ : Nat → Value} {ρ : List Value}
theorem pG:∀ (p:List Nat) (bo:Option Nat) (vs:List Value) (k:Nat) (bo':Option Nat) (row:List Value) (v:Value) (b:Nat) (row':List Value),
  walk w bo vs p=some (bo',row)→row[k]?=some v→hblk v=some b→jQ w b=some row'→walk w bo vs (p++[k])=some (some b,row')
 | [],bo,vs,k,bo',row,v,b,row',h,hk,hb,hr=>by
  simp only[walk,Option.some.injEq,Prod.mk.injEq] at h
  obtain⟨rfl,rfl⟩:=h
  simp[walk,hk,hb,hr]
 | o::p,bo,vs,k,bo',row,v,b,row',h,hk,hb,hr=>by
  simp only[walk] at h
  cases h1:vs[o]? with
  | none=>simp[h1] at h
  | some u =>
   cases h2:hblk u with
   | none=>simp[h1,h2] at h
   | some b1 =>
    cases h3:jQ w b1 with
    | none=>simp[h1,h2,h3] at h
    | some r1 =>
     simp only[h1,h2,h3] at h
     simp only[List.cons_append,walk,h1,h2,h3]
     exact pG p _ _ k bo' row v b row' h hk hb hr
theorem lm:∀ (p:List Nat) (bo:Option Nat) (vs:List Value) (k:Nat) (bo':Option Nat) (row':List Value),
  walk w bo vs (p++[k])=some (bo',row')→∃ bo1 row v b,walk w bo vs p=some (bo1,row)∧row[k]?=some v∧hblk v=some b∧jQ w b=some row'∧bo'=some b
 | [],bo,vs,k,bo',row',h=>by
  simp only[List.nil_append,walk] at h
  cases h1:vs[k]? with
  | none=>simp[h1] at h
  | some u =>
   cases h2:hblk u with
   | none=>simp[h1,h2] at h
   | some b1 =>
    cases h3:jQ w b1 with
    | none=>simp[h1,h2,h3] at h
    | some r1 =>
     simp[h1,h2,h3] at h
     obtain⟨rfl,rfl⟩:=h
     exact⟨bo,vs,u,b1,by simp[walk],h1,h2,h3,rfl⟩
 | o::p,bo,vs,k,bo',row',h=>by
  simp only[List.cons_append,walk] at h
  cases h1:vs[o]? with
  | none=>simp[h1] at h
  | some u =>
   cases h2:hblk u with
   | none=>simp[h1,h2] at h
   | some b1 =>
    cases h3:jQ w b1 with
    | none=>simp[h1,h2,h3] at h
    | some r1 =>
     simp only[h1,h2,h3] at h
     obtain⟨bo1,row,v,b,k1,k2,k3,k4,k5⟩:=lm p _ _ k bo' row' h
     exact⟨bo1,row,v,b,by simp only[walk,h1,h2,h3];exact k1,k2,k3,k4,k5⟩
theorem zV {r:Nat} {p:List Nat} {o:Nat} {bo:Option Nat} {row:List Value} {c:AV} {cv:Value} {g:Cnt}
  (hw:walk w none (rowOf ρ r) p=some (bo,row)) (hr:row[o]?=some cv) (h:VR P w Φ σ ρ c cv g) (f:Cnt) (hf:∀ b,f b=0):VR P w Φ σ ρ (lz1 r p o c) cv f:=by
 cases c with
 | osl s t n cs =>
  simp only[VR] at h;obtain⟨_,_,xs,f1,ho,_⟩:=h
  obtain⟨a,c,rfl,_⟩:=dF ho
  simp only[lz1,VR]
  exact⟨⟨bo,row,a,n,c,hw,hr,rfl⟩,hf⟩
 | bx s t cs =>
  simp only[VR] at h;obtain⟨_,_,b0,arr,f1,rfl,hg,_⟩:=h
  simp only[lz1,VR]
  exact⟨⟨b0,arr.toList,pG _ _ _ _ _ _ _ _ _ hw hr rfl (by simp[jQ,hg]),rfl⟩,hf⟩
 | fn g0 cs =>
  cases cs with
  | nil=>simp only[VR] at h;obtain⟨vs,rfl,_,h⟩:=h;simp only[CR] at h;simp only[lz1,VR];exact⟨vs,rfl,by simp,by simp only[CR];exact⟨h.1,hf⟩⟩
  | cons c cs =>
   simp only[VR] at h;obtain⟨vs,rfl,h⟩:=h
   simp only[lz1,VR]
   exact⟨⟨bo,row,_,_,_,hw,hr,rfl⟩,hf⟩
 | dead=>simpa only[lz1,VR] using hf
 | gone s=>simp only[lz1,VR];exact⟨fun h=>absurd rfl h,hf⟩
 | int k n=>simp only[lz1,VR] at h ⊢;exact⟨h.1,hf⟩
 | bool t=>simp only[lz1,VR] at h ⊢;exact⟨h.1,hf⟩
 | str s=>simp only[lz1,VR] at h ⊢;exact⟨h.1,hf⟩
 | nilf=>simp only[lz1,VR] at h ⊢;exact⟨h.1,hf⟩
 | nilp=>simp only[lz1,VR] at h ⊢;exact⟨h.1,hf⟩
 | nsl t=>simp only[lz1,VR] at h ⊢;exact⟨h.1,hf⟩
 | rsl n cs=>simp only[lz1,VR] at h ⊢;exact⟨h.1,hf⟩
 | rp cs=>simp only[lz1,VR] at h ⊢;exact⟨h.1,hf⟩
 | ps r p o=>simp only[lz1,VR] at h ⊢;exact⟨h.1,hf⟩
 | pp r p o=>simp only[lz1,VR] at h ⊢;exact⟨h.1,hf⟩
 | pf r p o=>simp only[lz1,VR] at h ⊢;exact⟨h.1,hf⟩
 | pw r p o lo m sz=>simp only[lz1,VR] at h ⊢;exact⟨h.1,hf⟩
 | agg cs=>simp only[lz1,VR];exact⟨fun h=>absurd rfl h,hf⟩
 | tup sh cs=>simp only[lz1,VR];exact⟨fun h=>absurd rfl h,hf⟩
theorem ru {r:Nat} {p:List Nat} {bo:Option Nat} {row:List Value} (hw:walk w none (rowOf ρ r) p=some (bo,row)) :
  ∀ (cs:List AV) (o:Nat) (vs:List Value) (g f:Cnt),CR P w Φ σ ρ cs vs g→(∀ i v,vs[i]?=some v→row[o+i]?=some v)→(∀ b,f b=0)→CR P w Φ σ ρ (lzc r p o cs) vs f
 | [],o,vs,g,f,h,_,hf=>by simp only[lzc,CR] at h ⊢;exact⟨h.1,hf⟩
 | c::cs,o,vs,g,f,h,hr,hf=>by
  simp only[CR] at h
  obtain⟨v,vs',f1,f2,rfl,h1,h2,_⟩:=h
  have k1:=zV (o:=o) hw (by simpa using hr 0 v rfl) h1 (fun _=>0) (fun _=>rfl)
  have k2:=ru hw cs (o+1) vs' f2 (fun _=>0) h2 (fun i u hi=>by have:=hr (i+1) u (by simpa using hi);rwa [show o+1+i=o+(i+1) by omega]) (fun _=>rfl)
  have:=CR_cons k1 k2
  simp only[lzc]
  rw[Zf hf];simpa using this
theorem TV {e:Env} {f:Cnt} {j:Nat} {v:AV} (h:CR P w Φ σ ρ e ρ f) (hj:e[j]?=some v):∃ cv,ρ[j]?=some cv∧∀ g,(∀ b,g b=0)→VR P w Φ σ ρ (lzv j v) cv g:=by
 obtain⟨cv,f1,f2,hcv,hvr,hf,_⟩:=dO j h hj
 refine⟨cv,hcv,fun g hg=>?_⟩
 have hro:rowOf ρ j=gB cv:=by simp[rowOf,hcv]
 have hw:walk w none (rowOf ρ j) []=some (none,gB cv):=by rw[hro];rfl
 have one:∀ (h:VR P w Φ σ ρ v cv f1),gB cv=[cv]→VR P w Φ σ ρ (lz1 j [] 0 v) cv g:=fun h e=>zV hw (by rw[e];rfl) h g hg
 cases v with
 | agg cs =>
  simp only[VR] at hvr;obtain⟨arr,rfl,h1⟩:=hvr
  simp only[lzv,VR]
  exact⟨arr,rfl,ru hw cs 0 _ _ _ h1 (fun i v hi=>by simpa [gB] using hi) hg⟩
 | tup sh cs=>simp only[lzv,VR];exact⟨fun h=>absurd rfl h,hg⟩
 | dead=>simpa only[lzv,lz1,VR] using hg
 | gone s=>simp only[lzv,lz1,VR];exact⟨fun h=>absurd rfl h,hg⟩
 | int k n=>exact one hvr (by simp only[VR] at hvr;rw[hvr.1];rfl)
 | bool t=>exact one hvr (by simp only[VR] at hvr;rw[hvr.1];rfl)
 | str s=>exact one hvr (by simp only[VR] at hvr;rw[hvr.1];rfl)
 | nilf=>exact one hvr (by simp only[VR] at hvr;rw[hvr.1];rfl)
 | nilp=>exact one hvr (by simp only[VR] at hvr;rw[hvr.1];rfl)
 | nsl t=>exact one hvr (by simp only[VR] at hvr;obtain⟨⟨a,c,rfl,_⟩,_⟩:=hvr;rfl)
 | fn g0 cs=>exact one hvr (by simp only[VR] at hvr;obtain⟨vs,rfl,_⟩:=hvr;rfl)
 | rsl n cs=>exact one hvr (by simp only[VR] at hvr;obtain⟨⟨a,c,rfl,_⟩,_⟩:=hvr;rfl)
 | rp cs=>exact one hvr (by simp only[VR] at hvr;obtain⟨⟨a,rfl,_⟩,_⟩:=hvr;rfl)
 | osl s t n cs=>exact one hvr (by simp only[VR] at hvr;obtain⟨_,_,xs,f1,ho,_⟩:=hvr;obtain⟨a,c,rfl,_⟩:=dF ho;rfl)
 | bx s t cs=>exact one hvr (by simp only[VR] at hvr;obtain⟨_,_,b0,arr,f1,rfl,_⟩:=hvr;rfl)
 | ps r p o=>exact one hvr (by simp only[VR] at hvr;obtain⟨⟨bo,row,a,n,c,_,_,rfl⟩,_⟩:=hvr;rfl)
 | pp r p o=>exact one hvr (by simp only[VR] at hvr;obtain⟨⟨b0,row,_,rfl⟩,_⟩:=hvr;rfl)
 | pf r p o=>exact one hvr (by simp only[VR] at hvr;obtain⟨⟨bo,row,g,fs,cs,_,_,rfl⟩,_⟩:=hvr;rfl)
 | pw r p o lo m sz=>exact one hvr (by obtain⟨a,n,c,_,_,rfl⟩:=VR_pw.1 hvr;rfl)
theorem IP {s t n:Nat} {cs:List AV} {cv:Value} {f:Cnt} (h:VR P w Φ σ ρ (.osl s t n cs) cv f):hr (.osl s t n cs)=false:=by
 simp only[VR] at h;simpa only[hr] using h.2.1
theorem acj {s t:Nat} {cs:List AV} {cv:Value} {f:Cnt} (h:VR P w Φ σ ρ (.bx s t cs) cv f):hr (.bx s t cs)=false:=by
 simp only[VR] at h;simpa only[hr] using h.2.1
theorem lK {e:Env} {f:Cnt} {c c':AV} {e':Env} {cv:Value} {g:Cnt} (h:CR P w Φ σ ρ e ρ f) (hsep:∀ b,f b≤1) (hc:VR P w Φ σ ρ c cv g) (ht:takeC e c=some (c',e')) :
  ∃ f1 f2:Cnt,VR P w Φ σ ρ c' cv f1∧CR P w Φ σ ρ e' ρ f2∧(∀ b,f b+g b=f1 b+f2 b)∧e'.length=e.length:=by
 have same:takeC e c=some (c,e)→∃ f1 f2:Cnt,VR P w Φ σ ρ c' cv f1∧CR P w Φ σ ρ e' ρ f2∧(∀ b,f b+g b=f1 b+f2 b)∧e'.length=e.length:=by
  intro h1
  rw[h1] at ht
  simp only[Option.some.injEq,Prod.mk.injEq] at ht
  obtain⟨rfl,rfl⟩:=ht
  exact⟨g,f,hc,h,fun b=>Nat.add_comm _ _,rfl⟩
 have slen:∀ r p row,(dY e r p row).length=e.length:=by
  intro r p row;unfold dY;split<;>simp
 cases c with
 | ps r p o =>
  simp only[takeC] at ht
  cases hrow:jv e r p with
  | none=>simp[hrow] at ht
  | some row =>
   cases ho:row[o]? with
   | none=>simp[hrow,ho] at ht
   | some u =>
    cases u with
    | osl s t n cs =>
     simp[hrow,ho] at ht
     obtain⟨rfl,rfl⟩:=ht
     simp only[VR] at hc
     obtain⟨⟨bo,row0,a,n0,c0,hw,hv,rfl⟩,hg⟩:=hc
     obtain⟨bo',cvs,f1,f2,hw',hcr,hf,hup,hblk⟩:=gI h hsep hrow
     rw[hw] at hw'
     obtain⟨rfl,rfl⟩:bo=bo'∧row0=cvs:=by simpa using hw'
     obtain⟨cv,g1,g2,hcv,hvr,hff,hset⟩:=dO o hcr ho
     obtain⟨hcv0,holt⟩:=dS hcv
     obtain rfl:cv=Value.slice a n0 c0:=by rw[hv] at hcv0;exact (Option.some.inj hcv0).symm
     have k:=hset (.gone 0) (Value.slice a n0 c0) (fun _=>0) (by unfold VR;exact⟨fun h=>absurd rfl h,fun _=>rfl⟩)
     rw[gW (α:=Value) hcv] at k
     have k2:=hup (row.set o (.gone 0)) _ (by simp) (fun hp=>by
      obtain⟨b,t,arr,_,_,_,_,hh⟩:=hblk hp
      exact wU hh o (by simp[hr])) k
     refine⟨g1,_,hvr,k2,fun b=>?_,slen _ _ _⟩
     show f b+g b=g1 b+(0+g2 b+f2 b)
     rw[hg b,hf b,hff b];omega
    | _=>simp[hrow,ho] at ht
 | pp r p o =>
  simp only[takeC] at ht
  split at ht
  ·rename_i ho
   cases hk:p.getLast? with
   | none=>simp[hk] at ht
   | some k =>
    obtain⟨q,rfl⟩:=List.getLast?_eq_some_iff.1 hk
    simp only[List.dropLast_concat] at ht
    cases hrow:jv e r q with
    | none=>simp[hk,hrow] at ht
    | some row =>
     cases hk1:row[k]? with
     | none=>simp[hk,hrow,hk1] at ht
     | some u =>
      cases u with
      | bx s t cs =>
       simp[hk,hrow,hk1] at ht
       obtain⟨rfl,rfl⟩:=ht
       simp only[VR] at hc
       obtain⟨⟨b0,row0,hw,rfl⟩,hg⟩:=hc
       obtain⟨bo1,row1,v,b,hw1,hv1,hb1,hbr,e1⟩:=lm _ _ _ _ _ _ hw
       obtain⟨bo',cvs,f1,f2,hw',hcr,hf,hup,hblk2⟩:=gI h hsep hrow
       rw[hw1] at hw'
       obtain⟨rfl,rfl⟩:bo1=bo'∧row1=cvs:=by simpa using hw'
       obtain⟨cv,g1,g2,hcv,hvr,hff,hset⟩:=dO k hcr hk1
       obtain⟨hcv0,holt⟩:=dS hcv
       obtain rfl:v=cv:=by rw[hv1] at hcv0;exact Option.some.inj hcv0
       have hvp:v=Value.pointer (some ⟨b0,0,none⟩):=by
        have h0:=hvr
        simp only[VR] at h0
        obtain⟨_,_,b2,arr,f1',rfl,_⟩:=h0
        simp[hblk] at hb1
        simp at e1
        rw[hb1,e1]
       subst ho
       have k3:=hset (.gone 0) v (fun _=>0) (by unfold VR;exact⟨fun h=>absurd rfl h,fun _=>rfl⟩)
       rw[gW (α:=Value) hcv] at k3
       have k2:=hup (row.set k (.gone 0)) _ (by simp) (fun hp=>by
        obtain⟨b,t,arr,_,_,_,_,hh⟩:=hblk2 hp
        exact wU hh k (by simp[hr])) k3
       refine⟨g1,_,by rw[←hvp];exact hvr,k2,fun b=>?_,slen _ _ _⟩
       show f b+g b=g1 b+(0+g2 b+f2 b)
       rw[hg b,hf b,hff b];omega
      | _=>simp[hk,hrow,hk1] at ht
  ·cases ht
 | pf r p o=>simp[takeC] at ht
 | pw r p o lo m sz=>simp[takeC] at ht
 | int k n=>exact same rfl
 | bool b=>exact same rfl
 | str s=>exact same rfl
 | nilf=>exact same rfl
 | nilp=>exact same rfl
 | nsl t=>exact same rfl
 | rsl n cs=>exact same rfl
 | rp cs=>exact same rfl
 | fn g0 cs=>cases cs with
  | nil=>exact same rfl
  | cons c cs=>simp[takeC] at ht
 | osl s t n cs =>
  cases n with
  | succ n=>simp[takeC] at ht
  | zero=>cases cs with
   | nil=>exact same rfl
   | cons c cs=>simp[takeC] at ht
 | dead=>simp[takeC] at ht
 | gone s=>simp[takeC] at ht
 | bx s t cs=>simp[takeC] at ht
 | agg cs=>simp[takeC] at ht
 | tup sh cs=>simp[takeC] at ht
theorem ji:∀ {cs cs':List AV} {e e':Env} {f:Cnt} {vs:List Value} {g:Cnt},CR P w Φ σ ρ e ρ f→(∀ b,f b≤1)→CR P w Φ σ ρ cs vs g→(∀ b,g b=0)→dQ e cs=some (cs',e') →
  ∃ f1 f2:Cnt,CR P w Φ σ ρ cs' vs f1∧CR P w Φ σ ρ e' ρ f2∧(∀ b,f b=f1 b+f2 b)∧e'.length=e.length
 | [],cs',e,e',f,vs,g,h,hsep,hc,hg,ht=>by
  simp[dQ] at ht
  obtain⟨rfl,rfl⟩:=ht
  simp only[CR] at hc
  exact⟨fun _=>0,f,by unfold CR;exact⟨hc.1,fun _=>rfl⟩,h,fun b=>by simp,rfl⟩
 | c::cs,cs',e,e',f,vs,g,h,hsep,hc,hg,ht=>by
  simp only[CR] at hc
  obtain⟨v,vs',g1,g2,rfl,h1,h2,hgg⟩:=hc
  simp only[dQ] at ht
  cases ht1:takeC e c with
  | none=>simp[ht1] at ht
  | some x =>
   obtain⟨c1,e1⟩:=x
   cases ht2:dQ e1 cs with
   | none=>simp[ht1,ht2] at ht
   | some y =>
    obtain⟨cs1,e2⟩:=y
    simp[ht1,ht2] at ht
    obtain⟨rfl,rfl⟩:=ht
    obtain⟨k1,k2,hv,he,hf,hl⟩:=lK h hsep h1 ht1
    have z1:∀ b,g1 b=0:=fun b=>by have:=hg b;have:=hgg b;omega
    have z2:∀ b,g2 b=0:=fun b=>by have:=hg b;have:=hgg b;omega
    obtain⟨m1,m2,hcs,he2,hf2,hl2⟩:=ji he (fun b=>by have:=hsep b;have:=hf b;have:=z1 b;omega) h2 z2 ht2
    refine⟨_,m2,CR_cons hv hcs,he2,fun b=>?_,hl2.trans hl⟩
    show f b=k1 b+m1 b+m2 b
    have:=hf b;have:=hf2 b;have:=z1 b;omega
theorem Nc {e e':Env} {c c':AV} {cv:Value} {f:Cnt} (ht:takeC e c=some (c',e')) (hv:VR P w Φ σ ρ c' cv f):hr c'=false:=by
 have hz:∀ {s t n cs},c'=.osl s t n cs→hr c'=false:=fun h=>by subst h;exact IP hv
 cases c with
 | ps r p o =>
  simp only[takeC] at ht
  split at ht
  ·split at ht
   ·simp at ht;exact hz ht.1.symm
   ·cases ht
  ·cases ht
 | pp r p o =>
  simp only[takeC] at ht
  split at ht
  ·split at ht
   ·split at ht
    ·split at ht
     ·simp at ht;obtain⟨rfl,_⟩:=ht;exact acj hv
     ·cases ht
    ·cases ht
   ·cases ht
  ·cases ht
 | osl s t n cs =>
  cases n with
  | succ n=>simp[takeC] at ht
  | zero=>cases cs with
   | nil=>simp[takeC] at ht;obtain⟨rfl,_⟩:=ht;exact IP hv
   | cons c cs=>simp[takeC] at ht
 | fn g0 cs=>cases cs with
  | nil=>simp[takeC] at ht;obtain⟨rfl,_⟩:=ht;rfl
  | cons c cs=>simp[takeC] at ht
 | _=>simp[takeC] at ht<;>(obtain⟨rfl,_⟩:=ht;rfl)
theorem nK:∀ {cs cs':List AV} {e e':Env} {vs:List Value} {f:Cnt},dQ e cs=some (cs',e')→CR P w Φ σ ρ cs' vs f→hrs cs'=false
 | [],cs',e,e',vs,f,ht,hv=>by simp[dQ] at ht;obtain⟨rfl,_⟩:=ht;rfl
 | c::cs,cs',e,e',vs,f,ht,hv=>by
  simp only[dQ] at ht
  cases ht1:takeC e c with
  | none=>simp[ht1] at ht
  | some x =>
   obtain⟨c1,e1⟩:=x
   cases ht2:dQ e1 cs with
   | none=>simp[ht1,ht2] at ht
   | some y =>
    obtain⟨cs1,e2⟩:=y
    simp[ht1,ht2] at ht
    obtain⟨rfl,rfl⟩:=ht
    simp only[CR] at hv
    obtain⟨v,vs',f1,f2,rfl,h1,h2,_⟩:=hv
    simp only[hrs,Bool.or_eq_false_iff]
    exact⟨Nc ht1 h1,nK ht2 h2⟩
end
end Go.AM
namespace Go.AM
open Go
def yE:Value→AV→Bool
 | .int k n,.int k' n'=>k=k'&&n=n'
 | .bool b,.bool b'=>b==b'
 | .string s,.str l=>s.data.toList==l
 | .slice a n c,.osl s _ n' cs=>a.isNone&&n==0&&c==0&&s==0&&n'==0&&cs.isEmpty
 | .slice a n c,.nsl t=>a.isNone&&n==0&&c==0&&t
 | .nilFunc,.nilf=>true
 | .pointer a,.nilp=>a.isNone
 | _,_=>false
def okX (ν:List Nat):Operand→Opd→Bool
 | .tmp t,.slot j=>ν[j]?==some t
 | .const v,.con av=>yE v av
 | .func f,.con (.fn f' [])=>f==f'
 | _,_=>false
def nI (ν:List Nat):List Operand→List Opd→Bool
 | [],[]=>true
 | x::xs,y::ys=>okX ν x y&&nI ν xs ys
 | _,_=>false
def pY:List Value→List AV→Bool
 | [],[]=>true
 | x::xs,y::ys=>yE x y&&pY xs ys
 | _,_=>false
def ED (ν:List Nat):Option Operand→Option Opd→Bool
 | none,none=>true
 | some x,some y=>okX ν x y
 | _,_=>false
def mi (P:Program) (t:TypeId):Option Nat:=(P.info? t).map (·.size)
def uw (P:Program) (t:TypeId):Option Bool:=(P.underlying t).map fun | .struct _=>true | .array _ _=>true|_=>false
def EI (P:Program) (t:TypeId):Option TypeId:=match P.underlying t with|some (.slice e)=>some e|_=>none
def oW (ν:List Nat) (places:Nat→Option (Nat × Nat)):List (Nat × Operand)→List (Nat × Nat × Opd)→Bool
 | [],[]=>true
 | (i,x)::xs,(off,sz,y)::ys=>(places i==some (off,sz))&&okX ν x y&&oW ν places xs ys
 | _,_=>false
def oN (P:Program) (t:TypeId):Option (List (Nat × Nat)) :=
 match P.underlying t with
 | some (.struct fs)=>fs.toList.mapM fun f=>(mi P f.type).map fun s=>(f.offset,s)
 | some (.array n e)=>(mi P e).map fun s=>(List.range n).map fun i=>(i*s,s)
 | _=>none
def rF (P:Program) (t:TypeId) (zs:List AV):Bool :=
 match (P.info? t).bind (·.zero) with
 | some z=>pY z.cells.toList zs
 | none=>false
def yR (P:Program) (e:TypeId) (sz:Nat):Bool :=
 match P.info? e with
 | some i=>i.size==sz&&decide (0<sz)&&decide (i.bytes≤32768)&&(match i.zero with|some z=>z.cells.size==sz|none=>false)
 | none=>false
def wQ:BinOp→Bool
 | .add | .sub | .mul | .quo | .rem | .eql | .neq | .lss | .leq | .gtr | .geq | .and | .or | .xor | .andNot=>true
 | _=>false
def yN (P:Program):List Nat→List Field→Nat→Bool
 | [],[],_=>true
 | k::ks,f::fs,i=>f.name != "_"&&f.offset==i&&(match k,P.underlying f.type with|0,some (.int _)=>true|1,some .bool=>true|2,some .string=>true|_,_=>false)&&yN P ks fs (i+1)
 | _,_,_=>false
def gz (P:Program) (ν:List Nat) (o:Op):SOp→Bool
 | .mv y=>match o with
  | .move x=>okX ν x y
  | .assign x=>okX ν x y
  | _=>false
 | .asg y=>match o with
  | .move x=>okX ν x y
  | .assign x=>okX ν x y
  | _=>false
 | .pick c a b=>match o with
  | .pick c' a' b'=>okX ν c' c&&okX ν a' a&&okX ν b' b
  | _=>false
 | .mk t z=>match o with
  | .alloc t'=>t==t'&&rF P t z
  | _=>false
 | .box t sz y=>match o with
  | .box t' x=>t==t'&&okX ν x y
  | _=>false
 | .build z ps=>match o with
  | .build t ps'=>rF P t z&&(match oN P t with|some pl=>oW ν (pl[·]?) ps'.toList ps|none=>false)
  | _=>false
 | .bldt z ps=>match o with
  | .build t ps'=>rF P t z&&(match oN P t with|some pl=>oW ν (pl[·]?) ps'.toList ps|none=>false)
  | _=>false
 | .bsl e n z ps=>match o with
  | .buildSlice t n' ps'=>n==n'&&EI P t==some e&&yR P e z.length&&rF P e z&&decide (n*z.length≤16777216)&&oW ν (fun i=>some (i*z.length,z.length)) ps'.toList ps
  | _=>false
 | .load sz ag y=>match o with
  | .load t x=>okX ν x y&&uw P t==some ag&&(if ag then mi P t==some sz else sz==1)
  | _=>false
 | .store sz st y z=>match o with
  | .store t x v=>okX ν x y&&okX ν v z&&mi P t==some sz
  | _=>false
 | .bin op y z=>match o with
  | .binOp op' t a b _=>okX ν a y&&okX ν b z&&decide (op=op')&&wQ op
  | _=>false
 | .beq ne y z=>match o with
  | .binOp op t a b _=>okX ν a y&&okX ν b z&&(match op with | .eql=>!ne | .neq=>ne|_=>false)&&(match P.underlying t with|some .bool=>true|_=>false)
  | _=>false
 | .not y=>match o with
  | .unOp .not _ x=>okX ν x y
  | _=>false
 | .neg y=>match o with
  | .unOp .neg _ x=>okX ν x y
  | _=>false
 | .conv k y=>match o with
  | .convert s t x=>okX ν x y&&(match P.underlying s with|some (.int _)=>true|_=>false)&&(match P.underlying t with|some (.int k')=>k=k'|_=>false)
  | _=>false
 | .mkf f ys=>match o with
  | .makeFunc (.func f') first caps=>f==f'&&first.isEmpty&&nI ν caps.toList ys
  | _=>false
 | .mksl e z l c=>match o with
  | .makeSlice t l' c'=>EI P t==some e&&yR P e z.length&&rF P e z&&okX ν l' l&&okX ν c' c
  | _=>false
 | .slice st sz y lo hi=>match o with
  | .slice t x lo' hi' none=>okX ν x y&&ED ν lo' lo&&ED ν hi' hi&&(match P.underlying t with|some (.slice e)=>!st&&mi P e==some sz|some .string=>st|_=>false)
  | _=>false
 | .faddr off y=>match o with
  | .fieldAddr s x f=>okX ν x y&&(match P.underlying s with|some (.struct fs)=>(match fs[f]? with|some fd=>fd.offset==off&&(match mi P fd.type with|some s=>decide (0<s)|none=>false)|none=>false)|_=>false)
  | _=>false
 | .iaddr sz y i=>match o with
  | .indexAddr t x i'=>okX ν x y&&okX ν i' i&&(match P.underlying t with|some (.slice e)=>mi P e==some sz|_=>false)
  | _=>false
 | .idx y i=>match o with
  | .index t x i'=>okX ν x y&&okX ν i' i&&(match P.underlying t with|some .string=>true|_=>false)
  | _=>false
 | .len st y=>match o with
  | .call c=>(match c.callee,c.args.toList,c.argTypes.toList with
   | .builtin .len,[x],[t]=>okX ν x y&&(match P.underlying t with|some (.slice _)=>!st|some .string=>st|_=>false)
   | _,_,_=>false)
  | _=>false
 | .minmax mx y z=>match o with
  | .call c=>(match c.callee,c.args.toList with
   | .builtin .max,[x1,x2]=>okX ν x1 y&&okX ν x2 z&&mx
   | .builtin .min,[x1,x2]=>okX ν x1 y&&okX ν x2 z&&!mx
   | _,_=>false)
  | _=>false
 | .append e sz y z=>match o with
  | .call c=>(match c.callee,c.args.toList,c.argTypes.toList with
   | .builtin .append,[x1,x2],[t,t']=>okX ν x1 y&&okX ν x2 z&&EI P t==some e&&yR P e sz&&t==t'
   | _,_,_=>false)
  | _=>false
 | .mvt j=>match o with
  | .move x=>okX ν x (.slot j)
  | .assign x=>okX ν x (.slot j)
  | _=>false
 | .ext j ix=>match o with
  | .extract x i=>okX ν x (.slot j)&&i==ix
  | _=>false
 | .aidx sz ag n y i=>match o with
  | .index t x i'=>okX ν x y&&okX ν i' i&&(match P.underlying t with|some (.array n' el)=>n'==n&&mi P el==some sz&&uw P el==some ag&&(ag||sz==1)|_=>false)
  | _=>false
 | .cut sz y hi=>match o with
  | .slice t x none (some hi') none=>okX ν x y&&okX ν hi' hi&&(match P.underlying t with|some (.slice e)=>mi P e==some sz|_=>false)
  | _=>false
 | .appk e sz y z=>match o with
  | .call c=>(match c.callee,c.args.toList,c.argTypes.toList with
   | .builtin .append,[x1,x2],[t,t']=>okX ν x1 y&&okX ν x2 z&&EI P t==some e&&yR P e sz&&t==t'
   | _,_,_=>false)
  | _=>false
 | .cutk sz y hi=>match o with
  | .slice t x none (some hi') none=>okX ν x y&&okX ν hi' hi&&(match P.underlying t with|some (.slice e)=>mi P e==some sz|_=>false)
  | _=>false
 | .sbeq ne ks y z=>match o with
  | .binOp op t a b _=>okX ν a y&&okX ν b z&&(match op with | .eql=>!ne | .neq=>ne|_=>false)&&(match P.underlying t with|some (.struct _)=>true|_=>false)&&!P.stoodInHeld t&&!P.eqGuardType P.depth t&&yN P ks (P.fieldsOf t).toList 0
  | _=>false
 | .pnil ne y=>match o with
  | .binOp op t a (.const (.pointer none)) _=>okX ν a y&&(match op with | .eql=>!ne | .neq=>ne|_=>false)&&(match P.underlying t with|some (.pointer _)=>true|_=>false)
  | _=>false
 | .isnil ne y=>match o with
  | .binOp op t a (.const (.slice none 0 0)) _=>okX ν a y&&(match op with | .eql=>!ne | .neq=>ne|_=>false)&&(match P.underlying t with|some (.slice _)=>true|_=>false)
  | _=>false
 | .nck y=>match o with
  | .nilCheck x=>okX ν x y
  | _=>false
 | .fld off sz ag y=>match o with
  | .field t x f=>okX ν x y&&(match P.underlying t with|some (.struct fs)=>(match fs[f]? with|some fd=>fd.offset==off&&mi P fd.type==some sz&&uw P fd.type==some ag&&(ag||sz==1)|none=>false)|_=>false)
  | _=>false
 | .b2s y=>match o with
  | .convert s t x=>okX ν x y&&(match P.underlying s with|some (.slice el)=>(match P.underlying el with|some (.int .u8)=>true|_=>false)|_=>false)&&(match P.underlying t with|some .string=>true|_=>false)
  | _=>false
section
variable {P : Program} {w : World} {Φ : Nat → Prop} {σ : Nat → Value} {ρ : List Value}
theorem CZ {v:Value} {av:AV} (h:yE v av=true) (f:Cnt) (hf:∀ b,f b=0):VR P w Φ σ ρ av v f:=by
 cases v<;>cases av<;>simp[yE] at h
 ·subst h;unfold VR;exact⟨rfl,hf⟩
 ·obtain⟨rfl,rfl⟩:=h;unfold VR;exact⟨rfl,hf⟩
 ·rename_i s l
  simp only[VR];exact⟨by rw[←h],hf⟩
 ·subst h;unfold VR;exact⟨rfl,hf⟩
 ·rename_i a n c t
  obtain⟨⟨⟨rfl,rfl⟩,rfl⟩,rfl⟩:=h
  simp only[VR]
  exact⟨⟨none,0,rfl,rfl,fun _=>rfl⟩,hf⟩
 ·rename_i a n c s e n' cs
  obtain⟨⟨⟨⟨⟨rfl,rfl⟩,rfl⟩,rfl⟩,rfl⟩,rfl⟩:=h
  simp only[VR]
  refine⟨fun h=>absurd rfl h,rfl,[],fun _=>0,⟨by simp,.inl ⟨rfl,rfl⟩⟩,CR_nil,fun b=>by simp[jF,Value.ownBlock,hf b]⟩
 ·unfold VR;exact⟨rfl,hf⟩
theorem lC:∀ {vs:List Value} {as:List AV},pY vs as=true→CR P w Φ σ ρ as vs (fun _=>0)
 | [],[],_=>CR_nil
 | v::vs,a::as,h=>by
  simp only[pY,Bool.and_eq_true] at h
  have:=CR_cons (CZ h.1 (fun _=>0) (fun _=>rfl) (P:=P) (w:=w) (Φ:=Φ) (σ:=σ) (ρ:=ρ)) (lC h.2)
  simpa using this
 | [],_::_,h=>by simp[pY] at h
 | _::_,[],h=>by simp[pY] at h
def LK (ν:List Nat) (ρ:List Value) (_e:Env) (tmps:Array Value):Prop :=
 ∀ (j:Nat) (cv:Value),ρ[j]?=some cv→cv=unk∨∃ t,ν[j]?=some t∧tmps.getD t undef=cv
theorem Kv {j:Nat} {u:AV} {f:Cnt} (h:VR P w Φ σ ρ u unk f) (cv:Value) (g:Cnt) (hg:∀ b,g b=0):VR P w Φ σ ρ (lzv j u) cv g:=by
 cases u<;>simp only[VR] at h
 ·simpa only[lzv,lz1,VR] using hg
 ·simp only[lzv,lz1,VR];exact⟨fun h=>absurd rfl h,hg⟩
 ·have:=h.1;cases this
 ·have:=h.1;cases this
 ·have:=h.1;cases this
 ·obtain⟨vs,e,_⟩:=h;cases e
 ·have:=h.1;cases this
 ·have:=h.1;cases this
 ·obtain⟨⟨a,c,e,_⟩,_⟩:=h;cases e
 ·obtain⟨⟨a,c,e,_⟩,_⟩:=h;cases e
 ·obtain⟨⟨a,e,_⟩,_⟩:=h;cases e
 ·obtain⟨_,_,xs,f1,ho,_⟩:=h;obtain⟨a,c,e,_⟩:=dF ho;cases e
 ·obtain⟨_,_,b0,arr,f1,e,_⟩:=h;cases e
 ·obtain⟨arr,e,_⟩:=h;cases e
 ·obtain⟨arr,e,_⟩:=h;cases e
 ·obtain⟨⟨bo,row,a,n,c,_,_,e⟩,_⟩:=h;cases e
 ·obtain⟨⟨b0,row,_,e⟩,_⟩:=h;cases e
 ·obtain⟨⟨bo,row,g,fs,cs,_,_,e⟩,_⟩:=h;cases e
 ·obtain⟨⟨bo,row,a,n,c,_,_,_,e⟩,_⟩:=h;cases e
theorem dC {e:Env} {f:Cnt} {ν:List Nat} {a:Act} {x:Operand} {y:Opd} {v:AV} (h:CR P w Φ σ ρ e ρ f) (hl:LK ν ρ e a.tmps) (hx:okX ν x y=true) (hv:ev e y=some v)
  (g:Cnt) (hg:∀ b,g b=0):VR P w Φ σ ρ v (a.eval x) g:=by
 cases y with
 | slot j =>
  cases x<;>simp[okX] at hx
  rename_i t
  simp only[ev] at hv
  cases he:e[j]? with
  | none=>simp[he] at hv
  | some u =>
   simp[he] at hv;subst hv
   obtain⟨cv,hcv,hvr⟩:=TV h he
   rcases hl j cv hcv with rfl|⟨t',ht,hρ⟩
   ·obtain⟨cv',f1,f2,hcv',hv',_⟩:=dO j h he
    rw[hcv] at hcv'
    obtain rfl:=Option.some.inj hcv'
    exact Kv hv' _ g hg
   ·rw[hx] at ht
    obtain rfl:=Option.some.inj ht
    have e1:a.eval (.tmp t)=cv:=hρ
    rw[e1]
    exact hvr g hg
 | con av =>
  simp[ev] at hv;subst hv
  cases x with
  | tmp t=>simp[okX] at hx
  | const u=>exact CZ (v:=u) (by simpa only[okX] using hx) g hg
  | global gg=>simp[okX] at hx
  | func ff =>
   cases av<;>simp[okX] at hx
   rename_i f' cs
   cases cs<;>simp[okX] at hx
   subst hx
   simp only[VR,Act.eval]
   exact⟨#[],rfl,by simp,by unfold CR;exact⟨rfl,hg⟩⟩
theorem JE {e:Env} {f:Cnt} {ν:List Nat} {a:Act} (h:CR P w Φ σ ρ e ρ f) (hl:LK ν ρ e a.tmps):∀ {xs:List Operand} {ys:List Opd} {vs:List AV},nI ν xs ys=true→evs e ys=some vs →
  CR P w Φ σ ρ vs (xs.map a.eval) (fun _=>0)
 | [],[],vs,_,hv=>by simp[evs] at hv;subst hv;exact CR_nil
 | x::xs,y::ys,vs,hx,hv=>by
  simp only[nI,Bool.and_eq_true] at hx
  simp only[evs] at hv
  cases h1:ev e y with
  | none=>simp[h1] at hv
  | some v1 =>
   cases h2:evs e ys with
   | none=>simp[h1,h2] at hv
   | some vs1 =>
    simp[h1,h2] at hv;subst hv
    have:=CR_cons (dC h hl hx.1 h1 (fun _=>0) (fun _=>rfl)) (JE h hl hx.2 h2)
    simpa using this
 | [],_::_,_,hx,_=>by simp[nI] at hx
 | _::_,[],_,hx,_=>by simp[nI] at hx
end
end Go.AM
namespace Go.AM
open Go
section
variable {P : Program} {w : World} {Φ : Nat → Prop} {σ : Nat → Value} {ρ : List Value} {e : Env} {f : Cnt} {ν : List Nat} {a : Act} {o : Oper}
def Yields (P:Program) (w:World) (a:Act) (o:Oper) (cv:Value):Prop:=(execOp a.eval o).run P w=.ok (.value cv) w
theorem jm {k:IntKind} {n:Int} {v:Value} {g:Cnt} (h:VR P w Φ σ ρ (.int k n) v g):v=.int k n:=by simp only[VR] at h;exact h.1
theorem o9 {t:Bool} {v:Value} {g:Cnt} (h:VR P w Φ σ ρ (.bool t) v g):v=.bool t:=by simp only[VR] at h;exact h.1
theorem BM {s:List UInt8} {v:Value} {g:Cnt} (h:VR P w Φ σ ρ (.str s) v g):v=.string ⟨s.toArray⟩:=by simp only[VR] at h;exact h.1
theorem ul {k:IntKind} {n:Int}:∀ g:Cnt,(∀ b,g b=0)→VR P w Φ σ ρ (.int k n) (.int k n) g:=fun g hg=>by unfold VR;exact⟨rfl,hg⟩
theorem wR {t:Bool}:∀ g:Cnt,(∀ b,g b=0)→VR P w Φ σ ρ (.bool t) (.bool t) g:=fun g hg=>by unfold VR;exact⟨rfl,hg⟩
theorem OZ {s:List UInt8}:∀ g:Cnt,(∀ b,g b=0)→VR P w Φ σ ρ (.str s) (.string ⟨s.toArray⟩) g:=fun g hg=>by unfold VR;exact⟨rfl,hg⟩
abbrev gp (P:Program) (w:World) (Φ:Nat→Prop) (σ:Nat→Value) (ρ:List Value) (a:Act) (o:Oper) (v:AV):Prop :=
 ∃ cv,Yields P w a o cv∧∀ g:Cnt,(∀ b,g b=0)→VR P w Φ σ ρ v cv g
section
variable (h : CR P w Φ σ ρ e ρ f) (hl : LK ν ρ e a.tmps)
include h hl
theorem aJb {y:Opd} {v:AV} {e':Env} (hok:gz P ν o.op (.mv y)=true) (hx:opx e (.mv y)=some (v,e')):e'=e∧gp P w Φ σ ρ a o v:=by
 simp only[opx] at hx
 cases hv:ev e y with
 | none=>simp[hv] at hx
 | some u =>
  simp[hv] at hx
  obtain⟨rfl,rfl⟩:=hx
  refine⟨rfl,?_⟩
  simp only[gz] at hok
  split at hok
  ·rename_i x ho
   exact⟨a.eval x,by simp[Yields,execOp,ho],fun g hg=>dC h hl hok hv g hg⟩
  ·rename_i x ho
   exact⟨a.eval x,by simp[Yields,execOp,ho],fun g hg=>dC h hl hok hv g hg⟩
  ·cases hok
theorem adw {c x y:Opd} {v:AV} {e':Env} (hok:gz P ν o.op (.pick c x y)=true) (hx:opx e (.pick c x y)=some (v,e')):e'=e∧gp P w Φ σ ρ a o v:=by
 simp only[opx] at hx
 simp only[gz] at hok
 split at hok
 ·rename_i c' x' y' ho
  simp only[Bool.and_eq_true] at hok
  split at hx
  ·rename_i t hc
   cases hv:ev e (if t=true then x else y) with
   | none=>simp[hv] at hx
   | some u =>
    simp[hv] at hx
    obtain⟨rfl,rfl⟩:=hx
    refine⟨rfl,?_⟩
    have hcv:=o9 (dC h hl hok.1.1 hc (fun _=>0) (fun _=>rfl))
    cases t with
    | true=>exact⟨a.eval x',by simp[Yields,execOp,ho,hcv,asBool],fun g hg=>dC h hl hok.1.2 (by simpa using hv) g hg⟩
    | false=>exact⟨a.eval y',by simp[Yields,execOp,ho,hcv,asBool],fun g hg=>dC h hl hok.2 (by simpa using hv) g hg⟩
  ·cases hx
 ·cases hok
omit h hl in
theorem GY (s:List UInt8):(⟨s.toArray⟩:ByteArray).toList=s:=by
 rw[ByteArray.toList_eq]
omit h hl in
theorem GZ (s s':List UInt8):(⟨s.toArray⟩++⟨s'.toArray⟩:ByteArray)=⟨(s++s').toArray⟩:=by
 apply ByteArray.ext
 rw[ByteArray.data_append]
 simp
def JH:AV→Value
 | .int k n=>.int k n
 | .bool t=>.bool t
 | .str s=>.string ⟨s.toArray⟩
 | _=>undef
omit h hl in
theorem Og {v:AV} (hv:dR v=true) (g:Cnt) (hg:∀ b,g b=0):VR P w Φ σ ρ v (JH v) g:=by
 cases v<;>simp[dR] at hv<;>(unfold VR;exact⟨rfl,hg⟩)
omit h hl in
theorem aaZ {op:BinOp} {u1 u2 v:AV} (hp:wQ op=true) (hb:Iw op u1 u2=some v) {x1 x2:Value} (e1:VR P w Φ σ ρ u1 x1 (fun _=>0)) (e2:VR P w Φ σ ρ u2 x2 (fun _=>0)) (t:TypeId) (xo yo:Operand) :
  ((do eqGuard op t xo yo x1 x2;binOp op t x1 x2):Sem Value).run P w=.ok (JH v) w∧dR v=true:=by
 cases u1<;>cases u2<;>simp only[Iw] at hb<;>try (cases hb;done)
 ·rename_i k n k' n'
  obtain rfl:=jm e1
  obtain rfl:=jm e2
  split at hb
  ·rename_i hk;subst hk
   cases op<;>simp[wQ] at hp<;>simp only[Option.some.injEq] at hb
   case quo =>
    split at hb
    ·cases hb
    ·rename_i hn
     obtain rfl:=Option.some.inj hb
     simp[eqGuard,binOp,Op.intDiv,hn,JH,dR]
   case rem =>
    split at hb
    ·cases hb
    ·rename_i hn
     obtain rfl:=Option.some.inj hb
     simp[eqGuard,binOp,Op.intDiv,hn,JH,dR]
   all_goals
    subst hb
    simp[eqGuard,binOp,Op.intArith,Op.intCmp,Op.intBits,BU,JH,dR]
  ·cases hb
 ·rename_i s s'
  obtain rfl:=BM e1
  obtain rfl:=BM e2
  cases op<;>simp[wQ] at hp<;>simp only[Option.some.injEq] at hb
  case add =>
   split at hb
   ·rename_i hs
    obtain rfl:=Option.some.inj hb
    have e1:(⟨s.toArray⟩:ByteArray).size=s.length:=rfl
    have e2:(⟨s'.toArray⟩:ByteArray).size=s'.length:=rfl
    have hle:(⟨s.toArray⟩:ByteArray).size+(⟨s'.toArray⟩:ByteArray).size≤9223372036854775807:=by
     rw[e1,e2];unfold bnd at hs;omega
    simp[eqGuard,binOp,run_string_add_sum (P:=P) w _ _ hle,JH,dR,GZ]
   ·cases hb
  all_goals first|(cases hb;done)|skip
  all_goals
   subst hb
   simp[eqGuard,binOp,Op.stringOp,GY,JH,dR,bne]
theorem abB {op:BinOp} {x y:Opd} {v:AV} {e':Env} (hok:gz P ν o.op (.bin op x y)=true) (hx:opx e (.bin op x y)=some (v,e')):e'=e∧gp P w Φ σ ρ a o v:=by
 simp only[opx] at hx
 simp only[gz] at hok
 split at hok
 ·rename_i op' t x' y' t' ho
  simp only[Bool.and_eq_true,decide_eq_true_eq] at hok
  obtain⟨⟨⟨hx1,hy1⟩,rfl⟩,hp⟩:=hok
  cases h1:ev e x with
  | none=>simp[h1] at hx
  | some u1 =>
   cases h2:ev e y with
   | none=>simp[h1,h2] at hx
   | some u2 =>
    simp only[h1,h2] at hx
    cases hb:Iw op u1 u2 with
    | none=>simp[hb] at hx
    | some u =>
     simp[hb] at hx
     obtain⟨rfl,rfl⟩:=hx
     obtain⟨hr,hs⟩:=aaZ hp hb (dC h hl hx1 h1 (fun _=>0) (fun _=>rfl)) (dC h hl hy1 h2 (fun _=>0) (fun _=>rfl)) t x' y'
     refine⟨rfl,JH u,?_,Og hs⟩
     unfold Yields
     have e0:execOp a.eval o=(do pure (.value (←(do eqGuard op t x' y' (a.eval x') (a.eval y');binOp op t (a.eval x') (a.eval y'))))):=by simp only[execOp,ho]
     rw[e0,Sem.run_bind,hr]
     rfl
 ·cases hok
theorem au0 {ne:Bool} {x y:Opd} {v:AV} {e':Env} (hok:gz P ν o.op (.beq ne x y)=true) (hx:opx e (.beq ne x y)=some (v,e')):e'=e∧gp P w Φ σ ρ a o v:=by
 simp only[opx] at hx
 simp only[gz] at hok
 split at hok
 ·rename_i op t x' y' t' ho
  simp only[Bool.and_eq_true] at hok
  obtain⟨⟨⟨hx1,hy1⟩,hop⟩,ht⟩:=hok
  split at hx
  ·rename_i a1 b1 h1 h2
   simp at hx
   obtain⟨rfl,rfl⟩:=hx
   have e1:=o9 (dC h hl hx1 h1 (fun _=>0) (fun _=>rfl))
   have e2:=o9 (dC h hl hy1 h2 (fun _=>0) (fun _=>rfl))
   have ht':P.underlying t=some .bool:=by
    split at ht
    ·rename_i h;exact h
    ·cases ht
   have hq:∀ d,(Op.equalIn (d+1) t (.bool a1) (.bool b1)).run P w=.ok (a1==b1) w:=by
    intro d
    unfold Op.equalIn
    rw[Sem.run_bind,run_underlying ht']
    rfl
   have hq':(Op.equal t (.bool a1) (.bool b1)).run P w=.ok (a1==b1) w:=hq 9999
   refine⟨rfl,.bool (if ne then a1 != b1 else a1==b1),?_,wR⟩
   unfold Yields
   cases op<;>simp at hop<;>subst hop
   ·simp[execOp,ho,e1,e2,eqGuard,binOp,hq']
   ·simp[execOp,ho,e1,e2,eqGuard,binOp,hq',bne]
  ·cases hx
 ·cases hok
theorem auR {y:Opd} {v:AV} {e':Env} (hok:gz P ν o.op (.not y)=true) (hx:opx e (.not y)=some (v,e')):e'=e∧gp P w Φ σ ρ a o v:=by
 simp only[opx] at hx
 simp only[gz] at hok
 split at hok
 ·rename_i t x ho
  split at hx
  ·rename_i b hb
   simp at hx
   obtain⟨rfl,rfl⟩:=hx
   have c:=o9 (dC h hl hok hb (fun _=>0) (fun _=>rfl))
   exact⟨rfl,.bool (!b),by simp[Yields,execOp,ho,c,Op.unary],wR⟩
  ·cases hx
 ·cases hok
theorem auS {y:Opd} {v:AV} {e':Env} (hok:gz P ν o.op (.neg y)=true) (hx:opx e (.neg y)=some (v,e')):e'=e∧gp P w Φ σ ρ a o v:=by
 simp only[opx] at hx
 simp only[gz] at hok
 split at hok
 ·rename_i t x ho
  split at hx
  ·rename_i k n hb
   simp at hx
   obtain⟨rfl,rfl⟩:=hx
   have c:=jm (dC h hl hok hb (fun _=>0) (fun _=>rfl))
   exact⟨rfl,.int k (k.wrap (0-n)),by simp[Yields,execOp,ho,c,Op.unary,Op.intArith],by simpa using ul⟩
  ·cases hx
 ·cases hok
theorem ady {k:IntKind} {y:Opd} {v:AV} {e':Env} (hok:gz P ν o.op (.conv k y)=true) (hx:opx e (.conv k y)=some (v,e')):e'=e∧gp P w Φ σ ρ a o v:=by
 simp only[opx] at hx
 simp only[gz] at hok
 split at hok
 ·rename_i s t x ho
  simp only[Bool.and_eq_true] at hok
  obtain⟨⟨hx1,hs⟩,ht⟩:=hok
  split at hx
  ·rename_i k0 n hb
   simp at hx
   obtain⟨rfl,rfl⟩:=hx
   have c:=jm (dC h hl hx1 hb (fun _=>0) (fun _=>rfl))
   split at hs
   ·rename_i ks hus
    split at ht
    ·rename_i k' hut
     simp at ht;subst ht
     exact⟨rfl,.int k (k.wrap n),by simp[Yields,execOp,ho,c,convert,run_underlying hus,run_underlying hut,Conv.intToInt],ul⟩
    ·cases ht
   ·cases hs
  ·cases hx
 ·cases hok
theorem auV {g0:Nat} {ys:List Opd} {v:AV} {e':Env} (hok:gz P ν o.op (.mkf g0 ys)=true) (hx:opx e (.mkf g0 ys)=some (v,e')):e'=e∧gp P w Φ σ ρ a o v:=by
 simp only[opx] at hx
 simp only[gz] at hok
 split at hok
 ·rename_i f' first caps ho
  simp only[Bool.and_eq_true] at hok
  obtain⟨⟨hf,h1⟩,h2⟩:=hok
  cases hv:evs e ys with
  | none=>simp[hv] at hx
  | some vs =>
   simp only[hv] at hx
   by_cases hcap:vs.all oz=true
   case neg=>simp[hcap] at hx
   rw[if_pos hcap] at hx
   simp only[Option.some.injEq,Prod.mk.injEq] at hx
   obtain⟨rfl,rfl⟩:=hx
   have hc:=JE h hl h2 hv
   have hfirst:first=#[]:=by simpa using h1
   subst hfirst
   have hff:g0=f':=by simpa using hf
   subst hff
   refine⟨rfl,.func (.func g0) #[] (caps.map a.eval),by simp[Yields,execOp,ho,Instr.makeFunc],fun g hg=>?_⟩
   simp only[VR]
   exact⟨_,rfl,fun c hc1=>by
    have:=List.all_eq_true.1 hcap c hc1
    simp only[oz,Bool.or_eq_true] at this
    exact this.imp id jY,by rw[Zf hg];simpa using hc⟩
 ·cases hok
theorem TG {off:Nat} {y:Opd} {v:AV} {e':Env} (hok:gz P ν o.op (.faddr off y)=true) (hx:opx e (.faddr off y)=some (v,e')):e'=e∧gp P w Φ σ ρ a o v:=by
 simp only[opx] at hx
 simp only[gz] at hok
 split at hok
 ·rename_i s x fi ho
  simp only[Bool.and_eq_true] at hok
  obtain⟨hx1,hs⟩:=hok
  split at hs
  ·rename_i fs hu
   split at hs
   ·rename_i fd hfd
    simp only[Bool.and_eq_true,beq_iff_eq] at hs
    obtain⟨rfl,hs⟩:=hs
    split at hs
    ·rename_i sz hsz
     simp at hs
     simp only[mi,Option.map_eq_some_iff] at hsz
     obtain⟨i,hi,rfl⟩:=hsz
     have hne:¬i.size=0:=by omega
     split at hx
     ·rename_i cs hv
      split at hx
      ·rename_i hle
       simp at hx
       obtain⟨rfl,rfl⟩:=hx
       have c:=dC h hl hx1 hv (fun _=>0) (fun _=>rfl)
       simp only[VR] at c
       obtain⟨⟨ad,e1,hfc⟩,_⟩:=c
       refine⟨rfl,.pointer (some (ad.add fd.offset)),?_,fun g hg=>?_⟩
       ·simp[Yields,execOp,ho,e1,Instr.fieldAt,run_underlying hu,hfd,Instr.sureAddr,fieldPlace,sizeOf,typeInfo,hi,hne]
       ·simp only[VR]
        refine⟨⟨_,rfl,?_⟩,hg⟩
        have:=AC fd.offset hfc
        simpa using this
      ·cases hx
     ·rename_i r p o0 hv
      simp at hx
      obtain⟨rfl,rfl⟩:=hx
      have c:=dC h hl hx1 hv (fun _=>0) (fun _=>rfl)
      simp only[VR] at c
      obtain⟨⟨b0,row,hw,e1⟩,_⟩:=c
      refine⟨rfl,.pointer (some ⟨b0,o0+fd.offset,none⟩),?_,fun g hg=>?_⟩
      ·simp[Yields,execOp,ho,e1,Instr.fieldAt,run_underlying hu,hfd,Instr.sureAddr,fieldPlace,sizeOf,typeInfo,hi,hne,add_lit]
      ·simp only[VR]
       exact⟨⟨b0,row,hw,rfl⟩,hg⟩
     ·cases hx
    ·cases hs
   ·cases hs
  ·cases hs
 ·cases hok
theorem TF {sz:Nat} {y i:Opd} {v:AV} {e':Env} (hok:gz P ν o.op (.iaddr sz y i)=true) (hsep:∀ b,f b≤1) (hx:opx e (.iaddr sz y i)=some (v,e')):e'=e∧gp P w Φ σ ρ a o v:=by
 simp only[opx] at hx
 simp only[gz] at hok
 split at hok
 ·rename_i t x i' ho
  simp only[Bool.and_eq_true] at hok
  obtain⟨⟨hx1,hi1⟩,hs⟩:=hok
  split at hs
  ·rename_i el hu
   simp only[mi,beq_iff_eq,Option.map_eq_some_iff] at hs
   obtain⟨inf,hinf,rfl⟩:=hs
   split at hx
   ·rename_i n cs k q hv hi
    have c:=dC h hl hx1 hv (fun _=>0) (fun _=>rfl)
    have ci:=jm (dC h hl hi1 hi (fun _=>0) (fun _=>rfl))
    split at hx
    ·rename_i hq
     simp at hx
     obtain⟨rfl,rfl⟩:=hx
     simp only[VR] at c
     obtain⟨⟨ao,cap,e1,hcap,hne,hfc⟩,_⟩:=c
     cases ao with
     | none=>have:=hne rfl;omega
     | some ad =>
      refine⟨rfl,.pointer (some (ad.add (q.toNat*inf.size))),?_,fun g hg=>?_⟩
      ·simp[Yields,execOp,ho,e1,ci,Instr.indexAt,asIntOf,run_underlying hu,hq,sizeOf,typeInfo,hinf]
      ·simp only[VR]
       refine⟨⟨_,rfl,?_⟩,hg⟩
       have:=AC (q.toNat*inf.size) hfc
       simpa using this
    ·cases hx
   ·rename_i r p o0 k q hv hi
    have c:=dC h hl hx1 hv (fun _=>0) (fun _=>rfl)
    have ci:=jm (dC h hl hi1 hi (fun _=>0) (fun _=>rfl))
    cases hrow:jv e r p with
    | none=>simp[hrow] at hx
    | some row =>
     simp only[hrow] at hx
     split at hx
     ·rename_i et n cs hro
      split at hx
      ·rename_i hq
       simp at hx
       obtain⟨rfl,rfl⟩:=hx
       simp only[VR] at c
       obtain⟨⟨bo,row0,ao,n0,c0,hw,hv0,e1⟩,_⟩:=c
       obtain⟨bo',cvs,f1,f2,hw',hcr,hf,_,_⟩:=gI h hsep hrow
       rw[hw] at hw'
       obtain⟨rfl,rfl⟩:bo=bo'∧row0=cvs:=by simpa using hw'
       obtain⟨cv,g1,g2,hcv,hvr,hff,_⟩:=dO o0 hcr hro
       obtain⟨hcv0,_⟩:=dS hcv
       rw[hv0] at hcv0
       obtain rfl:=Option.some.inj hcv0
       simp only[VR] at hvr
       obtain⟨_,_,xs,f1',ho1,_⟩:=hvr
       rcases ho1.2 with ⟨e2,rfl⟩|⟨b,cap,cur,e2,h0,hg,hn,hm,hs,ht⟩
       ·omega
       ·rw[e2] at e1 hv0
        cases e1
        refine⟨rfl,.pointer (some ⟨b,q.toNat*inf.size,none⟩),?_,fun g hg=>?_⟩
        ·simp[Yields,execOp,ho,e2,ci,Instr.indexAt,asIntOf,run_underlying hu,hq,sizeOf,typeInfo,hinf,add_lit]
        ·simp only[VR]
         exact⟨⟨b,cur.toList,pG _ _ _ _ _ _ _ _ _ hw hv0 rfl (by simp[jQ, *]),rfl⟩,hg⟩
      ·cases hx
     ·cases hx
   ·cases hx
  ·cases hs
 ·cases hok
theorem auX {y i:Opd} {v:AV} {e':Env} (hok:gz P ν o.op (.idx y i)=true) (hx:opx e (.idx y i)=some (v,e')):e'=e∧gp P w Φ σ ρ a o v:=by
 simp only[opx] at hx
 simp only[gz] at hok
 split at hok
 ·rename_i t x i' ho
  simp only[Bool.and_eq_true] at hok
  obtain⟨⟨hx1,hi1⟩,hs⟩:=hok
  split at hs
  ·rename_i hu
   split at hx
   ·rename_i s k q hv hi
    have c:=BM (dC h hl hx1 hv (fun _=>0) (fun _=>rfl))
    have ci:=jm (dC h hl hi1 hi (fun _=>0) (fun _=>rfl))
    split at hx
    ·rename_i hq
     simp at hx
     obtain⟨rfl,rfl⟩:=hx
     refine⟨rfl,.int .u8 ((s.getD q.toNat 0).toNat),?_,fun g hg=>?_⟩
     ·have hlt:q.toNat<s.length:=by omega
      have e2:(⟨s.toArray⟩:ByteArray)[q.toNat]?=some s[q.toNat]:=by
       rw[getElem?_pos (⟨s.toArray⟩:ByteArray) q.toNat (by show q.toNat<s.length;exact hlt)]
       rfl
      simp[Yields,execOp,ho,c,ci,Instr.index,asIntOf,run_underlying hu,hq,e2,hlt]
     ·simpa using ul g hg
    ·cases hx
   ·cases hx
  ·cases hs
 ·cases hok
theorem NE {mx:Bool} {y z:Opd} {v:AV} {e':Env} (hok:gz P ν o.op (.minmax mx y z)=true) (hx:opx e (.minmax mx y z)=some (v,e')):e'=e∧gp P w Φ σ ρ a o v:=by
 simp only[opx] at hx
 simp only[gz] at hok
 split at hok
 ·rename_i c ho
  split at hx
  ·rename_i k n k' n' h1 h2
   split at hx
   ·rename_i hk;subst hk
    simp at hx
    obtain⟨rfl,rfl⟩:=hx
    split at hok
    ·rename_i x1 x2 hcal hargs
     simp only[Bool.and_eq_true] at hok
     obtain⟨⟨hx1,hx2⟩,rfl⟩:=hok
     have c1:=jm (dC h hl hx1 h1 (fun _=>0) (fun _=>rfl))
     have c2:=jm (dC h hl hx2 h2 (fun _=>0) (fun _=>rfl))
     refine⟨rfl,.int k (if n' > n then n' else n),?_,by simpa using ul⟩
     have ha:c.args.map a.eval=#[a.eval x1,a.eval x2]:=by
      have:c.args=#[x1,x2]:=by rw[←Array.toArray_toList (xs:=c.args),hargs]
      rw[this];simp
     simp[Yields,execOp,ho,resolve,hcal,ha,invoke,builtin,c1,c2,Builtin.max_,Builtin.max2]
    ·rename_i x1 x2 hcal hargs
     simp only[Bool.and_eq_true,Bool.not_eq_true'] at hok
     obtain⟨⟨hx1,hx2⟩,rfl⟩:=hok
     have c1:=jm (dC h hl hx1 h1 (fun _=>0) (fun _=>rfl))
     have c2:=jm (dC h hl hx2 h2 (fun _=>0) (fun _=>rfl))
     refine⟨rfl,.int k (if n'<n then n' else n),?_,by simpa using ul⟩
     have ha:c.args.map a.eval=#[a.eval x1,a.eval x2]:=by
      have:c.args=#[x1,x2]:=by rw[←Array.toArray_toList (xs:=c.args),hargs]
      rw[this];simp
     simp[Yields,execOp,ho,resolve,hcal,ha,invoke,builtin,c1,c2,Builtin.min_,Builtin.min2]
    ·cases hok
   ·cases hx
  ·cases hx
 ·cases hok
theorem auW {st:Bool} {y:Opd} {v:AV} {e':Env} (hok:gz P ν o.op (.len st y)=true) (hsep:∀ b,f b≤1) (hx:opx e (.len st y)=some (v,e')):e'=e∧gp P w Φ σ ρ a o v:=by
 simp only[opx] at hx
 simp only[gz] at hok
 split at hok
 ·rename_i c ho
  split at hok
  ·rename_i x t hcal hargs htys
   simp only[Bool.and_eq_true] at hok
   obtain⟨hx1,hu⟩:=hok
   have ha:c.args.map a.eval=#[a.eval x]:=by
    have:c.args=#[x]:=by rw[←Array.toArray_toList (xs:=c.args),hargs]
    rw[this];simp
   have hty:c.argTypes=#[t]:=by rw[←Array.toArray_toList (xs:=c.argTypes),htys]
   cases hv:ev e y with
   | none=>simp[hv] at hx
   | some u =>
    simp only[hv] at hx
    cases hn:ry e st u with
    | none=>simp[hn] at hx
    | some n =>
     simp[hn] at hx
     obtain⟨rfl,rfl⟩:=hx
     refine⟨rfl,.int .i64 n,?_,ul⟩
     have c1:=dC h hl hx1 hv (fun _=>0) (fun _=>rfl)
     split at hu
     ·rename_i el hu'
      simp at hu;subst hu
      have slen:∀ (ao:Option Addr) (m cap:Nat),a.eval x=.slice ao m cap→m=n→Yields P w a o (.int .i64 n):=by
       intro ao m cap e1 hm
       subst hm
       simp[Yields,execOp,ho,resolve,hcal,ha,hty,invoke,builtin,e1,Builtin.len_,run_underlying hu',goInt]
      cases u<;>simp[ry] at hn
      ·subst hn
       simp only[VR] at c1
       obtain⟨⟨ao,cap,e1,_⟩,_⟩:=c1
       exact slen _ _ _ e1 rfl
      ·subst hn
       simp only[VR] at c1
       obtain⟨⟨ao,cap,e1,_⟩,_⟩:=c1
       exact slen _ _ _ e1 rfl
      ·rename_i r p o0
       split at hn
       ·rename_i row hrow
        split at hn
        ·rename_i et n1 cs hro
         simp at hn;subst hn
         simp only[VR] at c1
         obtain⟨⟨bo,row0,ao,n0,c0,hw,hv0,e1⟩,_⟩:=c1
         obtain⟨bo',cvs,f1,f2,hw',hcr,hf,_,_⟩:=gI h hsep hrow
         rw[hw] at hw'
         obtain⟨rfl,rfl⟩:bo=bo'∧row0=cvs:=by simpa using hw'
         obtain⟨cv,g1,g2,hcv,hvr,hff,_⟩:=dO o0 hcr hro
         obtain⟨hcv0,_⟩:=dS hcv
         rw[hv0] at hcv0
         obtain rfl:=Option.some.inj hcv0
         simp only[VR] at hvr
         obtain⟨_,_,xs,f1',ho1,_⟩:=hvr
         obtain⟨a2,c2,e2,_⟩:=dF ho1
         exact slen _ _ _ e2 rfl
        ·cases hn
       ·cases hn
     ·rename_i hu'
      subst hu
      cases u<;>simp[ry] at hn
      subst hn
      have e1:=BM c1
      have e2:∀ s:List UInt8,(⟨s.toArray⟩:ByteArray).size=s.length:=fun _=>rfl
      simp[Yields,execOp,ho,resolve,hcal,ha,hty,invoke,builtin,e1,Builtin.len_,run_underlying hu',goInt]
      exact congrArg Int.ofNat (e2 _)
     ·cases hu
  ·cases hok
 ·cases hok
theorem pX {d:Nat} {x:Option Operand} {y:Option Opd} {i:Int} (hok:ED ν x y=true) (hv:zD e d y=some i) :
  (y=none∧x=none∧i=d)∨∃ k x',x=some x'∧a.eval x'=.int k i:=by
 cases y with
 | none =>
  cases x with
  | none=>simp[zD] at hv;exact .inl ⟨rfl,rfl,hv.symm⟩
  | some x=>simp[ED] at hok
 | some y =>
  cases x with
  | none=>simp[ED] at hok
  | some x =>
   simp only[ED] at hok
   simp only[zD] at hv
   split at hv
   ·rename_i k i' h1
    simp at hv;subst hv
    exact .inr ⟨k,x,rfl,jm (dC h hl hok h1 (fun _=>0) (fun _=>rfl))⟩
   ·cases hv
omit h hl in
theorem qL (isSlice:Bool) {len cap:Nat} {lo hi:Option Operand} {l h:Int} (hlo:(lo=none∧l=0)∨∃ k x',lo=some x'∧a.eval x'=.int k l)
  (hhi:(hi=none∧h=len)∨∃ k x',hi=some x'∧a.eval x'=.int k h) (h0:0≤l) (h1:l≤h) (h2:h≤len) (hc:len≤cap) :
  (Instr.sliceBounds isSlice len cap (lo.map a.eval) (hi.map a.eval) none).run P w=.ok (l.toNat,h.toNat,cap) w:=by
 have h3:h≤(cap:Int):=by omega
 have h4:0≤h:=by omega
 have h5:l≤(h.toNat:Int):=by omega
 rcases hlo with ⟨rfl,rfl⟩|⟨k,x',rfl,e1⟩<;>rcases hhi with ⟨rfl,rfl⟩|⟨k',y',rfl,e2⟩
 ·simp[Instr.sliceBounds]
 ·simp[Instr.sliceBounds,Instr.sliceBound,asIntOf,e2,h3,h4]
 ·simp[Instr.sliceBounds,Instr.sliceBound,asIntOf,e1,h0];omega
 ·simp[Instr.sliceBounds,Instr.sliceBound,asIntOf,e1,e2,h0,h3,h4];omega
theorem TC {st:Bool} {sz:Nat} {y:Opd} {lo hi:Option Opd} {v:AV} {e':Env} (hok:gz P ν o.op (.slice st sz y lo hi)=true) (hsep:∀ b,f b≤1) (hx:opx e (.slice st sz y lo hi)=some (v,e')):e'=e∧gp P w Φ σ ρ a o v:=by
 simp only[opx] at hx
 simp only[gz] at hok
 split at hok
 ·rename_i t x lo' hi' ho
  simp only[Bool.and_eq_true] at hok
  obtain⟨⟨⟨hx1,hlo⟩,hhi⟩,hu⟩:=hok
  split at hx
  ·rename_i n cs hv
   split at hx
   ·rename_i l h1 h2 h3
    split at hx
    ·rename_i hb
     simp at hx
     obtain⟨rfl,rfl⟩:=hx
     have c1:=dC h hl hx1 hv (fun _=>0) (fun _=>rfl)
     simp only[VR] at c1
     obtain⟨⟨ao,cap,e1,hcap,hne,hfc⟩,_⟩:=c1
     split at hu
     ·rename_i el hu'
      simp only[Bool.not_false,Bool.true_and,mi,beq_iff_eq,Option.map_eq_some_iff] at hu
      obtain⟨inf,hinf,rfl⟩:=hu
      have k1:(lo'=none∧l=0)∨∃ k x',lo'=some x'∧a.eval x'=.int k l:=by
       rcases pX h hl hlo h2 with ⟨_,e1,e2⟩|e;exact .inl ⟨e1,by simpa using e2⟩;exact .inr e
      have k2:(hi'=none∧h1=n)∨∃ k x',hi'=some x'∧a.eval x'=.int k h1:=by
       rcases pX h hl hhi h3 with ⟨_,e1,e2⟩|e;exact .inl ⟨e1,by simpa using e2⟩;exact .inr e
      have hr:=qL (P:=P) (w:=w) true k1 k2 hb.1 hb.2.1 hb.2.2 hcap
      refine⟨rfl,.slice (if cap=l.toNat then ao else ao.map (·.add (l.toNat*inf.size))) (h1.toNat-l.toNat) (cap-l.toNat),?_,fun g hg=>?_⟩
      ·simp[Yields,execOp,ho,e1,Instr.sliceAt,run_underlying hu',Instr.slice,hr,sizeOf,typeInfo,hinf]
      ·simp only[VR]
       have e3:(h1-l).toNat=h1.toNat-l.toNat:=by omega
       refine⟨⟨_,_,by rw[e3],by omega,fun hn=>?_,?_⟩,hg⟩
       ·split at hn
        ·have:=hne hn;omega
        ·cases ao with
         | none=>have:=hne rfl;omega
         | some ad=>simp at hn
       ·split
        ·rename_i hcl
         have:(h1-l).toNat=0:=by omega
         rw[this];simp only[Nat.zero_mul,List.take_zero,FC]
        ·cases ao with
         | none =>
          have:(h1-l).toNat=0:=by have:=hne rfl;omega
          rw[this];simp only[Nat.zero_mul,List.take_zero,FC]
         | some ad =>
          have:=JQ ((h1-l).toNat*inf.size) (AC (l.toNat*inf.size) hfc)
          simpa using this
     ·cases hu
     ·cases hu
    ·cases hx
   ·cases hx
  ·rename_i r p o0 hv
   split at hx
   ·rename_i row hrow
    split at hx
    ·rename_i s0 et n1 cs hro
     split at hx
     ·rename_i l h1 h2 h3
      split at hx
      ·rename_i hb
       simp at hx
       obtain⟨rfl,rfl⟩:=hx
       have c1:=dC h hl hx1 hv (fun _=>0) (fun _=>rfl)
       have c0:=c1
       simp only[VR] at c1
       obtain⟨⟨bo,row0,ao,n0,cap,hw,hv0,e1⟩,_⟩:=c1
       obtain⟨bo',cvs,f1,f2,hw',hcr,hf,_,_⟩:=gI h hsep hrow
       rw[hw] at hw'
       obtain⟨rfl,rfl⟩:bo=bo'∧row0=cvs:=by simpa using hw'
       obtain⟨cv,g1,g2,hcv,hvr,hff,_⟩:=dO o0 hcr hro
       obtain⟨hcv0,_⟩:=dS hcv
       rw[hv0] at hcv0
       obtain rfl:=Option.some.inj hcv0
       simp only[VR] at hvr
       obtain⟨_,_,xs,f1',ho1,_⟩:=hvr
       obtain⟨a2,c2,e2,hcap,hne,_⟩:=dF ho1
       rw[e1] at e2
       cases e2
       split at hu
       ·rename_i el hu'
        simp only[Bool.not_false,Bool.true_and,mi,beq_iff_eq,Option.map_eq_some_iff] at hu
        obtain⟨inf,hinf,rfl⟩:=hu
        have k1:(lo'=none∧l=0)∨∃ k x',lo'=some x'∧a.eval x'=.int k l:=by
         rcases pX h hl hlo h2 with ⟨_,e1,e2⟩|e;exact .inl ⟨e1,by simpa using e2⟩;exact .inr e
        have k2:(hi'=none∧h1=n1)∨∃ k x',hi'=some x'∧a.eval x'=.int k h1:=by
         rcases pX h hl hhi h3 with ⟨_,e1,e2⟩|e;exact .inl ⟨e1,by simpa using e2⟩;exact .inr e
        have hr:=qL (P:=P) (w:=w) true k1 k2 hb.1 hb.2.1 hb.2.2 hcap
        refine⟨rfl,.slice (if cap=l.toNat then ao else ao.map (·.add (l.toNat*inf.size))) (h1.toNat-l.toNat) (cap-l.toNat),?_,fun g hg=>?_⟩
        ·simp[Yields,execOp,ho,e1,Instr.sliceAt,run_underlying hu',Instr.slice,hr,sizeOf,typeInfo,hinf]
        ·have e3:(h1-l).toNat=h1.toNat-l.toNat:=by omega
         rw[e1] at c0
         refine VR_pw.2 ⟨ao,n1,cap,?_,by omega,by rw[e3]⟩
         simp only[VR] at c0 ⊢
         exact⟨c0.1,hg⟩
       ·cases hu
       ·cases hu
      ·cases hx
     ·cases hx
    ·cases hx
   ·cases hx
  ·rename_i s hv
   split at hx
   ·rename_i l h1 h2 h3
    split at hx
    ·rename_i hb
     simp at hx
     obtain⟨rfl,rfl⟩:=hx
     have e1:=BM (dC h hl hx1 hv (fun _=>0) (fun _=>rfl))
     split at hu
     ·simp at hu
     ·rename_i hu'
      have k1:(lo'=none∧l=0)∨∃ k x',lo'=some x'∧a.eval x'=.int k l:=by
       rcases pX h hl hlo h2 with ⟨_,e1,e2⟩|e;exact .inl ⟨e1,by simpa using e2⟩;exact .inr e
      have k2:(hi'=none∧h1=s.length)∨∃ k x',hi'=some x'∧a.eval x'=.int k h1:=by
       rcases pX h hl hhi h3 with ⟨_,e1,e2⟩|e;exact .inl ⟨e1,by simpa using e2⟩;exact .inr e
      have hr:=qL (P:=P) (w:=w) false k1 k2 hb.1 hb.2.1 hb.2.2 (Nat.le_refl _)
      have e2:(⟨s.toArray⟩:ByteArray).size=s.length:=rfl
      have e3:(⟨s.toArray⟩:ByteArray).extract l.toNat h1.toNat=⟨((s.drop l.toNat).take (h1-l).toNat).toArray⟩:=by
       apply ByteArray.ext
       rw[ByteArray.data_extract]
       have:(h1-l).toNat=h1.toNat-l.toNat:=by omega
       rw[this]
       simp[List.extract_eq_take_drop]
      refine⟨rfl,.string ⟨((s.drop l.toNat).take (h1-l).toNat).toArray⟩,?_,OZ⟩
      simp[Yields,execOp,ho,e1,Instr.sliceAt,run_underlying hu',Instr.slice,e2,hr,e3]
     ·cases hu
    ·cases hx
   ·cases hx
  ·cases hx
 ·cases hok
omit h hl in
theorem rY {t:TypeId} {sz:Nat} {ag:Bool} (hag:uw P t=some ag) (hsz:(if ag then mi P t==some sz else sz==1)=true) {ad:Addr} {us:List Value} (hu:us.length=sz)
  (hc:∀ i u,us[i]?=some u→w.cell? (ad.add i)=some u):(loadVar t ad).run P w=.ok (if ag then .agg us.toArray else us.headD undef) w:=by
 simp only[uw,Option.map_eq_some_iff] at hag
 obtain⟨d,hd,hag⟩:=hag
 have hisagg:(isAgg t).run P w=.ok ag w:=by
  unfold isAgg
  rw[Sem.run_bind,run_underlying hd]
  simp only[Result.andThen_ok]
  subst hag
  cases d<;>rfl
 cases ag with
 | true =>
  simp only[if_true,mi,beq_iff_eq,Option.map_eq_some_iff] at hsz
  obtain⟨inf,hinf,hs⟩:=hsz
  have hl:=run_loadCells_list (P:=P) w ad us hc
  unfold loadVar
  rw[Sem.run_bind,hisagg]
  simp[sizeOf,typeInfo,hinf,hs,←hu,hl]
 | false =>
  simp at hsz;subst hsz
  match us,hu with
  | [u],_ =>
   have:=hc 0 u rfl
   rw[show ad.add 0=ad by simp[Addr.add]] at this
   unfold loadVar
   rw[Sem.run_bind,hisagg]
   simp[this]
omit h hl in
theorem zS {ag:Bool} {cs:List AV} {v:AV} {us:List Value} (hm:mkv ag cs=some v) (hc:CR P w Φ σ ρ cs us (fun _=>0)) (g:Cnt) (hg:∀ b,g b=0) :
  VR P w Φ σ ρ v (if ag then .agg us.toArray else us.headD undef) g:=by
 rw[Zf hg]
 cases ag with
 | true =>
  simp[mkv] at hm;subst hm
  simp only[if_true,VR]
  exact⟨_,rfl,by simpa using hc⟩
 | false =>
  simp[mkv] at hm
  split at hm
  ·rename_i c
   simp at hm;subst hm
   simp only[CR] at hc
   obtain⟨u,us',f1,f2,rfl,h1,⟨rfl,h2⟩,h3⟩:=hc
   have:f1=fun _=>0:=funext fun b=>by have:0=f1 b+f2 b:=h3 b;omega
   simpa [this] using h1
  ·cases hm
theorem adx {sz:Nat} {ag:Bool} {y:Opd} {v:AV} {e':Env} (hok:gz P ν o.op (.load sz ag y)=true) (hsep:∀ b,f b≤1) (hx:opx e (.load sz ag y)=some (v,e')):e'=e∧gp P w Φ σ ρ a o v:=by
 simp only[opx] at hx
 simp only[gz] at hok
 split at hok
 ·rename_i t x ho
  simp only[Bool.and_eq_true,beq_iff_eq] at hok
  obtain⟨⟨hx1,hag⟩,hsz⟩:=hok
  split at hx
  ·rename_i cs hv
   split at hx
   ·rename_i hle
    split at hx
    ·rename_i u hm
     simp at hx
     obtain⟨rfl,rfl⟩:=hx
     have c1:=dC h hl hx1 hv (fun _=>0) (fun _=>rfl)
     simp only[VR] at c1
     obtain⟨⟨ad,e1,hfc⟩,_⟩:=c1
     obtain⟨us,h1,h2⟩:=GH (JQ sz hfc)
     have hlen:us.length=sz:=by rw[←dm h1];simp;omega
     have hr:=rY (P:=P) (w:=w) hag hsz hlen (fun i u hi=>by have:=h2 i u hi;rwa [Nat.zero_add] at this)
     exact⟨rfl,_,by simp only[Yields,execOp,ho,e1,Instr.loadAt,Instr.sureAddr];simp only[pure_bind,Sem.run_bind,hr,Result.andThen_ok];rfl,fun g hg=>zS hm h1 g hg⟩
    ·cases hx
   ·cases hx
  ·rename_i r p o0 hv
   split at hx
   ·rename_i row hrow
    split at hx
    ·rename_i hle
     split at hx
     ·rename_i u hm
      simp at hx
      obtain⟨rfl,rfl⟩:=hx
      have c1:=dC h hl hx1 hv (fun _=>0) (fun _=>rfl)
      simp only[VR] at c1
      obtain⟨⟨b0,row0,hw,e1⟩,_⟩:=c1
      obtain⟨bo',cvs,f1,f2,hw',hcr,hf,_,hblk⟩:=gI h hsep hrow
      have hw2:=hw
      rw[hw] at hw'
      obtain⟨rfl,rfl⟩:some b0=bo'∧row0=cvs:=by simpa using hw'
      have hp:p≠[]:=by
       rintro rfl
       simp[walk] at hw
      obtain⟨b,tt,arr,e2,hheap,rfl,_,_⟩:=hblk hp
      obtain rfl:=Option.some.inj e2
      obtain⟨k1,k2,hc1,hc2,hk⟩:=dM o0 hcr
      obtain⟨m1,m2,hd1,hd2,hm2⟩:=dM sz hc2
      have hlz:=ru hw2 _ o0 _ _ (fun _=>0) hd1 (fun i u hi=>by
       rw[List.getElem?_take] at hi
       split at hi
       ·rw[List.getElem?_drop,List.getElem?_take] at hi
        split at hi
        ·exact hi
        ·cases hi
       ·cases hi) (fun _=>rfl)
      have hlen:(((arr.toList.take row.length).drop o0).take sz).length=sz:=by
       have:=dm hcr
       simp only[List.length_take,List.length_drop] at this ⊢
       omega
      have hr:=rY (P:=P) (w:=w) (ad:=⟨b0,o0,none⟩) hag hsz hlen (fun i u hi=>by
       rw[add_lit,cell_of_row w b0 _ arr tt (0,0) hheap]
       rw[List.getElem?_take] at hi
       split at hi
       ·rw[List.getElem?_drop,List.getElem?_take] at hi
        split at hi
        ·simpa using hi
        ·cases hi
       ·cases hi)
      exact⟨rfl,_,by simp only[Yields,execOp,ho,e1,Instr.loadAt,Instr.sureAddr];simp only[pure_bind,Sem.run_bind,hr,Result.andThen_ok];rfl,fun g hg=>zS hm hlz g hg⟩
     ·cases hx
    ·cases hx
   ·cases hx
  ·cases hx
 ·cases hok
omit h hl in
theorem JD:∀ {vs:List Value} {ix:Nat} {v:Value},vs[ix]?=some v→∃ rest,(oq vs).drop (uV (vs.map shp) ix)=v.cells.toList++rest
 | v0::vs,0,v,h=>by simp at h;subst h;exact⟨oq vs,by simp[uV,oq]⟩
 | v0::vs,ix+1,v,h=>by
  simp at h
  obtain⟨rest,hr⟩:=JD h
  refine⟨rest,?_⟩
  have e1:(v0.cells.toList).length=(shp v0).getD 1:=by cases v0<;>rfl
  simp only[List.map_cons,uV,oq,List.flatMap_cons]
  rw[List.drop_append,←e1]
  have:List.drop (v0.cells.toList.length+uV (List.map shp vs) ix) v0.cells.toList=[]:=List.drop_of_length_le (by omega)
  rw[this,List.nil_append,show v0.cells.toList.length+uV (List.map shp vs) ix-v0.cells.toList.length=uV (List.map shp vs) ix by omega]
  exact hr
theorem auU {j:Nat} {v:AV} {e':Env} (hok:gz P ν o.op (.mvt j)=true) (hx:opx e (.mvt j)=some (v,e')):e'=e∧gp P w Φ σ ρ a o v:=by
 simp only[opx] at hx
 split at hx
 ·rename_i sh cs hej
  simp only[Option.some.injEq,Prod.mk.injEq] at hx
  obtain⟨rfl,rfl⟩:=hx
  refine⟨rfl,?_⟩
  obtain⟨cv,g1,g2,hcv,hvr,_,_⟩:=dO j h hej
  simp only[VR] at hvr
  obtain⟨arr,rfl,hsh,hcs⟩:=hvr
  have hro:rowOf ρ j=oq arr.toList:=by simp[rowOf,hcv,gB]
  have hw:walk w none (rowOf ρ j) []=some (none,oq arr.toList):=by rw[hro];rfl
  have hrel:∀ g,(∀ b,g b=0)→VR P w Φ σ ρ (.tup sh (lzc j [] 0 cs)) (.tuple arr) g:=fun g hg=>by
   simp only[VR]
   exact⟨arr,rfl,hsh,ru hw cs 0 _ _ _ hcs (fun i v hi=>by simpa using hi) hg⟩
  have hev:∀ x,okX ν x (.slot j)=true→a.eval x=.tuple arr:=by
   intro x hx1
   cases x<;>simp[okX] at hx1
   rename_i t
   rcases hl j _ hcv with hu|⟨t',ht,he⟩
   ·cases hu
   ·rw[hx1] at ht;obtain rfl:=Option.some.inj ht;exact he
  simp only[gz] at hok
  split at hok
  ·rename_i x ho
   exact⟨a.eval x,by simp[Yields,execOp,ho],fun g hg=>by rw[hev x hok];exact hrel g hg⟩
  ·rename_i x ho
   exact⟨a.eval x,by simp[Yields,execOp,ho],fun g hg=>by rw[hev x hok];exact hrel g hg⟩
  ·cases hok
 ·cases hx
theorem auZ {j ix:Nat} {v:AV} {e':Env} (hok:gz P ν o.op (.ext j ix)=true) (hx:opx e (.ext j ix)=some (v,e')):e'=e∧gp P w Φ σ ρ a o v:=by
 simp only[opx] at hx
 simp only[gz] at hok
 split at hok
 ·rename_i x i ho
  simp only[Bool.and_eq_true,beq_iff_eq] at hok
  obtain⟨hx1,rfl⟩:=hok
  split at hx
  ·rename_i sh cs hej
   obtain⟨cv,g1,g2,hcv,hvr,_,_⟩:=dO j h hej
   simp only[VR] at hvr
   obtain⟨arr,rfl,hsh,hcs⟩:=hvr
   have hro:rowOf ρ j=oq arr.toList:=by simp[rowOf,hcv,gB]
   have hw:walk w none (rowOf ρ j) []=some (none,oq arr.toList):=by rw[hro];rfl
   cases x<;>simp[okX] at hx1
   rename_i t
   have hlen:arr.toList.length=sh.length:=by rw[←hsh];simp
   have hev:∀ (ix:Nat) (v:Value),arr.toList[ix]?=some v→a.eval (.tmp t)=.tuple arr:=by
    intro ix v hv
    rcases hl j _ hcv with hu|⟨t',ht,he⟩
    ·cases hu
    ·rw[hx1] at ht;obtain rfl:=Option.some.inj ht;exact he
   cases hs:sh[i]? with
   | none=>simp[hs] at hx
   | some n =>
    have hi1:i<arr.toList.length:=by rw[hlen];exact (List.getElem?_eq_some_iff.1 hs).1
    obtain⟨u,hu⟩:∃ u,arr.toList[i]?=some u:=⟨_,List.getElem?_eq_getElem hi1⟩
    have hshu:shp u=n:=by
     have:(arr.toList.map shp)[i]?=some (shp u):=by simp[hu]
     rw[hsh,hs] at this;exact (Option.some.inj this).symm
    obtain⟨rest,hrest⟩:=JD hu
    rw[hsh] at hrest
    have e1:=hev i u hu
    have hrun:Yields P w a o u:=by
     have hu2:arr[i]?=some u:=by rw[←Array.getElem?_toList];exact hu
     simp[Yields,execOp,ho,e1,Instr.extract,hu2]
    cases n with
    | none =>
     simp only[hs] at hx
     cases hc:cs[uV sh i]? with
     | none=>simp[hc] at hx
     | some c =>
      simp[hc] at hx
      obtain⟨rfl,rfl⟩:=hx
      obtain⟨cv2,q1,q2,hcv2,hv2,_,_⟩:=dO _ hcs hc
      have hcell:u.cells.toList=[u]:=by cases u<;>first|rfl|(simp[shp] at hshu)
      have e2:(oq arr.toList)[uV sh i]?=some u:=by
       have:((oq arr.toList).drop (uV sh i))[0]?=some u:=by rw[hrest,hcell];rfl
       simpa using this
      rw[e2] at hcv2
      obtain rfl:=Option.some.inj hcv2
      exact⟨rfl,u,hrun,fun g hg=>zV hw e2 hv2 g hg⟩
    | some n =>
     simp only[hs] at hx
     split at hx
     ·rename_i hle
      simp at hx
      obtain⟨rfl,rfl⟩:=hx
      cases u<;>simp[shp] at hshu
      rename_i arr2
      obtain⟨k1,k2,hc1,hc2,hk⟩:=dM (uV sh i) hcs
      obtain⟨m1,m2,hd1,hd2,hm2⟩:=dM n hc2
      have e3:((oq arr.toList).drop (uV sh i)).take n=arr2.toList:=by
       rw[hrest,←hshu]
       simp[Value.cells]
      refine⟨rfl,.agg arr2,hrun,fun g hg=>?_⟩
      simp only[VR]
      refine⟨arr2,rfl,?_⟩
      have:=ru hw _ (uV sh i) _ _ g hd1 (fun q u hq=>by
       rw[List.getElem?_take] at hq
       split at hq
       ·rwa [List.getElem?_drop] at hq
       ·cases hq) hg
      rwa [e3] at this
     ·cases hx
  ·cases hx
 ·cases hok
theorem adz {sz:Nat} {ag:Bool} {n:Nat} {y i:Opd} {v:AV} {e':Env} (hok:gz P ν o.op (.aidx sz ag n y i)=true) (hx:opx e (.aidx sz ag n y i)=some (v,e')):e'=e∧gp P w Φ σ ρ a o v:=by
 simp only[opx] at hx
 simp only[gz] at hok
 split at hok
 ·rename_i t x i' ho
  simp only[Bool.and_eq_true] at hok
  obtain⟨⟨hx1,hi1⟩,hs⟩:=hok
  split at hs
  ·rename_i n' el hu
   simp only[Bool.and_eq_true,beq_iff_eq] at hs
   obtain⟨⟨⟨rfl,hsz⟩,hag⟩,hone⟩:=hs
   simp only[mi,Option.map_eq_some_iff] at hsz
   obtain⟨inf,hinf,rfl⟩:=hsz
   split at hx
   ·rename_i cs k q hv hi
    have c:=dC h hl hx1 hv (fun _=>0) (fun _=>rfl)
    have ci:=jm (dC h hl hi1 hi (fun _=>0) (fun _=>rfl))
    split at hx
    ·rename_i hq
     split at hx
     ·rename_i u hm
      simp at hx
      obtain⟨rfl,rfl⟩:=hx
      simp only[VR] at c
      obtain⟨arr,e1,hcr⟩:=c
      obtain⟨k1,k2,hc1,hc2,hk⟩:=dM (q.toNat*inf.size) hcr
      obtain⟨m1,m2,hd1,hd2,hm2⟩:=dM inf.size hc2
      have z1:m1=fun _=>0:=funext fun b=>by have:0=k1 b+k2 b:=hk b;have:=hm2 b;omega
      rw[z1] at hd1
      have hlen:q.toNat*inf.size+inf.size≤arr.toList.length:=by rw[←dm hcr];exact hq.2.2
      simp only[uw,Option.map_eq_some_iff] at hag
      obtain⟨d,hd,hag⟩:=hag
      have hisagg:(isAgg el).run P w=.ok ag w:=by
       unfold isAgg
       rw[Sem.run_bind,run_underlying hd]
       simp only[Result.andThen_ok]
       subst hag
       cases d<;>rfl
      refine⟨rfl,(if ag then .agg ((arr.toList.drop (q.toNat*inf.size)).take inf.size).toArray else ((arr.toList.drop (q.toNat*inf.size)).take inf.size).headD undef),?_,fun g hg=>zS hm hd1 g hg⟩
      have hpart:(part el arr (q.toNat*inf.size)).run P w=.ok (if ag then .agg ((arr.toList.drop (q.toNat*inf.size)).take inf.size).toArray else ((arr.toList.drop (q.toNat*inf.size)).take inf.size).headD undef) w:=by
       unfold part
       rw[Sem.run_bind,hisagg]
       simp only[Result.andThen_ok]
       cases ag with
       | true =>
        simp only[if_true]
        rw[Sem.run_bind]
        simp only[sizeOf,typeInfo]
        simp[hinf]
        apply Array.ext'
        simp[Array.toList_extract,List.extract_eq_take_drop]
       | false =>
        simp at hone
        rw[hone] at hlen ⊢
        have hlt:q.toNat*1<arr.size:=by simp at hlen;omega
        simp only[Bool.false_eq_true,if_false]
        have:arr[q.toNat*1]?=some (arr[q.toNat*1]'hlt):=Array.getElem?_eq_getElem hlt
        rw[this]
        have e2:arr.toList.drop (q.toNat*1)=arr[q.toNat*1]::arr.toList.drop (q.toNat*1+1):=by
         rw[List.drop_eq_getElem_cons (by simpa using hlt)];simp
        rw[e2];simp
      have hb:0≤q∧q<(n':Int):=⟨hq.1,hq.2.1⟩
      simp[Yields,execOp,ho,e1,ci,Instr.index,asIntOf,run_underlying hu,hb,sizeOf,typeInfo,hinf,hpart]
     ·cases hx
    ·cases hx
   ·cases hx
  ·cases hs
 ·cases hok
theorem auT {y:Opd} {v:AV} {e':Env} (hok:gz P ν o.op (.nck y)=true) (hx:opx e (.nck y)=some (v,e')):e'=e∧gp P w Φ σ ρ a o v:=by
 simp only[opx] at hx
 simp only[gz] at hok
 split at hok
 ·rename_i x ho
  split at hx
  ·rename_i cs hv
   simp at hx
   obtain⟨rfl,rfl⟩:=hx
   have c:=dC h hl hok hv
   have c0:=c (fun _=>0) (fun _=>rfl)
   simp only[VR] at c0
   obtain⟨⟨ad,e1,_⟩,_⟩:=c0
   refine⟨rfl,_,?_,fun g hg=>c g hg⟩
   simp[Yields,execOp,ho,e1]
  ·rename_i r p o0 hv
   simp at hx
   obtain⟨rfl,rfl⟩:=hx
   have c:=dC h hl hok hv
   have c0:=c (fun _=>0) (fun _=>rfl)
   simp only[VR] at c0
   obtain⟨⟨b0,row,hw,e1⟩,_⟩:=c0
   refine⟨rfl,_,?_,fun g hg=>c g hg⟩
   simp[Yields,execOp,ho,e1]
  ·cases hx
 ·cases hok
theorem auY {off sz:Nat} {ag:Bool} {y:Opd} {v:AV} {e':Env} (hok:gz P ν o.op (.fld off sz ag y)=true) (hx:opx e (.fld off sz ag y)=some (v,e')):e'=e∧gp P w Φ σ ρ a o v:=by
 simp only[opx] at hx
 simp only[gz] at hok
 split at hok
 ·rename_i t x fi ho
  simp only[Bool.and_eq_true] at hok
  obtain⟨hx1,hs⟩:=hok
  split at hs
  ·rename_i fs hu
   split at hs
   ·rename_i fd hfd
    simp only[Bool.and_eq_true,beq_iff_eq] at hs
    obtain⟨⟨⟨rfl,hsz⟩,hag⟩,hone⟩:=hs
    simp only[mi,Option.map_eq_some_iff] at hsz
    obtain⟨inf,hinf,rfl⟩:=hsz
    split at hx
    ·rename_i cs hv
     have c:=dC h hl hx1 hv (fun _=>0) (fun _=>rfl)
     split at hx
     ·rename_i hq
      split at hx
      ·rename_i u hm
       simp at hx
       obtain⟨rfl,rfl⟩:=hx
       simp only[VR] at c
       obtain⟨arr,e1,hcr⟩:=c
       obtain⟨k1,k2,hc1,hc2,hk⟩:=dM fd.offset hcr
       obtain⟨m1,m2,hd1,hd2,hm2⟩:=dM inf.size hc2
       have z1:m1=fun _=>0:=funext fun b=>by have:0=k1 b+k2 b:=hk b;have:=hm2 b;omega
       rw[z1] at hd1
       have hlen:fd.offset+inf.size≤arr.toList.length:=by rw[←dm hcr];exact hq
       simp only[uw,Option.map_eq_some_iff] at hag
       obtain⟨d,hd,hag⟩:=hag
       have hisagg:(isAgg fd.type).run P w=.ok ag w:=by
        unfold isAgg
        rw[Sem.run_bind,run_underlying hd]
        simp only[Result.andThen_ok]
        subst hag
        cases d<;>rfl
       refine⟨rfl,(if ag then .agg ((arr.toList.drop fd.offset).take inf.size).toArray else ((arr.toList.drop fd.offset).take inf.size).headD undef),?_,fun g hg=>zS hm hd1 g hg⟩
       have hpart:(part fd.type arr fd.offset).run P w=.ok (if ag then .agg ((arr.toList.drop fd.offset).take inf.size).toArray else ((arr.toList.drop fd.offset).take inf.size).headD undef) w:=by
        unfold part
        rw[Sem.run_bind,hisagg]
        simp only[Result.andThen_ok]
        cases ag with
        | true =>
         simp only[if_true]
         rw[Sem.run_bind]
         simp only[sizeOf,typeInfo]
         simp[hinf]
         apply Array.ext'
         simp[Array.toList_extract,List.extract_eq_take_drop]
        | false =>
         simp at hone
         rw[hone] at hlen ⊢
         have hlt:fd.offset<arr.size:=by simp at hlen;omega
         simp only[Bool.false_eq_true,if_false]
         have:arr[fd.offset]?=some (arr[fd.offset]'hlt):=Array.getElem?_eq_getElem hlt
         rw[this]
         have e2:arr.toList.drop fd.offset=arr[fd.offset]::arr.toList.drop (fd.offset+1):=by
          rw[List.drop_eq_getElem_cons (by simpa using hlt)];simp
         rw[e2];simp
       simp[Yields,execOp,ho,e1,Instr.field,asAgg,run_underlying hu,hfd,hpart]
      ·cases hx
     ·cases hx
    ·cases hx
   ·cases hs
  ·cases hs
 ·cases hok
omit h hl in
theorem yu:∀ {cs:List AV} {l:List UInt8} {us:List Value} {f:Cnt},bytesOf cs=some l→CR P w Φ σ ρ cs us f→∃ ns:List Int,us=ns.map (Value.int .u8)∧l=ns.map (fun n=>UInt8.ofNat n.toNat)
 | [],l,us,f,hb,hc=>by
  simp[bytesOf] at hb
  simp only[CR] at hc
  exact⟨[],by simp[hc.1],by simp[←hb]⟩
 | c::cs,l,us,f,hb,hc=>by
  simp only[CR] at hc
  obtain⟨v,vs,f1,f2,rfl,h1,h2,_⟩:=hc
  cases c with
  | int k n =>
   cases k<;>simp[bytesOf] at hb
   split at hb
   ·rename_i l1 h3
    obtain⟨ns,rfl,rfl⟩:=yu h3 h2
    have:=jm h1
    simp at hb
    exact⟨n::ns,by simp[this],by simp[←hb]⟩
   ·cases hb
  | _=>simp[bytesOf] at hb
omit h hl in
theorem Ib (ns:List Int):∀ (s:ByteArray),ns.foldl (fun r n=>r.push (UInt8.ofNat n.toNat)) s=⟨s.data++(ns.map (fun n=>UInt8.ofNat n.toNat)).toArray⟩:=by
 induction ns with
 | nil=>intro s;simp
 | cons n ns ih=>intro s;simp only[List.foldl_cons,ih];apply ByteArray.ext;simp
omit h hl in
theorem TP {u:AV} {b:Bool} {cv:Value} (h:CR P w Φ σ ρ e ρ f) (hsep:∀ b,f b≤1) (hn:MN e u=some b) (c1:VR P w Φ σ ρ u cv (fun _=>0)):∃ a n c,cv=.slice a n c∧a.isNone=b:=by
 have key:∀ {m:Nat},ry e false u=some (m+1)→∃ a n c,cv=.slice a n c∧a.isNone=false:=by
  intro m hl
  cases u<;>simp[ry] at hl
  ·subst hl
   simp only[VR] at c1
   obtain⟨⟨ao,cap,e1,_,h0,_⟩,_⟩:=c1
   refine⟨_,_,_,e1,?_⟩
   cases ao with
   | none=>have:=(h0 rfl).1;omega
   | some ad=>rfl
  ·rename_i r p o0
   split at hl
   ·rename_i row hrow
    split at hl
    ·rename_i et n1 cs hro
     simp at hl;subst hl
     simp only[VR] at c1
     obtain⟨⟨bo,row0,ao,n0,c0,hw,hv0,e1⟩,_⟩:=c1
     obtain⟨bo',cvs,f1,f2,hw',hcr,hf,_,_⟩:=gI h hsep hrow
     rw[hw] at hw'
     obtain⟨rfl,rfl⟩:bo=bo'∧row0=cvs:=by simpa using hw'
     obtain⟨cv',g1,g2,hcv,hvr,hff,_⟩:=dO o0 hcr hro
     obtain⟨hcv0,_⟩:=dS hcv
     rw[hv0] at hcv0
     obtain rfl:=Option.some.inj hcv0
     simp only[VR] at hvr
     obtain⟨_,_,xs,f1',ho1,_⟩:=hvr
     obtain⟨a2,c2,e2,_,h3,_⟩:=dF ho1
     refine⟨_,_,_,e2,?_⟩
     cases a2 with
     | none=>have:=(h3 rfl).1;omega
     | some ad=>rfl
    ·cases hl
   ·cases hl
 have other:(∀ t,u≠.nsl t)→∃ a n c,cv=.slice a n c∧a.isNone=b:=by
  intro hne
  have:(match ry e false u with|some (_+1)=>some false|_=>none)=some b:=by
   rw[←hn];cases u<;>first|rfl|exact absurd rfl (hne _)
  split at this
  ·rename_i m hm
   have hb:=Option.some.inj this
   subst hb
   exact key hm
  ·cases this
 cases u with
 | nsl t =>
  simp only[MN,Option.some.injEq] at hn
  subst hn
  simp only[VR] at c1
  obtain⟨⟨a,c,e1,h1,_⟩,_⟩:=c1
  exact⟨_,_,_,e1,h1⟩
 | _=>exact other (fun t h=>by cases h)
theorem adv {ne:Bool} {y:Opd} {v:AV} {e':Env} (hok:gz P ν o.op (.pnil ne y)=true) (hx:opx e (.pnil ne y)=some (v,e')):e'=e∧gp P w Φ σ ρ a o v:=by
 simp only[opx] at hx
 simp only[gz] at hok
 split at hok
 ·rename_i op t x' t' ho
  simp only[Bool.and_eq_true] at hok
  obtain⟨⟨hx1,hop⟩,ht⟩:=hok
  split at hx
  ·rename_i u hu
   split at hx
   ·rename_i b hn
    simp at hx
    obtain⟨rfl,rfl⟩:=hx
    have hv:=dC h hl hx1 hu (fun _=>0) (fun _=>rfl)
    obtain⟨ao,e1,hb⟩:∃ ao,a.eval x'=.pointer ao∧ao.isNone=b:=by
     cases u<;>simp[pnX] at hn<;>subst hn<;>simp only[VR] at hv
     ·exact⟨none,hv.1,rfl⟩
     ·obtain⟨⟨ad,e1,_⟩,_⟩:=hv
      exact⟨_,e1,rfl⟩
     ·obtain⟨⟨b0,row,_,e1⟩,_⟩:=hv
      exact⟨_,e1,rfl⟩
    obtain⟨el,ht'⟩:∃ el,P.underlying t=some (.pointer el):=by
     split at ht
     ·rename_i el h;exact⟨el,h⟩
     ·cases ht
    have hq:∀ d,(Op.equalIn (d+1) t (.pointer ao) (.pointer none)).run P w=.ok b w:=by
     intro d
     unfold Op.equalIn
     rw[Sem.run_bind,run_underlying ht',←hb]
     cases ao<;>rfl
    have hq':(Op.equal t (.pointer ao) (.pointer none)).run P w=.ok b w:=hq 9999
    refine⟨rfl,.bool (if ne then !b else b),?_,wR⟩
    have e2:a.eval (.const (.pointer none))=.pointer none:=rfl
    unfold Yields
    cases op<;>simp at hop<;>subst hop
    ·simp[execOp,ho,e1,e2,eqGuard,binOp,hq']
    ·simp[execOp,ho,e1,e2,eqGuard,binOp,hq',bne]
   ·cases hx
  ·cases hx
 ·cases hok
theorem TD {ne:Bool} {y:Opd} {v:AV} {e':Env} (hok:gz P ν o.op (.isnil ne y)=true) (hsep:∀ b,f b≤1) (hx:opx e (.isnil ne y)=some (v,e')):e'=e∧gp P w Φ σ ρ a o v:=by
 simp only[opx] at hx
 simp only[gz] at hok
 split at hok
 ·rename_i op t x' t' ho
  simp only[Bool.and_eq_true] at hok
  obtain⟨⟨hx1,hop⟩,ht⟩:=hok
  split at hx
  ·rename_i u hu
   split at hx
   ·rename_i b hn
    simp at hx
    obtain⟨rfl,rfl⟩:=hx
    obtain⟨ao,n,c,e1,hb⟩:=TP h hsep hn (dC h hl hx1 hu (fun _=>0) (fun _=>rfl))
    obtain⟨el,ht'⟩:∃ el,P.underlying t=some (.slice el):=by
     split at ht
     ·rename_i el h;exact⟨el,h⟩
     ·cases ht
    have hq:∀ d,(Op.equalIn (d+1) t (.slice ao n c) (.slice none 0 0)).run P w=.ok b w:=by
     intro d
     unfold Op.equalIn
     rw[Sem.run_bind,run_underlying ht',←hb]
     cases ao<;>rfl
    have hq':(Op.equal t (.slice ao n c) (.slice none 0 0)).run P w=.ok b w:=hq 9999
    refine⟨rfl,.bool (if ne then !b else b),?_,wR⟩
    have e2:a.eval (.const (.slice none 0 0))=.slice none 0 0:=rfl
    unfold Yields
    cases op<;>simp at hop<;>subst hop
    ·simp[execOp,ho,e1,e2,eqGuard,binOp,hq']
    ·simp[execOp,ho,e1,e2,eqGuard,binOp,hq',bne]
   ·cases hx
  ·cases hx
 ·cases hok
omit h hl in
theorem Un {k:Nat} {ks:List Nat} {cs ds:List AV} {b:Bool} (he:eqC (k::ks) cs ds=some b) :
  (∃ k1 a1 cs1 b1 ds1 r,k=0∧cs=.int k1 a1::cs1∧ds=.int k1 b1::ds1∧eqC ks cs1 ds1=some r∧b=(a1==b1&&r)) ∨
  (∃ a1 cs1 b1 ds1 r,k=1∧cs=.bool a1::cs1∧ds=.bool b1::ds1∧eqC ks cs1 ds1=some r∧b=(a1==b1&&r)) ∨
  (∃ a1 cs1 b1 ds1 r,k=2∧cs=.str a1::cs1∧ds=.str b1::ds1∧eqC ks cs1 ds1=some r∧b=(a1==b1&&r)):=by
 generalize hk:k::ks=kk at he
 unfold eqC at he
 split at he
 ·cases hk
 ·obtain⟨rfl,rfl⟩:=List.cons.inj hk
  split at he
  ·rename_i hkk
   subst hkk
   split at he
   ·rename_i r hr
    cases he
    exact .inl ⟨_,_,_,_,_,r,rfl,rfl,rfl,hr,rfl⟩
   ·cases he
  ·cases he
 ·obtain⟨rfl,rfl⟩:=List.cons.inj hk
  split at he
  ·rename_i r hr
   cases he
   exact .inr (.inl ⟨_,_,_,_,r,rfl,rfl,rfl,hr,rfl⟩)
  ·cases he
 ·obtain⟨rfl,rfl⟩:=List.cons.inj hk
  split at he
  ·rename_i r hr
   cases he
   exact .inr (.inr ⟨_,_,_,_,r,rfl,rfl,rfl,hr,rfl⟩)
  ·cases he
 ·cases he
omit h hl in
theorem JG (d:Nat) (xs ys:Array Value):∀ (ks:List Nat) (fs:List Field) (i:Nat) (cs ds:List AV) (b:Bool) (f1 f2:Cnt),yN P ks fs i=true→CR P w Φ σ ρ cs (xs.toList.drop i) f1→CR P w Φ σ ρ ds (ys.toList.drop i) f2→eqC ks cs ds=some b →
  (Op.eqFields (d+1) xs ys fs).run P w=.ok b w
 | [],[],i,cs,ds,b,f1,f2,_,h1,h2,he=>by
  cases cs<;>cases ds<;>simp[eqC] at he
  subst he;simp[Op.eqFields]
 | k::ks,f::fs,i,cs,ds,b,f1,f2,hok,h1,h2,he=>by
  simp only[yN,Bool.and_eq_true,bne_iff_ne,beq_iff_eq] at hok
  obtain⟨⟨⟨hn,ho⟩,hk⟩,hrest⟩:=hok
  subst ho
  have step:∀ {c:AV} {cs':List AV} {zs:Array Value} {g:Cnt},CR P w Φ σ ρ (c::cs') (zs.toList.drop f.offset) g→∃ v g1 g2,zs[f.offset]?=some v∧VR P w Φ σ ρ c v g1∧CR P w Φ σ ρ cs' (zs.toList.drop (f.offset+1)) g2:=by
   intro c cs' zs g hc
   simp only[CR] at hc
   obtain⟨v,vs',g1,g2,e1,hv,hr,_⟩:=hc
   refine⟨v,g1,g2,?_,hv,?_⟩
   ·have:=congrArg (fun l=>l[0]?) e1
    simpa [List.getElem?_drop] using this
   ·have:=congrArg List.tail e1
    rw[List.tail_drop] at this
    rw[this];exact hr
  have hn':f.name≠"_":=by simpa using hn
  have run:∀ {u v:Value} {r r':Bool},xs[f.offset]?=some u→ys[f.offset]?=some v→P.plainKey f.type=true→(Op.equalIn (d+1) f.type u v).run P w=.ok r w→(Op.eqFields (d+1) xs ys fs).run P w=.ok r' w→(Op.eqFields (d+1) xs ys (f::fs)).run P w=.ok (r&&r') w:=by
   intro u v r r' hu hv ha hr hr'
   simp only[Op.eqFields,if_pos hn',Sem.run_bind,run_part_plain w ha hu,run_part_plain w ha hv,hr,Result.andThen_ok]
   cases r
   ·rfl
   ·simpa using hr'
  rcases Un he with ⟨k1,a1,cs1,b1,ds1,r,rfl,rfl,rfl,hr,rfl⟩|⟨a1,cs1,b1,ds1,r,rfl,rfl,rfl,hr,rfl⟩|⟨a1,cs1,b1,ds1,r,rfl,rfl,rfl,hr,rfl⟩
  all_goals
   obtain⟨u1,g1,g2,hu1,hv1,hr1⟩:=step h1
   obtain⟨u2,g3,g4,hu2,hv2,hr2⟩:=step h2
   simp only[VR] at hv1 hv2
   obtain⟨rfl,_⟩:=hv1
   obtain⟨rfl,_⟩:=hv2
   have hR:=JG d xs ys ks fs _ _ _ _ _ _ hrest hr1 hr2 hr
   cases hkt:P.underlying f.type with
   | none=>simp[hkt] at hk
   | some q =>
    cases q<;>simp[hkt] at hk
    first
    | exact run hu1 hu2 (by unfold Program.plainKey;rw[hkt]) (show (Op.equalIn (d+1) f.type (.int k1 a1) (.int k1 b1)).run P w=.ok (a1==b1) w by simp[Op.equalIn,run_underlying hkt]) hR
    | exact run hu1 hu2 (by unfold Program.plainKey;rw[hkt]) (run_equalIn_bool' w d f.type a1 b1 hkt) hR
    | (have:=run_equalIn_string w d f.type ⟨a1.toArray⟩ ⟨b1.toArray⟩ hkt;rw[ByteArray.toList_eq,ByteArray.toList_eq] at this;exact run hu1 hu2 (by unfold Program.plainKey;rw[hkt]) this hR)
 | [],_::_,i,cs,ds,b,f1,f2,hok,h1,h2,he=>by simp[yN] at hok
 | _::_,[],i,cs,ds,b,f1,f2,hok,h1,h2,he=>by simp[yN] at hok
theorem adu {ne:Bool} {ks:List Nat} {x y:Opd} {v:AV} {e':Env} (hok:gz P ν o.op (.sbeq ne ks x y)=true) (hx:opx e (.sbeq ne ks x y)=some (v,e')):e'=e∧gp P w Φ σ ρ a o v:=by
 simp only[opx] at hx
 simp only[gz] at hok
 split at hok
 ·rename_i op t x' y' t' ho
  simp only[Bool.and_eq_true,beq_iff_eq,Bool.not_eq_true'] at hok
  obtain⟨⟨⟨⟨⟨⟨hx1,hy1⟩,hop⟩,ht⟩,hh⟩,hg⟩,hf⟩:=hok
  split at hx
  ·rename_i cs ds h1 h2
   split at hx
   ·rename_i b hb
    simp at hx
    obtain⟨rfl,rfl⟩:=hx
    have e1:=dC h hl hx1 h1 (fun _=>0) (fun _=>rfl)
    have e2:=dC h hl hy1 h2 (fun _=>0) (fun _=>rfl)
    simp only[VR] at e1 e2
    obtain⟨xs,e1,c1⟩:=e1
    obtain⟨ys,e2,c2⟩:=e2
    have hq:(Op.equalIn 10000 t (.agg xs) (.agg ys)).run P w=.ok b w:=by
     have ht':P.underlying t=some (.struct (P.fieldsOf t)):=by
      split at ht
      ·rename_i fs h;rw[Program.fieldsOf,h]
      ·cases ht
     rw[run_equalIn_struct w 9999 t xs ys ht' hh]
     exact JG 9998 xs ys ks _ 0 cs ds b _ _ hf (by simpa using c1) (by simpa using c2) hb
    refine⟨rfl,.bool (if ne then !b else b),?_,wR⟩
    unfold Yields
    cases op<;>simp at hop<;>subst hop
    ·simp[execOp,ho,e1,e2,run_eqGuard_agg w _ t x' y' xs ys hg,run_eql_struct w t xs ys,hq]
    ·simp[execOp,ho,e1,e2,run_eqGuard_agg w _ t x' y' xs ys hg,run_neq_struct w t xs ys,hq]
   ·cases hx
  ·cases hx
 ·cases hok
theorem au1 {y:Opd} {v:AV} {e':Env} (hok:gz P ν o.op (.b2s y)=true) (hsep:∀ b,f b≤1) (hx:opx e (.b2s y)=some (v,e')):e'=e∧gp P w Φ σ ρ a o v:=by
 simp only[opx] at hx
 simp only[gz] at hok
 split at hok
 ·rename_i s t x ho
  simp only[Bool.and_eq_true] at hok
  obtain⟨⟨hx1,hs⟩,ht⟩:=hok
  split at hs
  ·rename_i el hus
   split at hs
   ·rename_i hue
    split at ht
    ·rename_i hut
     have fin:∀ (ao:Option Addr) (n cap:Nat) (cs:List AV) (l:List UInt8) (us:List Value) (g:Cnt),a.eval x=.slice ao n cap→bytesOf cs=some l→cs.length=n→CR P w Φ σ ρ cs us g →
       (∀ i u,us[i]?=some u→∃ ad,ao=some ad∧w.cell? (ad.add i)=some u)→(ao=none→n=0)→gp P w Φ σ ρ a o (.str l):=by
      intro ao n cap cs l us g e1 hb hn hc hcell h0
      obtain⟨ns,rfl,rfl⟩:=yu hb hc
      have hln:ns.length=n:=by rw[←hn,dm hc];simp
      refine⟨.string ⟨(ns.map (fun n=>UInt8.ofNat n.toNat)).toArray⟩,?_,OZ⟩
      have hcv:(convert s t (a.eval x)).run P w=.ok (.string ⟨(ns.map (fun n=>UInt8.ofNat n.toNat)).toArray⟩) w:=by
       rw[e1,run_convert_bytes_string w s t el _ _ _ hus hue hut]
       cases ao with
       | none =>
        have:ns=[]:=List.eq_nil_of_length_eq_zero (by rw[hln];exact h0 rfl)
        subst this
        simp[Conv.bytesToString]
        rfl
       | some ad =>
        have hl2:(loadCells ad n).run P w=.ok (ns.map (Value.int .u8)).toArray w:=by
         have:=run_loadCells_list (P:=P) w ad (ns.map (Value.int .u8)) (fun i u hi=>by
          obtain⟨ad',h1,h2⟩:=hcell i u hi
          cases h1;exact h2)
         simpa [hln] using this
        rw[run_bytesToString w ad n cap ns hl2,Ib]
        have:ByteArray.empty.data++(ns.map (fun n=>UInt8.ofNat n.toNat)).toArray=(ns.map (fun n=>UInt8.ofNat n.toNat)).toArray:=by
         show #[]++_=_;simp
        rw[this]
      simp[Yields,execOp,ho,hcv]
     split at hx
     ·rename_i n cs hv
      split at hx
      ·rename_i l hb
       split at hx
       ·rename_i hn
        simp at hx
        obtain⟨rfl,rfl⟩:=hx
        have c1:=dC h hl hx1 hv (fun _=>0) (fun _=>rfl)
        simp only[VR] at c1
        obtain⟨⟨ao,cap,e1,hcap,hne,hfc⟩,_⟩:=c1
        cases ao with
        | none =>
         have h0:=(hne rfl).1
         have:cs=[]:=List.eq_nil_of_length_eq_zero (by rw[hn,h0])
         subst this
         exact⟨rfl,fin none n cap [] l [] (fun _=>0) e1 hb hn CR_nil (fun i u hi=>by simp at hi) (fun _=>h0)⟩
        | some ad =>
         obtain⟨us,h1,h2⟩:=GH hfc
         exact⟨rfl,fin (some ad) n cap cs l us _ e1 hb hn h1 (fun i u hi=>⟨ad,rfl,by have:=h2 i u hi;rwa [Nat.zero_add] at this⟩) (fun h=>by cases h)⟩
       ·cases hx
      ·cases hx
     ·rename_i r p o0 hv
      split at hx
      ·rename_i row hrow
       split at hx
       ·rename_i et st n cs hro
        split at hx
        ·rename_i l hb
         split at hx
         ·rename_i hn
          simp at hx
          obtain⟨rfl,rfl⟩:=hx
          have c1:=dC h hl hx1 hv (fun _=>0) (fun _=>rfl)
          simp only[VR] at c1
          obtain⟨⟨bo,row0,ao,n0,c0,hw,hv0,e1⟩,_⟩:=c1
          obtain⟨bo',cvs,f1,f2,hw',hcr,hf,_,_⟩:=gI h hsep hrow
          rw[hw] at hw'
          obtain⟨rfl,rfl⟩:bo=bo'∧row0=cvs:=by simpa using hw'
          obtain⟨cv,g1,g2,hcv,hvr,hff,_⟩:=dO o0 hcr hro
          obtain⟨hcv0,_⟩:=dS hcv
          rw[hv0] at hcv0
          obtain rfl:=Option.some.inj hcv0
          simp only[VR] at hvr
          obtain⟨_,_,xs,f1',ho1,hcs,_⟩:=hvr
          obtain⟨a2,c2,e2,_,h6,h7⟩:=dF ho1
          exact⟨rfl,fin a2 n c2 cs l xs _ e2 hb hn hcs (fun i u hi=>by obtain⟨ad,h8,_,h9⟩:=h7 i u hi;exact⟨ad,h8,h9⟩) (fun h=>(h6 h).1)⟩
         ·cases hx
        ·cases hx
       ·cases hx
      ·cases hx
     ·cases hx
    ·cases ht
   ·cases hs
  ·cases hs
 ·cases hok
end
end
end Go.AM
set_option linter.unusedSectionVars false
namespace Go.AM
open Go
structure Ext (w w':World) (f:Cnt):Prop where
 os:w'.os=w.os
 tape:w'.tape=w.tape
 output:w'.output=w.output
 size:w.heap.size≤w'.heap.size
 block:∀ b,b<w.heap.size→f b=0→w'.heap[b]?=w.heap[b]?
theorem Ext.refl (w:World) (f:Cnt):Ext w w f:=⟨rfl,rfl,rfl,Nat.le_refl _,fun _ _ _=>rfl⟩
section
variable {P : Program} {w : World} {Φ : Nat → Prop} {σ : Nat → Value} {ρ : List Value}
theorem vV {w':World} (hx:∀ b,b<w.heap.size→w'.heap[b]?=w.heap[b]?):∀ (p:List Nat) (bo:Option Nat) (vs:List Value) (r:Option Nat × List Value),walk w bo vs p=some r→walk w' bo vs p=some r
 | [],bo,vs,r,h=>by simpa [walk] using h
 | o::p,bo,vs,r,h=>by
  simp only[walk] at h ⊢
  cases h1:vs[o]? with
  | none=>simp[h1] at h
  | some u =>
   cases h2:hblk u with
   | none=>simp[h1,h2] at h
   | some b1 =>
    cases h3:jQ w b1 with
    | none=>simp[h1,h2,h3] at h
    | some r1 =>
     simp only[h1,h2,h3] at h
     have h4:jQ w' b1=some r1:=by
      unfold jQ at h3 ⊢
      split at h3
      ·rename_i arr t fr hb
       have:b1<w.heap.size:=(Array.getElem?_eq_some_iff.1 hb).1
       rw[hx b1 this,hb];simpa using h3
      ·cases h3
     simp only[h2,h4]
     exact vV hx p _ _ _ h
theorem aa3 {w':World} (hx:∀ b,b<w.heap.size→w'.heap[b]?=w.heap[b]?) (hΦ:∀ b,Φ b→b<w.heap.size) (v:AV) (cv:Value) (f:Cnt) (hf:∀ b,1≤f b→b<w.heap.size) (h:VR P w Φ σ ρ v cv f):VR P w' Φ σ ρ v cv f :=
 BP w' Φ ρ (fun b hb=>hx b (hΦ b hb)) (fun _ h=>h)
  (fun r p o cv f h=>by
   simp only[VR] at h ⊢
   obtain⟨⟨bo,row,a,n,c,hw,h1,h2⟩,hz⟩:=h
   exact⟨⟨bo,row,a,n,c,vV hx _ _ _ _ hw,h1,h2⟩,hz⟩)
  (fun r p o cv f h=>by
   simp only[VR] at h ⊢
   obtain⟨⟨b0,row,hw,h1⟩,hz⟩:=h
   exact⟨⟨b0,row,vV hx _ _ _ _ hw,h1⟩,hz⟩)
  (fun r p o cv f h=>by
   simp only[VR] at h ⊢
   obtain⟨⟨bo,row,g,fs,cs,hw,h1,h2⟩,hz⟩:=h
   exact⟨⟨bo,row,g,fs,cs,vV hx _ _ _ _ hw,h1,h2⟩,hz⟩)
  v cv f (fun b hb=>hx b (hf b hb)) h
theorem rE {w':World} (hx:∀ b,b<w.heap.size→w'.heap[b]?=w.heap[b]?) (hΦ:∀ b,Φ b→b<w.heap.size):∀ (cs:List AV) (vs:List Value) (f:Cnt),(∀ b,1≤f b→b<w.heap.size)→CR P w Φ σ ρ cs vs f→CR P w' Φ σ ρ cs vs f
 | [],vs,f,_,h=>by simpa only[CR] using h
 | c::cs,vs,f,hf,h=>by
  simp only[CR] at h ⊢
  obtain⟨v,vs',f1,f2,e,h1,h2,hb⟩:=h
  exact⟨v,vs',f1,f2,e,aa3 hx hΦ _ _ _ (fun b hb1=>hf b (by have:=hb b;omega)) h1,rE hx hΦ _ _ _ (fun b hb1=>hf b (by have:=hb b;omega)) h2,hb⟩
theorem alloc_old (w:World) (o:Obj):∀ b,b<w.heap.size→(w.alloc o).heap[b]?=w.heap[b]?:=fun b hb=>heap_alloc_old w o b hb
theorem Ext.alloc (w:World) (o:Obj) (f:Cnt):Ext w (w.alloc o) f:=⟨rfl,rfl,rfl,by simp,fun b hb _=>alloc_old w o b hb⟩
theorem NH {v:Value} {av:AV} (h:yE v av=true):hr av=false:=by
 cases v<;>cases av<;>simp[yE] at h<;>try rfl
 obtain⟨_,rfl⟩:=h
 rfl
theorem xx:∀ {vs:List Value} {as:List AV},pY vs as=true→hrs as=false
 | [],[],_=>rfl
 | v::vs,a::as,h=>by
  simp only[pY,Bool.and_eq_true] at h
  simp only[hrs,Bool.or_eq_false_iff]
  exact⟨NH h.1,xx h.2⟩
 | [],_::_,h=>by simp[pY] at h
 | _::_,[],h=>by simp[pY] at h
def y8:List (String × Array Value):=[("internal/strconv.uint64pow10",(Lib.pow10Tab.map fun z=>Value.int .u64 z).toArray)]
def Tabs (P:Program) (w:World) (Φ:Nat→Prop):Prop:=∀ p∈y8,∀ g,P.globalNamed p.1=some g→Φ g∧w.var? P p.1=some p.2
theorem iT {P:Program} {w w':World} {Φ Φ':Nat→Prop} (h:Tabs P w Φ) (hk:∀ b,Φ b→w'.heap[b]?=w.heap[b]?) (hs:∀ b,Φ b→Φ' b):Tabs P w' Φ':=by
 intro p hp g hg
 obtain⟨h1,h2⟩:=h p hp g hg
 refine⟨hs g h1,?_⟩
 unfold World.var? at h2 ⊢
 rw[hg] at h2 ⊢
 simp only[Option.bind_some] at h2 ⊢
 rw[hk g h1]
 exact h2
theorem tabs_none {P:Program} {w:World} {Φ:Nat→Prop} (h:P.globalNamed "internal/strconv.uint64pow10" = none):Tabs P w Φ:=by
 intro p hp g hg
 simp only[y8,List.mem_singleton] at hp
 subst hp
 rw[h] at hg
 cases hg
structure Inv (P:Program) (w:World) (Φ:Nat→Prop) (f:Cnt):Prop where
 sep:∀ b,f b≤1
 lt:∀ b,1≤f b→b<w.heap.size
 fz:∀ b,Φ b→b<w.heap.size
 apart:∀ b,Φ b→f b=0
 tab:Tabs P w Φ
structure kH (P:Program) (w w':World) (Φ:Nat→Prop) (σ:Nat→Value) (ρ:List Value) (f:Cnt) (v:AV) (cv:Value) (e':Env):Prop where
 ext:Ext w w' f
 rel:∃ f1 f2:Cnt,VR P w' Φ σ ρ v cv f1∧CR P w' Φ σ ρ e' ρ f2∧(∀ b,f1 b+f2 b≤1)∧(∀ b,1≤f1 b+f2 b→(1≤f b∨w.heap.size≤b)∧b<w'.heap.size)
section
variable {e : Env} {f : Cnt} {ν : List Nat} {a : Act} {o : Oper} (h : CR P w Φ σ ρ e ρ f) (hl : LK ν ρ e a.tmps) (hi : Inv P w Φ f)
include h hl hi
theorem G8 {v:AV} {cv:Value} (hv:∀ g:Cnt,(∀ b,g b=0)→VR P w Φ σ ρ v cv g):kH P w w Φ σ ρ f v cv e :=
 ⟨Ext.refl _ _,fun _=>0,f,hv _ (fun _=>rfl),h,fun b=>by simpa using hi.sep b,fun b hb=>by simp only[Nat.zero_add] at hb;exact⟨.inl hb,hi.lt b hb⟩⟩
theorem rW {v:AV} {e':Env} {f1 f2:Cnt} (obj:Obj) {cv:Value} (he:CR P w Φ σ ρ e' ρ f2) (hf:∀ b,f b=f1 b+f2 b)
  (hv:VR P (w.alloc obj) Φ σ ρ v cv (fun b=>(if b=w.heap.size then 1 else 0)+f1 b)):kH P w (w.alloc obj) Φ σ ρ f v cv e':=by
 refine⟨Ext.alloc _ _ _,_,f2,hv,rE (alloc_old w obj) hi.fz _ _ _ (fun b hb=>hi.lt b (by have:=hf b;omega)) he,fun b=>?_,fun b hb=>?_⟩
 ·show (if b=w.heap.size then 1 else 0)+f1 b+f2 b≤1
  have:=hi.sep b
  have:=hf b
  split
  ·rename_i hb
   have:¬1≤f b:=fun h1=>by have:=hi.lt b h1;omega
   omega
  ·omega
 ·have hb':1≤(if b=w.heap.size then 1 else 0)+f1 b+f2 b:=hb
  have hs:(w.alloc obj).heap.size=w.heap.size+1:=by simp
  split at hb'
  ·rename_i e1;subst e1;exact⟨.inr (Nat.le_refl _),by rw[hs];omega⟩
  ·have h1:1≤f b:=by have:=hf b;omega
   exact⟨.inl h1,by have:=hi.lt b h1;rw[hs];omega⟩
theorem xW {cs:List AV} {vs:List Value} {f1 f2:Cnt} (obj:Obj) (hf:∀ b,f b=f1 b+f2 b) (hc:CR P w Φ σ ρ cs vs f1):CR P (w.alloc obj) Φ σ ρ cs vs f1 :=
 rE (alloc_old w obj) hi.fz _ _ _ (fun b hb=>hi.lt b (by have:=hf b;omega)) hc
omit h hl hi in
theorem Bf {v:AV} {cv:Value} {g:Cnt} (hv:VR P w Φ σ ρ v cv g) (hd:v≠.dead) (hg:∀ s,v≠.gone s) (ht:∀ sh cs,v≠.tup sh cs):cv.cells.toList=gB cv:=by
 cases cv with
 | tuple vs =>
  exfalso
  cases v<;>simp only[VR] at hv
  all_goals first
   | exact hd rfl
   | exact hg _ rfl
   | exact ht _ _ rfl
   | (have:=hv.1;cases this;done)
   | (obtain⟨vs,e,_⟩:=hv;cases e;done)
   | (obtain⟨⟨a,c,e,_⟩,_⟩:=hv;cases e;done)
   | (obtain⟨⟨a,e,_⟩,_⟩:=hv;cases e;done)
   | (obtain⟨_,_,xs,f1,ho,_⟩:=hv;obtain⟨a,c,e,_⟩:=dF ho;cases e;done)
   | (obtain⟨_,_,b0,arr,f1,e,_⟩:=hv;cases e;done)
   | (obtain⟨⟨bo,row,a,n,c,_,_,e⟩,_⟩:=hv;cases e;done)
   | (obtain⟨⟨b0,row,_,e⟩,_⟩:=hv;cases e;done)
   | (obtain⟨⟨bo,row,g,fs,cs,_,_,e⟩,_⟩:=hv;cases e;done)
   | (obtain⟨⟨bo,row,a,n,c,_,_,_,e⟩,_⟩:=hv;cases e;done)
 | _=>rfl
omit h hl hi in
theorem A7 {y:Opd} {v:AV} (hv:ev e y=some v) (hy:∀ sh cs,y≠.con (.tup sh cs)):∀ sh cs,v≠.tup sh cs:=by
 intro sh cs hh
 subst hh
 cases y with
 | con av=>simp[ev] at hv;exact hy _ _ (by rw[hv])
 | slot j =>
  simp only[ev] at hv
  split at hv
  ·rename_i u hu
   simp at hv
   cases u<;>simp[lzv,lz1] at hv
   rename_i g0 cs0;cases cs0<;>simp[lz1] at hv
  ·cases hv
theorem aG2 {t:Nat} {z:List AV} {v:AV} {e':Env} (hok:gz P ν o.op (.mk t z)=true) (hx:opx e (.mk t z)=some (v,e')) :
  ∃ cv w',(execOp a.eval o).run P w=.ok (.value cv) w'∧kH P w w' Φ σ ρ f v cv e':=by
 simp only[opx,Option.some.injEq,Prod.mk.injEq] at hx
 obtain⟨rfl,rfl⟩:=hx
 simp only[gz] at hok
 split at hok
 ·rename_i t' ho
  simp only[Bool.and_eq_true,beq_iff_eq] at hok
  obtain⟨rfl,hz⟩:=hok
  unfold rF at hz
  split at hz
  ·rename_i zv hzv
   obtain⟨inf,hinf,hzz⟩:=Option.bind_eq_some_iff.1 hzv
   refine⟨.pointer (some ⟨w.heap.size,0,none⟩),w.alloc (.cells zv.cells t),?_,?_⟩
   ·simp[execOp,ho,Instr.alloc,zeroValue,typeInfo,hinf,hzz,newVar,newRow]
   ·refine rW h hl hi (f1:=fun _=>0) _ h (fun b=>by simp) ?_
    simp only[VR]
    exact⟨fun h=>absurd rfl h,xx hz,_,zv.cells,fun _=>0,rfl,heap_alloc_new w _,lC hz,fun b=>rfl⟩
  ·cases hz
 ·cases hok
theorem auO {t sz:Nat} {y:Opd} {v:AV} {e':Env} (hok:gz P ν o.op (.box t sz y)=true) (hx:opx e (.box t sz y)=some (v,e')) :
  ∃ cv w',(execOp a.eval o).run P w=.ok (.value cv) w'∧kH P w w' Φ σ ρ f v cv e':=by
 simp only[opx] at hx
 simp only[gz] at hok
 split at hok
 ·rename_i t' x ho
  simp only[Bool.and_eq_true,beq_iff_eq] at hok
  obtain⟨rfl,hx1⟩:=hok
  cases hv:ev e y with
  | none=>simp[hv] at hx
  | some u =>
   simp only[hv] at hx
   split at hx
   ·rename_i hlen
    cases ht:dQ e (cellsOf u) with
    | none=>simp[ht] at hx
    | some z =>
     obtain⟨cs,e1⟩:=z
     simp[ht] at hx
     obtain⟨rfl,rfl⟩:=hx
     have c1:=dC h hl hx1 hv (fun _=>0) (fun _=>rfl)
     have hd:u≠.dead:=by rintro rfl;simp[cellsOf,dQ,takeC] at ht
     have hg:∀ s,u≠.gone s:=by rintro s rfl;simp[cellsOf,dQ,takeC] at ht
     have htup:∀ sh cs,u≠.tup sh cs:=A7 hv (by rintro sh cs rfl;cases x<;>simp[okX] at hx1;rename_i u;cases u<;>simp[yE] at hx1)
     have hc:=jA hd hg c1
     rw[←Bf c1 hd hg htup] at hc
     obtain⟨f1,f2,hcs,he,hf,_⟩:=ji h hi.sep hc (fun _=>rfl) ht
     have hhr:=nK ht hcs
     refine⟨.pointer (some ⟨w.heap.size,0,none⟩),w.alloc (.cells (a.eval x).cells t),?_,?_⟩
     ·simp[execOp,ho,Instr.box,newVar,newRow]
     ·refine rW h hl hi _ he hf ?_
      simp only[VR]
      exact⟨fun h=>absurd rfl h,hhr,_,_,f1,rfl,heap_alloc_new w _,xW h hl hi _ hf hcs,fun b=>rfl⟩
   ·cases hx
 ·cases hok
theorem auP {y:Opd} {v:AV} {e':Env} (hok:gz P ν o.op (.asg y)=true) (hx:opx e (.asg y)=some (v,e')) :
  ∃ cv w',(execOp a.eval o).run P w=.ok (.value cv) w'∧kH P w w' Φ σ ρ f v cv e':=by
 simp only[opx] at hx
 have key:∀ x:Operand,okX ν x y=true→kH P w w Φ σ ρ f v (a.eval x) e':=by
  intro x hx1
  cases hv:ev e y with
  | none=>simp[hv] at hx
  | some u =>
   simp only[hv] at hx
   have c1:=dC h hl hx1 hv (fun _=>0) (fun _=>rfl)
   have fin:∀ {f1 f2:Cnt},VR P w Φ σ ρ v (a.eval x) f1→CR P w Φ σ ρ e' ρ f2→(∀ b,f b=f1 b+f2 b)→kH P w w Φ σ ρ f v (a.eval x) e':=fun h1 h2 h3 =>
    ⟨Ext.refl _ _,_,_,h1,h2,fun b=>by have:=hi.sep b;have:=h3 b;omega,fun b hb=>by have:=h3 b;exact⟨.inl (by omega),hi.lt b (by omega)⟩⟩
   have one:takeC e u=some (v,e')→kH P w w Φ σ ρ f v (a.eval x) e':=fun ht=>by
    obtain⟨f1,f2,h1,h2,h3,_⟩:=lK h hi.sep c1 ht
    exact fin h1 h2 (fun b=>by simpa using h3 b)
   cases u with
   | agg cs =>
    simp only[yB] at hx
    cases ht:dQ e cs with
    | none=>simp[ht] at hx
    | some z =>
     obtain⟨cs1,e1⟩:=z
     simp[ht] at hx
     obtain⟨rfl,rfl⟩:=hx
     simp only[VR] at c1
     obtain⟨arr,e1,hc⟩:=c1
     obtain⟨f1,f2,hcs,he,hf,_⟩:=ji h hi.sep hc (fun _=>rfl) ht
     refine fin (f1:=f1) ?_ he hf
     simp only[VR]
     exact⟨arr,e1,hcs⟩
   | tup sh cs=>simp[yB] at hx
   | _=>exact one (by simpa only[yB] using hx)
 simp only[gz] at hok
 split at hok
 ·rename_i x ho
  exact⟨a.eval x,w,by simp[execOp,ho],key x hok⟩
 ·rename_i x ho
  exact⟨a.eval x,w,by simp[execOp,ho],key x hok⟩
 ·cases hok
omit h hl hi in
theorem vC {t:TypeId} {el:TypeId} (h1:EI P t=some el):P.underlying t=some (.slice el):=by
 unfold EI at h1
 split at h1
 ·rename_i e hu;rw[hu,Option.some.inj h1]
 ·cases h1
omit h hl hi in
theorem qA {el sz:Nat} (h1:yR P el sz=true):∃ i z,P.info? el=some i∧i.size=sz∧0<sz∧i.bytes≤32768∧i.zero=some z∧z.cells.size=sz∧P.cellsOf el=sz:=by
 unfold yR at h1
 split at h1
 ·rename_i i hi
  simp only[Bool.and_eq_true,beq_iff_eq,decide_eq_true_eq] at h1
  obtain⟨⟨⟨rfl,h2⟩,h3⟩,h4⟩:=h1
  split at h4
  ·rename_i z hz
   simp at h4
   exact⟨i,z,hi,rfl,h2,h3,hz,h4,by simp[Program.cellsOf,hi]⟩
  ·cases h4
 ·cases h1
omit h hl hi in
theorem I4 {zs:List AV} {vs:List Value} (hz:CR P w Φ σ ρ zs vs (fun _=>0)):∀ n,CR P w Φ σ ρ (List.replicate n zs).flatten (List.replicate n vs).flatten (fun _=>0)
 | 0=>by simpa using CR_nil
 | n+1=>by
  have:=iJ hz (I4 hz n)
  simpa [List.replicate_succ] using this
omit h hl hi in
theorem JB {zs:List AV} (hz:hrs zs=false):∀ n,hrs (List.replicate n zs).flatten=false
 | 0=>rfl
 | n+1=>by simp[List.replicate_succ,ah,hz,JB hz n]
omit h hl hi in
theorem uo (z:Array Value) (n:Nat) (hz:0<z.size):(madeCells z (n*z.size)).toList=(List.replicate n z.toList).flatten:=by
 apply List.ext_getElem?
 intro j
 have hl:((List.replicate n z.toList).flatten).length=n*z.size:=by simp
 by_cases hj:j<n*z.size
 ·have e1:(madeCells z (n*z.size)).toList[j]?=some (z[j%z.size]!):=by simp[madeCells,hj]
  rw[e1]
  have:∀ n j,j<n*z.size→((List.replicate n z.toList).flatten)[j]?=some (z[j%z.size]!):=by
   intro n
   induction n with
   | zero=>intro j hj;omega
   | succ n ih =>
    intro j hj
    simp only[List.replicate_succ,List.flatten_cons]
    by_cases h1:j<z.size
    ·rw[List.getElem?_append_left (by simpa using h1),Nat.mod_eq_of_lt h1]
     simp[h1]
    ·rw[List.getElem?_append_right (by simpa using h1)]
     simp only[Array.length_toList]
     rw[ih (j-z.size) (by rw[Nat.succ_mul] at hj;omega),←Nat.mod_eq_sub_mod (by omega)]
  exact (this n j hj).symm
 ·rw[List.getElem?_eq_none (by simp[madeCells];omega),List.getElem?_eq_none (by omega)]
theorem adl {el:Nat} {z:List AV} {l c:Opd} {v:AV} {e':Env} (hok:gz P ν o.op (.mksl el z l c)=true) (hx:opx e (.mksl el z l c)=some (v,e')) :
  ∃ cv w',(execOp a.eval o).run P w=.ok (.value cv) w'∧kH P w w' Φ σ ρ f v cv e':=by
 simp only[opx] at hx
 simp only[gz] at hok
 split at hok
 ·rename_i t l' c' ho
  simp only[Bool.and_eq_true,beq_iff_eq] at hok
  obtain⟨⟨⟨⟨h1,h2⟩,h3⟩,h4⟩,h5⟩:=hok
  have hu:=vC h1
  obtain⟨inf,zv,hinf,hs,hs0,hby,hzz,hzs,hco⟩:=qA h2
  split at hx
  ·rename_i k n k' n' hv1 hv2
   split at hx
   ·rename_i hb
    simp at hx
    obtain⟨rfl,rfl⟩:=hx
    have e1:=jm (dC h hl h4 hv1 (fun _=>0) (fun _=>rfl))
    have e2:=jm (dC h hl h5 hv2 (fun _=>0) (fun _=>rfl))
    obtain⟨hn0,rfl,hnb⟩:=hb
    obtain⟨m,rfl⟩:∃ m:Nat,n=m:=⟨n.toNat,by omega⟩
    have hm:m≤4294967296:=by unfold bnd at hnb;omega
    have hmul:inf.bytes*m≤281474976710656:=by
     have:=Nat.mul_le_mul hby hm
     omega
    obtain⟨w',hr,hown,hgr⟩:=run_make_full (P:=P) w 0 t el inf zv inf.size hu hinf hzz rfl k k' m hmul (by simp only[maxLen];omega) (Nat.zero_le _)
    unfold rF at h3
    rw[hinf] at h3
    simp only[Option.bind_some,hzz] at h3
    refine⟨_,w',by simp[execOp,ho,e1,e2,hr];rfl,?_⟩
    have hblk:∀ b,b<w.heap.size→w'.heap[b]?=w.heap[b]?:=fun b hb=>hgr.block b hb (by simp)
    have hb0:jF (Value.slice (some ⟨w.heap.size,0,none⟩) m m)=fun b=>if b=w.heap.size then 1 else 0:=by
     funext b;simp[jF,Value.ownBlock,eq_comm]
    refine⟨⟨hgr.os,hgr.tape,hgr.output,hgr.size,fun b hb _=>hblk b hb⟩,fun b=>(if b=w.heap.size then 1 else 0),f,?_,rE hblk hi.fz _ _ _ (fun b hb=>hi.lt b hb) h,fun b=>?_,fun b hb=>?_⟩
    ·simp only[VR]
     refine⟨fun h=>absurd rfl h,JB (xx h3) _,_,fun _=>0,by rw[hco,←hs];exact hown,?_,fun b=>by rw[hb0];simp⟩
     rw[hs,←hzs,uo _ _ (by omega)]
     simpa using I4 (lC h3) m
    ·have:=hi.sep b
     dsimp only
     split
     ·rename_i hb;have:¬1≤f b:=fun h1=>by have:=hi.lt b h1;omega
      omega
     ·omega
    ·have hlt:w.heap.size<w'.heap.size:=by
      have:=hown.lt _ (rfl:(Value.slice (some ⟨w.heap.size,0,none⟩) m m).ownBlock=some w.heap.size)
      exact this.2
     dsimp only at hb
     split at hb
     ·rename_i e;exact⟨.inr (by omega),by omega⟩
     ·have h1:1≤f b:=by omega
      exact⟨.inl h1,by have:=hi.lt b h1;omega⟩
   ·cases hx
  ·cases hx
 ·cases hok
omit h hl hi in
theorem vK:∀ (xs:List Value) (off k:Nat) (arr:Array Value),off+k+xs.length≤arr.size →
  ((xs.zipIdx k).foldl (fun cs (c:Value × Nat)=>cs.setIfInBounds (off+c.2) c.1) arr).toList=arr.toList.take (off+k)++xs++arr.toList.drop (off+k+xs.length)
 | [],off,k,arr,_=>by simp
 | x::xs,off,k,arr,hb=>by
  simp only[List.zipIdx_cons,List.foldl_cons]
  simp only[List.length_cons] at hb
  rw[vK xs off (k+1) (arr.setIfInBounds (off+k) x) (by simp;omega)]
  have hlt:off+k<arr.toList.length:=by simp;omega
  simp only[Array.toList_setIfInBounds,List.length_cons]
  rw[List.take_set,List.drop_set,if_pos (by omega)]
  have:(arr.toList.take (off+(k+1))).set (off+k) x=arr.toList.take (off+k)++[x]:=by
   rw[show off+(k+1)=(off+k)+1 by omega,List.take_succ_eq_append_getElem hlt,List.set_append_right _ _ (by simp;omega)]
   have:off+k-(arr.toList.take (off+k)).length=0:=by simp;omega
   rw[this];rfl
  rw[this]
  simp[Nat.add_assoc,Nat.add_comm 1]
omit h hl hi in
theorem zh {cs xs:List AV} {off:Nat} (hb:off+xs.length≤cs.length):(splice cs off xs).length=cs.length:=by
 simp[splice];omega
omit h hl hi in
theorem LY {cs xs:List AV} {vs us:List Value} {off:Nat} (hb:off+xs.length≤cs.length) (hc:CR P w Φ σ ρ cs vs (fun _=>0)) (hx:CR P w Φ σ ρ xs us (fun _=>0)) :
  CR P w Φ σ ρ (splice cs off xs) (vs.take off++us++vs.drop (off+us.length)) (fun _=>0):=by
 obtain⟨f1,f2,h1,h2,hf⟩:=dM off hc
 obtain⟨g1,g2,k1,k2,hg⟩:=dM (off+xs.length) hc
 have z1:f1=fun _=>0:=funext fun b=>by have:0=f1 b+f2 b:=hf b;omega
 have z2:g2=fun _=>0:=funext fun b=>by have:0=g1 b+g2 b:=hg b;omega
 subst z1;subst z2
 have hl:=dm hx
 rw[hl] at k2
 have:=iJ (iJ h1 hx) k2
 simpa [splice,hl] using this
omit hi in
theorem AZ {places:Nat→Option (Nat × Nat)}:∀ {cs cs':List AV} {vs:List Value} {xs:List (Nat × Operand)} {ys:List (Nat × Nat × Opd)},oW ν places xs ys=true→rM e cs ys=some cs'→CR P w Φ σ ρ cs vs (fun _=>0) →
  (∃ vs',Instr.fill places vs.toArray (xs.map fun p=>(p.1,a.eval p.2))=some vs'.toArray∧CR P w Φ σ ρ cs' vs' (fun _=>0)∧cs'.length=cs.length)
 | cs,cs',vs,[],[],_,hf,hc=>by
  simp[rM] at hf;subst hf
  exact⟨vs,by simp[Instr.fill],hc,rfl⟩
 | cs,cs',vs,(i,x)::xs,(off,sz,y)::ys,hok,hf,hc=>by
  simp only[oW,Bool.and_eq_true,beq_iff_eq] at hok
  obtain⟨⟨hp,hx1⟩,hrest⟩:=hok
  simp only[rM] at hf
  split at hf
  ·cases hf
  ·cases hf
  ·rename_i u hd hg hv
   split at hf
   ·rename_i hb
    have c1:=dC h hl hx1 hv (fun _=>0) (fun _=>rfl)
    have htup:∀ sh cs,u≠.tup sh cs:=A7 hv (by rintro sh cs rfl;cases x<;>simp[okX] at hx1;rename_i u;cases u<;>simp[yE] at hx1)
    have hcu:=jA hd hg c1
    rw[←Bf c1 hd hg htup] at hcu
    have hlen:=dm hcu
    have hvl:=dm hc
    have hcs:=LY (off:=off) (by omega) hc hcu
    obtain⟨vs',h1,h2,h3⟩:=AZ hrest hf hcs
    refine⟨vs',?_,h2,h3.trans (zh (by omega))⟩
    have hsz:(a.eval x).cells.size=sz:=by rw[←Array.length_toList];omega
    have hfold:=vK (a.eval x).cells.toList off 0 vs.toArray (by simp;omega)
    simp only[List.map_cons,Instr.fill,hp]
    rw[if_neg (by simp;omega)]
    rw[←h1]
    congr 1
    apply Array.ext'
    rw[←Array.foldl_toList,Array.toList_zipIdx,hfold]
    simp
   ·cases hf
  ·cases hf
 | _,_,_,[],_::_,hok,_,_=>by simp[oW] at hok
 | _,_,_,_::_,[],hok,_,_=>by simp[oW] at hok
omit h hl hi in
theorem tY {α β:Type} (g:α→Sem β) (k:α→β):∀ (l:List α),(∀ x∈l,(g x).run P w=.ok (k x) w)→(l.mapM g).run P w=.ok (l.map k) w
 | [],_=>by simp
 | x::l,hx=>by
  rw[List.mapM_cons,Sem.run_bind,hx x (by simp)]
  simp only[Result.andThen_ok]
  rw[Sem.run_bind,tY g k l (fun y hy=>hx y (by simp[hy]))]
  simp
omit h hl hi in
theorem yf {P:Program}:∀ {l:List Field} {pl:List (Nat × Nat)},l.mapM (fun f=>(mi P f.type).map fun s=>(f.offset,s))=some pl →
  pl=l.map (fun f=>(f.offset,(mi P f.type).getD 0))∧∀ f∈l,∃ s,mi P f.type=some s
 | [],pl,h=>by simp at h;subst h;simp
 | x::l,pl,h=>by
  rw[List.mapM_cons] at h
  cases hs:mi P x.type with
  | none=>simp[hs] at h
  | some s =>
   cases hm:l.mapM (fun f=>(mi P f.type).map fun s=>(f.offset,s)) with
   | none=>simp[hs,hm] at h
   | some pl1 =>
    simp[hs,hm] at h;subst h
    obtain⟨e1,e2⟩:=yf hm
    refine⟨by simp[hs,e1],fun f hf=>?_⟩
    rcases List.mem_cons.1 hf with rfl|hf
    ·exact⟨s,hs⟩
    ·exact e2 f hf
omit h hl hi in
theorem run_build {t:TypeId} {pl:List (Nat × Nat)} (hpl:oN P t=some pl) {inf:TypeInfo} (hinf:P.info? t=some inf) {z:Value} (hz:inf.zero=some z) {parts:Array (Nat × Value)} {cells:Array Value}
  (hf:Instr.fill (pl[·]?) z.cells parts.toList=some cells):(Instr.build t parts).run P w=.ok (.agg cells) w:=by
 unfold oN at hpl
 split at hpl
 ·rename_i fs hu
  obtain⟨e1,e2⟩:=yf hpl
  have hm:(fs.mapM fun f=>(do pure (f.offset,←sizeOf f.type):Sem (Nat × Nat))).run P w=.ok pl.toArray w:=by
   rw[Array.mapM_eq_mapM_toList,Sem.run_map,tY _ (fun f=>(f.offset,(mi P f.type).getD 0)) fs.toList]
   ·simp[e1]
   ·intro x hx
    obtain⟨s,hs⟩:=e2 x hx
    simp only[mi,Option.map_eq_some_iff] at hs
    obtain⟨i,hi,rfl⟩:=hs
    simp[sizeOf,typeInfo,hi,mi]
  unfold Instr.build
  have hzv:(zeroValue t).run P w=.ok z w:=by simp[zeroValue,typeInfo,hinf,hz]
  rw[Sem.run_bind,hzv]
  simp only[Result.andThen_ok]
  rw[Sem.run_bind,run_underlying hu]
  simp only[Result.andThen_ok]
  rw[Sem.run_bind,hm]
  simp only[Result.andThen_ok]
  have:(fun x:Nat=>pl.toArray[x]?)=(fun x:Nat=>pl[x]?):=by funext x;simp
  rw[this,hf]
  rfl
 ·rename_i n el hu
  simp only[mi,Option.map_map,Option.map_eq_some_iff] at hpl
  obtain⟨i,hi,rfl⟩:=hpl
  unfold Instr.build
  have hzv:(zeroValue t).run P w=.ok z w:=by simp[zeroValue,typeInfo,hinf,hz]
  rw[Sem.run_bind,hzv]
  simp only[Result.andThen_ok]
  rw[Sem.run_bind,run_underlying hu]
  simp only[Result.andThen_ok]
  have hsz:(sizeOf el).run P w=.ok i.size w:=by simp[sizeOf,typeInfo,hi]
  rw[Sem.run_bind,hsz]
  simp only[Result.andThen_ok]
  have hfill:∀ (ps:List (Nat × Value)) (zc cells:Array Value),Instr.fill (((List.range n).map fun j=>(j*i.size,i.size))[·]?) zc ps=some cells→Instr.fill (fun j=>some (j*i.size,i.size)) zc ps=some cells:=by
   intro ps
   induction ps with
   | nil=>intro zc cells h;simpa [Instr.fill] using h
   | cons q ps ih =>
    intro zc cells h
    obtain⟨j,v⟩:=q
    simp only[Instr.fill] at h ⊢
    by_cases hj:j<n
    ·have e1:((List.range n).map fun j=>(j*i.size,i.size))[j]?=some (j*i.size,i.size):=by simp[hj]
     rw[e1] at h
     simp only at h ⊢
     split at h
     ·cases h
     ·rename_i hc;rw[if_neg hc];exact ih _ _ h
    ·have e1:((List.range n).map fun j=>(j*i.size,i.size))[j]?=none:=by simp;omega
     rw[e1] at h;cases h
  have:=hfill _ _ _ hf
  simp only[this]
  rfl
 ·cases hpl
omit hi in
theorem Jm {z:List AV} {ps:List (Nat × Nat × Opd)} {v:AV} {e':Env} (hok:gz P ν o.op (.build z ps)=true) (hx:opx e (.build z ps)=some (v,e')):e'=e∧gp P w Φ σ ρ a o v:=by
 simp only[opx] at hx
 simp only[gz] at hok
 split at hok
 ·rename_i t ps' ho
  simp only[Bool.and_eq_true] at hok
  obtain⟨hz,hp⟩:=hok
  split at hp
  ·rename_i pl hpl
   cases hf:rM e z ps with
   | none=>simp[hf] at hx
   | some cs =>
    simp[hf] at hx
    obtain⟨rfl,rfl⟩:=hx
    unfold rF at hz
    split at hz
    ·rename_i zv hzv
     obtain⟨inf,hinf,hzz⟩:=Option.bind_eq_some_iff.1 hzv
     obtain⟨vs',h1,h2,_⟩:=AZ h hl hp hf (lC hz)
     refine⟨rfl,.agg vs'.toArray,?_,fun g hg=>?_⟩
     ·have hr:=run_build (P:=P) (w:=w) hpl hinf hzz (parts:=ps'.map fun p=>(p.1,a.eval p.2)) (by simpa using h1)
      simp only[Yields,execOp,ho]
      rw[Sem.run_bind,hr]
      rfl
     ·simp only[VR]
      exact⟨_,rfl,by rw[Zf hg];simpa using h2⟩
    ·cases hz
  ·cases hp
 ·cases hok
theorem adn {z:List AV} {ps:List (Nat × Nat × Opd)} {v:AV} {e':Env} (hok:gz P ν o.op (.bldt z ps)=true) (hx:opx e (.bldt z ps)=some (v,e')) :
  ∃ cv w',(execOp a.eval o).run P w=.ok (.value cv) w'∧kH P w w' Φ σ ρ f v cv e':=by
 simp only[opx] at hx
 split at hx
 ·rename_i cs hf
  split at hx
  ·rename_i cs' e1 ht
   simp only[Option.some.injEq,Prod.mk.injEq] at hx
   obtain⟨rfl,rfl⟩:=hx
   obtain⟨_,cv,hy,hv⟩:=Jm h hl (z:=z) (ps:=ps) (v:=.agg cs) (e':=e) (by simpa only[gz] using hok) (by simp only[opx,hf])
   have c1:=hv (fun _=>0) (fun _=>rfl)
   simp only[VR] at c1
   obtain⟨arr,e2,hc⟩:=c1
   obtain⟨f1,f2,hcs,he,hf2,_⟩:=ji h hi.sep hc (fun _=>rfl) ht
   exact⟨cv,w,hy,Ext.refl _ _,_,_,by simp only[VR];exact⟨arr,e2,hcs⟩,he,fun b=>by have:=hi.sep b;have:=hf2 b;omega,fun b hb=>by have:=hf2 b;exact⟨.inl (by omega),hi.lt b (by omega)⟩⟩
  ·cases hx
 ·cases hx
theorem auN {el n:Nat} {z:List AV} {ps:List (Nat × Nat × Opd)} {v:AV} {e':Env} (hok:gz P ν o.op (.bsl el n z ps)=true) (hx:opx e (.bsl el n z ps)=some (v,e')) :
  ∃ cv w',(execOp a.eval o).run P w=.ok (.value cv) w'∧kH P w w' Φ σ ρ f v cv e':=by
 simp only[opx] at hx
 simp only[gz] at hok
 split at hok
 ·rename_i t n' ps' ho
  simp only[Bool.and_eq_true,beq_iff_eq,decide_eq_true_eq] at hok
  obtain⟨⟨⟨⟨⟨rfl,h1⟩,h2⟩,h3⟩,h4⟩,h5⟩:=hok
  have hu:=vC h1
  obtain⟨inf,zv,hinf,hs,hs0,hby,hzz,hzs,hco⟩:=qA h2
  unfold rF at h3
  rw[hinf] at h3
  simp only[Option.bind_some,hzz] at h3
  split at hx
  ·rename_i cs hf
   split at hx
   ·rename_i cs' e1 ht
    simp at hx
    obtain⟨rfl,rfl⟩:=hx
    obtain⟨vs',k1,k2,k3⟩:=AZ h hl h5 hf (I4 (lC h3) n)
    obtain⟨f1,f2,hcs,he,hff,_⟩:=ji h hi.sep k2 (fun _=>rfl) ht
    have hhr:=nK ht hcs
    have hzl:z.length=zv.cells.toList.length:=dm (lC h3 (P:=P) (w:=w) (Φ:=Φ) (σ:=σ) (ρ:=ρ))
    have hvl:vs'.length=n*z.length:=by
     rw[←dm k2,k3];simp
    refine⟨.slice (some ⟨w.heap.size,0,none⟩) n n,w.alloc (.cells vs'.toArray el),?_,?_⟩
    ·have hcells:((Array.range (n*inf.size)).map (zv.cells[· % zv.cells.size]!))=(List.replicate n zv.cells.toList).flatten.toArray:=by
      apply Array.ext'
      have:=uo zv.cells n (by omega)
      rw[hs,←hzs]
      simpa [madeCells] using this
     have hnz:¬n*inf.size > 2 ^ 24:=by rw[hs];omega
     have hbs:(Instr.buildSlice t n (ps'.map fun p=>(p.1,a.eval p.2))).run P w=.ok (.slice (some ⟨w.heap.size,0,none⟩) n n) (w.alloc (.cells vs'.toArray el)):=by
      unfold Instr.buildSlice
      rw[Sem.run_bind,run_underlying hu]
      simp only[Result.andThen_ok]
      rw[Sem.run_bind,show (sizeOf el).run P w=.ok inf.size w by simp[sizeOf,typeInfo,hinf]]
      simp only[Result.andThen_ok]
      rw[if_neg hnz]
      have hzv:(zeroValue el).run P w=.ok zv w:=by simp[zeroValue,typeInfo,hinf,hzz]
      by_cases hn0:n*inf.size=0
      ·have hn:n=0:=by
        rcases Nat.mul_eq_zero.1 hn0 with h|h
        ·exact h
        ·omega
       subst hn
       simp only[List.replicate_zero,List.flatten_nil] at k1
       simp[hs,k1,newRow,Array.range_zero']
      ·rw[if_neg hn0,Sem.run_bind]
       simp only[Sem.run_bind,hzv,Result.andThen_ok,Sem.run_pure]
       rw[hcells,hs]
       have:Instr.fill (fun i=>some (i*z.length,z.length)) (List.replicate n zv.cells.toList).flatten.toArray (ps'.map fun p=>(p.1,a.eval p.2)).toList=some vs'.toArray:=by simpa using k1
       rw[this]
       simp[newRow]
     simp only[execOp,ho]
     rw[Sem.run_bind,hbs]
     rfl
    ·refine rW h hl hi _ he hff ?_
     simp only[VR]
     refine⟨fun h=>absurd rfl h,hhr,vs',f1,?_,xW h hl hi _ hff hcs,fun b=>by simp[jF,Value.ownBlock,eq_comm]⟩
     have:=World.ownsRow_lit (base:=0) (e:=el) (size:=z.length) w vs'.toArray n (Nat.zero_le _) (by simp only[maxLen];have:=Nat.le_mul_of_pos_right n hs0;omega) (by simpa using hvl)
     rw[hco];simpa using this
   ·cases hx
  ·cases hx
 ·cases hok
end
end
end Go.AM
