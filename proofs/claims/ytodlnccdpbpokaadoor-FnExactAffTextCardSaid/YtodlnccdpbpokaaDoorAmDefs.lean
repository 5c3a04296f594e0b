/- The abstract machine: values without memory, its code, how it runs. No statement of the claim stands here. -/
import Derived.Tactics
import Derived.Laws.OwnMore
import Derived.OwnWalk
set_option linter.unusedVariables false
namespace Go.AM
open Go

/-- Abstract values. A cell is any of these but 'agg' and 'tup'. -/
inductive AV where
  | dead
  | gone
  | int (k : IntKind) (n : Int)
  | bool (b : Bool)
  | str (s : List UInt8)
  | fn (f : Nat) (caps : List AV)
  | nilf
  | nsl (t : Bool)
  | rsl (n : Nat) (cs : List AV)
  | rp (cs : List AV)
  | osl (s : Nat) (e : Nat) (n : Nat) (cs : List AV)
  | bx (s : Nat) (t : Nat) (cs : List AV)
  | agg (cs : List AV)
  | tup (sh : List (Option Nat)) (cs : List AV)
  | ps (r : Nat) (p : List Nat) (o : Nat)
  | pp (r : Nat) (p : List Nat) (o : Nat)
  | pf (r : Nat) (p : List Nat) (o : Nat)

instance : Inhabited AV := ⟨.dead⟩
abbrev Env := List AV

def cellsOf : AV → List AV
  | .agg cs => cs
  | .tup _ cs => cs
  | v => [v]
def withCells : AV → List AV → AV
  | .agg _, cs => .agg cs
  | .tup sh _, cs => .tup sh cs
  | _, cs => cs.headD .dead
/-- The row behind an owned cell. -/
def inner : AV → Option (List AV)
  | .osl _ _ _ (c :: cs) => some (c :: cs)
  | .bx _ _ cs => some cs
  | _ => none
def withInner : AV → List AV → AV
  | .osl s e n _, cs => .osl s e n cs
  | .bx s t _, cs => .bx s t cs
  | v, _ => v
def rowAt : List AV → List Nat → Option (List AV)
  | cs, [] => some cs
  | cs, o :: p => match cs[o]? with
    | some v => match inner v with
      | some ics => rowAt ics p
      | none => none
    | none => none
def setRow : List AV → List Nat → List AV → List AV
  | _, [], row => row
  | cs, o :: p, row => match cs[o]? with
    | some v => match inner v with
      | some ics => cs.set o (withInner v (setRow ics p row))
      | none => cs
    | none => cs
def rowE (e : Env) (r : Nat) (p : List Nat) : Option (List AV) :=
  match e[r]? with
  | some .dead => none
  | some .gone => none
  | some v => rowAt (cellsOf v) p
  | none => none
def setRowE (e : Env) (r : Nat) (p : List Nat) (row : List AV) : Env :=
  match e[r]? with
  | some v => e.set r (withCells v (setRow (cellsOf v) p row))
  | none => e

/-- A cell as it is handed out: what is owned stays where it is, a reference goes. -/
def lz1 (r : Nat) (p : List Nat) (o : Nat) : AV → AV
  | .osl _ _ _ _ => .ps r p o
  | .bx _ _ _ => .pp r (p ++ [o]) 0
  | .fn f [] => .fn f []
  | .fn _ (_ :: _) => .pf r p o
  | .agg _ => .gone
  | .tup _ _ => .gone
  | c => c
def lzc (r : Nat) (p : List Nat) : Nat → List AV → List AV
  | _, [] => []
  | o, c :: cs => lz1 r p o c :: lzc r p (o + 1) cs
def lzv (j : Nat) : AV → AV
  | .agg cs => .agg (lzc j [] 0 cs)
  | .tup _ _ => .gone
  | v => lz1 j [] 0 v

def isRef1 : AV → Bool
  | .ps _ _ _ => true
  | .pp _ _ _ => true
  | .pf _ _ _ => true
  | _ => false
def isRef : AV → Bool
  | .fn _ cs => cs.any isRef1
  | .agg _ => true
  | .tup _ _ => true
  | v => isRef1 v
def hasRef : AV → Bool
  | .agg cs => cs.any isRef
  | .tup _ cs => cs.any isRef
  | v => isRef v
/-- All references struck. -/
def killE (e : Env) : Env := e.map fun v => if hasRef v then .dead else v
/-- No reference into slot j. -/
def refOk (j : Nat) : AV → Bool
  | .ps r _ _ => r != j
  | .pp r _ _ => r != j
  | .pf r _ _ => r != j
  | v => !isRef v
def valOk (j : Nat) : AV → Bool
  | .agg cs => cs.all (refOk j)
  | .tup _ cs => cs.all (refOk j)
  | v => refOk j v
/-- The references into slot j struck. -/
def killJ (j : Nat) (e : Env) : Env := e.map fun v => if valOk j v then v else .dead
/-- A reference whose place is there; or none at all. -/
def liveC (e : Env) : AV → Bool
  | .ps r p _ => (rowE e r p).isSome
  | .pp r p _ => (rowE e r p).isSome
  | .pf r p _ => (rowE e r p).isSome
  | v => !isRef v
def liveV (e : Env) : AV → Bool
  | .agg cs => cs.all (liveC e)
  | .tup _ cs => cs.all (liveC e)
  | v => liveC e v
/-- The references struck whose place is not there. -/
def killL (e : Env) : Env := e.map fun v => if liveV e v then v else .dead
def rootOk (e : Env) (r : Nat) : Bool := match e[r]? with
  | some u => !hasRef u
  | none => false
/-- A number, a flag, a text, a function without captured variables: no memory behind it. -/
def isScalar : AV → Bool
  | .int _ _ => true
  | .bool _ => true
  | .str _ => true
  | _ => false

/-- Take a cell: what a reference names is moved out of its place. -/
def takeC (e : Env) : AV → Option (AV × Env)
  | .ps r p o => match rowE e r p with
    | some row => match row[o]? with
      | some (.osl s t n cs) => some (.osl s t n cs, setRowE e r p (row.set o .gone))
      | _ => none
    | none => none
  | .pp r p o => if o = 0 then match p.getLast? with
      | some k => match rowE e r p.dropLast with
        | some row => match row[k]? with
          | some (.bx s t cs) => some (.bx s t cs, setRowE e r p.dropLast (row.set k .gone))
          | _ => none
        | none => none
      | none => none
    else none
  | .int k n => some (.int k n, e)
  | .bool b => some (.bool b, e)
  | .str s => some (.str s, e)
  | .fn f [] => some (.fn f [], e)
  | .nilf => some (.nilf, e)
  | .nsl t => some (.nsl t, e)
  | .rsl n cs => some (.rsl n cs, e)
  | .rp cs => some (.rp cs, e)
  | .osl s t 0 [] => some (.osl s t 0 [], e)
  | _ => none
def takeCs (e : Env) : List AV → Option (List AV × Env)
  | [] => some ([], e)
  | c :: cs => match takeC e c with
    | some (c', e1) => match takeCs e1 cs with
      | some (cs', e2) => some (c' :: cs', e2)
      | none => none
    | none => none
/-- Take a whole value. -/
def takeV (e : Env) : AV → Option (AV × Env)
  | .agg cs => match takeCs e cs with
    | some (cs', e') => some (.agg cs', e')
    | none => none
  | .tup _ _ => none
  | v => takeC e v

/- What is owned, frozen: cells. -/
mutual
def frzC : AV → Option AV
  | .osl _ _ n cs => match frzs cs with | some cs' => some (.rsl n cs') | none => none
  | .bx _ _ cs => match frzs cs with | some cs' => some (.rp cs') | none => none
  | .int k n => some (.int k n)
  | .bool b => some (.bool b)
  | .str s => some (.str s)
  | .fn f [] => some (.fn f [])
  | .nilf => some .nilf
  | .nsl t => some (.nsl t)
  | .rsl n cs => some (.rsl n cs)
  | .rp cs => some (.rp cs)
  | _ => none
def frzs : List AV → Option (List AV)
  | [] => some []
  | c :: cs => match frzC c with
    | some c' => match frzs cs with
      | some cs' => some (c' :: cs')
      | none => none
    | none => none
end
/-- A value, frozen. -/
def frz : AV → Option AV
  | .agg cs => match frzs cs with | some cs' => some (.agg cs') | none => none
  | .tup sh cs => match frzs cs with | some cs' => some (.tup sh cs') | none => none
  | v => frzC v

/- Nothing frozen in it (so it shares no memory that somebody else may write later). -/
mutual
def noFrz : AV → Bool
  | .osl _ _ _ cs => noFrzs cs
  | .bx _ _ cs => noFrzs cs
  | .agg cs => noFrzs cs
  | .tup _ cs => noFrzs cs
  | .fn _ cs => noFrzs cs
  | .rsl _ [] => true
  | .rsl _ (_ :: _) => false
  | .rp _ => false
  | _ => true
def noFrzs : List AV → Bool
  | [] => true
  | c :: cs => noFrz c && noFrzs cs
end

/-- What may stand in frozen memory. -/
def isFz : AV → Bool
  | .int _ _ => true
  | .bool _ => true
  | .str _ => true
  | .fn _ [] => true
  | .nilf => true
  | .nsl _ => true
  | .rsl _ _ => true
  | .rp _ => true
  | _ => false
/-- What a function value may capture. -/
def capOk (c : AV) : Bool := isRef1 c || isFz c

/-! ### Operations -/
inductive Opd where
  | slot (j : Nat)
  | con (v : AV)

def ev (e : Env) : Opd → Option AV
  | .slot j => match e[j]? with
    | some v => some (lzv j v)
    | none => none
  | .con v => some v

/-- Bound: what is made has at most so many elements. -/
def bnd : Nat := 4294967296

inductive SOp where
  | mv (x : Opd)
  | asg (x : Opd)
  | pick (c a b : Opd)
  | mk (t : Nat) (zero : List AV)
  | box (t : Nat) (sz : Nat) (x : Opd)
  | build (zero : List AV) (parts : List (Nat × Nat × Opd))
  | bsl (e : Nat) (n : Nat) (zero : List AV) (parts : List (Nat × Nat × Opd))
  | load (sz : Nat) (ag : Bool) (x : Opd)
  | store (sz : Nat) (st : Bool) (a x : Opd)
  | bin (op : BinOp) (x y : Opd)
  | beq (ne : Bool) (x y : Opd)
  | not (x : Opd)
  | neg (x : Opd)
  | conv (k : IntKind) (x : Opd)
  | mkf (f : Nat) (caps : List Opd)
  | mksl (e : Nat) (zero : List AV) (len cap : Opd)
  | slice (st : Bool) (sz : Nat) (x : Opd) (lo hi : Option Opd)
  | faddr (off : Nat) (x : Opd)
  | iaddr (sz : Nat) (x i : Opd)
  | idx (x i : Opd)
  | len (st : Bool) (x : Opd)
  | minmax (mx : Bool) (x y : Opd)
  | append (e : Nat) (sz : Nat) (s x : Opd)
  | ext (j ix : Nat)
  | aidx (sz : Nat) (ag : Bool) (n : Nat) (x i : Opd)
  | b2s (x : Opd)
  | isnil (ne : Bool) (x : Opd)
  | sbeq (ne : Bool) (ks : List Nat) (x y : Opd)
  | cut (sz : Nat) (x hi : Opd)
  | mvt (j : Nat)

/-- Are cells the same? ks: numbers 0, flags 1, texts 2. -/
def eqC : List Nat → List AV → List AV → Option Bool
  | [], [], [] => some true
  | 0 :: ks, .int k a :: cs, .int k' b :: ds => if k = k' then match eqC ks cs ds with
      | some r => some (a == b && r)
      | none => none
    else none
  | 1 :: ks, .bool a :: cs, .bool b :: ds => match eqC ks cs ds with
    | some r => some (a == b && r)
    | none => none
  | 2 :: ks, .str a :: cs, .str b :: ds => match eqC ks cs ds with
    | some r => some (a == b && r)
    | none => none
  | _, _, _ => none
/-- Bytes as a text. -/
def bytesOf : List AV → Option (List UInt8)
  | [] => some []
  | .int .u8 n :: r => match bytesOf r with
    | some l => some (UInt8.ofNat n.toNat :: l)
    | none => none
  | _ :: _ => none
def bitsX (op : BinOp) (k : IntKind) (a b : Int) : Int := match op with
  | .and => k.wrap (BitVec.ofInt k.bits a &&& BitVec.ofInt k.bits b).toNat
  | .or => k.wrap (BitVec.ofInt k.bits a ||| BitVec.ofInt k.bits b).toNat
  | .xor => k.wrap (BitVec.ofInt k.bits a ^^^ BitVec.ofInt k.bits b).toNat
  | _ => k.wrap (BitVec.ofInt k.bits a &&& ~~~(BitVec.ofInt k.bits b)).toNat

def mkv (ag : Bool) (cs : List AV) : Option AV :=
  if ag then some (.agg cs) else match cs with
    | [c] => some c
    | _ => none
def splice (cs : List AV) (off : Nat) (xs : List AV) : List AV := cs.take off ++ xs ++ cs.drop (off + xs.length)
def fillP (e : Env) (cs : List AV) : List (Nat × Nat × Opd) → Option (List AV)
  | [] => some cs
  | (off, sz, x) :: ps => match ev e x with
    | some .dead => none
    | some .gone => none
    | some v => if (cellsOf v).length = sz ∧ off + sz ≤ cs.length then fillP e (splice cs off (cellsOf v)) ps else none
    | none => none
def evs (e : Env) : List Opd → Option (List AV)
  | [] => some []
  | x :: xs => match ev e x with
    | some v => match evs e xs with
      | some vs => some (v :: vs)
      | none => none
    | none => none
def binX (op : BinOp) : AV → AV → Option AV
  | .int k a, .int k' b =>
    if k = k' then match op with
      | .add => some (.int k (k.wrap (a + b)))
      | .sub => some (.int k (k.wrap (a - b)))
      | .mul => some (.int k (k.wrap (a * b)))
      | .quo => if b = 0 then none else some (.int k (k.wrap (a.tdiv b)))
      | .rem => if b = 0 then none else some (.int k (a.tmod b))
      | .eql => some (.bool (a == b))
      | .neq => some (.bool (a != b))
      | .lss => some (.bool (a < b))
      | .leq => some (.bool (a ≤ b))
      | .gtr => some (.bool (a > b))
      | .geq => some (.bool (a ≥ b))
      | .and => some (.int k (bitsX .and k a b))
      | .or => some (.int k (bitsX .or k a b))
      | .xor => some (.int k (bitsX .xor k a b))
      | .andNot => some (.int k (bitsX .andNot k a b))
      | _ => none
    else none
  | .str a, .str b => match op with
    | .add => if a.length + b.length ≤ bnd then some (.str (a ++ b)) else none
    | .eql => some (.bool (a == b))
    | .neq => some (.bool (a != b))
    | .lss => some (.bool (Op.bytesLess a b))
    | .leq => some (.bool (Op.bytesLess a b || a == b))
    | .gtr => some (.bool (!(Op.bytesLess a b || a == b)))
    | .geq => some (.bool (!(Op.bytesLess a b)))
    | _ => none
  | _, _ => none
def lenX (e : Env) : Bool → AV → Option Nat
  | true, .str s => some s.length
  | false, .rsl n _ => some n
  | false, .nsl _ => some 0
  | false, .ps r p o => match rowE e r p with
    | some row => match row[o]? with
      | some (.osl _ _ n _) => some n
      | _ => none
    | none => none
  | _, _ => none
/-- The cells that an append takes over. -/
def elemsX (e : Env) (el sz : Nat) : AV → Option (Nat × List AV × Env)
  | .rsl n cs => if cs.length = n * sz then some (n, cs, e) else none
  | .ps r p o => match rowE e r p with
    | some row => match row[o]? with
      | some (.osl _ t n cs) => if t = el then match takeCs e (lzc r (p ++ [o]) 0 cs) with
        | some (cs', e') => some (n, cs', e')
        | none => none
        else none
      | _ => none
    | none => none
  | .osl _ _ 0 [] => some (0, [], e)
  | .nsl _ => some (0, [], e)
  | _ => none
/-- Is a slice none? -/
def nilX (e : Env) : AV → Option Bool
  | .nsl t => some t
  | v => match lenX e false v with
    | some (_ + 1) => some false
    | _ => none
def optI (e : Env) (d : Nat) : Option Opd → Option Int
  | none => some d
  | some x => match ev e x with
    | some (.int _ i) => some i
    | _ => none

/-- Where a tuple's component begins. -/
def offT : List (Option Nat) → Nat → Nat
  | _, 0 => 0
  | [], _ => 0
  | n :: sh, ix + 1 => n.getD 1 + offT sh ix

/-- An append, before references are struck. -/
def appX (e : Env) (t sz : Nat) (s x : Opd) : Option (AV × Env) := match ev e s, ev e x with
  | some sv, some xv => match elemsX e t sz xv with
    | some (m, new, e1) => match takeC e1 sv with
      | some (.osl _ t' n cs, e2) => if t' = t ∧ n + m ≤ bnd then some (.osl 0 t (n + m) (cs ++ new), e2) else none
      | _ => none
    | none => none
  | _, _ => none
/-- The head of an owned slice, taken. -/
def cutX (e : Env) (sz : Nat) (x hi : Opd) : Option (AV × Env) := match ev e x, ev e hi with
  | some xv, some (.int _ m) => match takeC e xv with
    | some (.osl _ t n cs, e') => if 0 ≤ m ∧ m ≤ (n : Int) ∧ cs.length = n * sz then some (.osl 0 t m.toNat (cs.take (m.toNat * sz)), e') else none
    | _ => none
  | _, _ => none
/-- What an operation yields, and what becomes of the slots. -/
def opx (e : Env) : SOp → Option (AV × Env)
  | .mv x => match ev e x with
    | some v => some (v, e)
    | none => none
  | .mvt j => match e[j]? with
    | some (.tup sh cs) => some (.tup sh (lzc j [] 0 cs), e)
    | _ => none
  | .asg x => match ev e x with
    | some v => takeV e v
    | none => none
  | .pick c a b => match ev e c with
    | some (.bool t) => match ev e (if t then a else b) with
      | some v => some (v, e)
      | none => none
    | _ => none
  | .mk t zero => some (.bx 0 t zero, e)
  | .box t sz x => match ev e x with
    | some v => if (cellsOf v).length = sz then match takeCs e (cellsOf v) with
        | some (cs, e') => some (.bx 0 t cs, e')
        | none => none
      else none
    | none => none
  | .build zero parts => match fillP e zero parts with
    | some cs => some (.agg cs, e)
    | none => none
  | .bsl t n zero parts => match fillP e (List.replicate n zero).flatten parts with
    | some cs => match takeCs e cs with
      | some (cs', e') => some (.osl 0 t n cs', e')
      | none => none
    | none => none
  | .load sz ag x => match ev e x with
    | some (.rp cs) => if sz ≤ cs.length then match mkv ag (cs.take sz) with
        | some v => some (v, e)
        | none => none
      else none
    | some (.pp r p o) => match rowE e r p with
      | some row => if o + sz ≤ row.length then match mkv ag (lzc r p o ((row.drop o).take sz)) with
          | some v => some (v, e)
          | none => none
        else none
      | none => none
    | _ => none
  | .store sz st a x => match ev e a, ev e x with
    | some (.pp r p o), some v => if (cellsOf v).length = sz ∧ p ≠ [] then match takeCs e (cellsOf v) with
        | some (cs, e1) => match rowE (if st then killE e1 else e1) r p with
          | some row => if o + sz ≤ row.length ∧ rootOk (if st then killE e1 else e1) r = true ∧ (st = false → cs.all isScalar = true ∧ ((row.drop o).take sz).all isScalar = true)
            then some (.dead, setRowE (if st then killE e1 else e1) r p (splice row o cs))
            else none
          | none => none
        | none => none
      else none
    | _, _ => none
  | .bin op x y => match ev e x, ev e y with
    | some a, some b => match binX op a b with
      | some v => some (v, e)
      | none => none
    | _, _ => none
  | .beq ne x y => match ev e x, ev e y with
    | some (.bool a), some (.bool b) => some (.bool (if ne then a != b else a == b), e)
    | _, _ => none
  | .not x => match ev e x with
    | some (.bool b) => some (.bool (!b), e)
    | _ => none
  | .neg x => match ev e x with
    | some (.int k n) => some (.int k (k.wrap (0 - n)), e)
    | _ => none
  | .conv k x => match ev e x with
    | some (.int _ n) => some (.int k (k.wrap n), e)
    | _ => none
  | .mkf f caps => match evs e caps with
    | some vs => if vs.all capOk = true then some (.fn f vs, e) else none
    | none => none
  | .mksl t zero l c => match ev e l, ev e c with
    | some (.int _ l), some (.int _ c) => if 0 ≤ l ∧ l = c ∧ c ≤ (bnd : Int) then some (.osl 0 t l.toNat (List.replicate l.toNat zero).flatten, e) else none
    | _, _ => none
  | .slice st sz x lo hi => match st, ev e x with
    | false, some (.rsl n cs) => match optI e 0 lo, optI e n hi with
      | some l, some h => if 0 ≤ l ∧ l ≤ h ∧ h ≤ (n : Int) then some (.rsl (h - l).toNat ((cs.drop (l.toNat * sz)).take ((h - l).toNat * sz)), e) else none
      | _, _ => none
    | true, some (.str s) => match optI e 0 lo, optI e s.length hi with
      | some l, some h => if 0 ≤ l ∧ l ≤ h ∧ h ≤ (s.length : Int) then some (.str ((s.drop l.toNat).take (h - l).toNat), e) else none
      | _, _ => none
    | _, _ => none
  | .faddr off x => match ev e x with
    | some (.rp cs) => if off ≤ cs.length then some (.rp (cs.drop off), e) else none
    | some (.pp r p o) => some (.pp r p (o + off), e)
    | _ => none
  | .iaddr sz x i => match ev e x, ev e i with
    | some (.rsl n cs), some (.int _ i) => if 0 ≤ i ∧ i < (n : Int) then some (.rp (cs.drop (i.toNat * sz)), e) else none
    | some (.ps r p o), some (.int _ i) => match rowE e r p with
      | some row => match row[o]? with
        | some (.osl _ _ n _) => if 0 ≤ i ∧ i < (n : Int) then some (.pp r (p ++ [o]) (i.toNat * sz), e) else none
        | _ => none
      | none => none
    | _, _ => none
  | .idx x i => match ev e x, ev e i with
    | some (.str s), some (.int _ i) => if 0 ≤ i ∧ i < (s.length : Int) then some (.int .u8 (s.getD i.toNat 0).toNat, e) else none
    | _, _ => none
  | .len st x => match ev e x with
    | some v => match lenX e st v with
      | some n => some (.int .i64 n, e)
      | none => none
    | none => none
  | .minmax mx x y => match ev e x, ev e y with
    | some (.int k a), some (.int k' b) => if k = k' then some (.int k (if mx then (if b > a then b else a) else (if b < a then b else a)), e) else none
    | _, _ => none
  | .append t sz s x => match appX e t sz s x with
    | some (v, e2) => some (v, killL e2)
    | none => none
  | .ext j ix => match e[j]? with
    | some (.tup sh cs) => match sh[ix]? with
      | some none => match cs[offT sh ix]? with
        | some c => some (lz1 j [] (offT sh ix) c, e)
        | none => none
      | some (some n) => if offT sh ix + n ≤ cs.length then some (.agg (lzc j [] (offT sh ix) ((cs.drop (offT sh ix)).take n)), e) else none
      | none => none
    | _ => none
  | .aidx sz ag n x i => match ev e x, ev e i with
    | some (.agg cs), some (.int _ i) => if 0 ≤ i ∧ i < (n : Int) ∧ i.toNat * sz + sz ≤ cs.length then match mkv ag ((cs.drop (i.toNat * sz)).take sz) with
        | some v => some (v, e)
        | none => none
      else none
    | _, _ => none
  | .cut sz x hi => cutX e sz x hi
  | .sbeq ne ks x y => match ev e x, ev e y with
    | some (.agg cs), some (.agg ds) => match eqC ks cs ds with
      | some b => some (.bool (if ne then !b else b), e)
      | none => none
    | _, _ => none
  | .isnil ne x => match ev e x with
    | some v => match nilX e v with
      | some b => some (.bool (if ne then !b else b), e)
      | none => none
    | none => none
  | .b2s x => match ev e x with
    | some (.rsl n cs) => match bytesOf cs with
      | some l => if cs.length = n then some (.str l, e) else none
      | none => none
    | some (.ps r p o) => match rowE e r p with
      | some row => match row[o]? with
        | some (.osl _ _ n cs) => match bytesOf cs with
          | some l => if cs.length = n then some (.str l, e) else none
          | none => none
        | _ => none
      | none => none
    | _ => none

/- Is there a reference anywhere in it? -/
mutual
def hr : AV → Bool
  | .ps _ _ _ => true
  | .pp _ _ _ => true
  | .pf _ _ _ => true
  | .fn _ cs => hrs cs
  | .osl _ _ _ cs => hrs cs
  | .bx _ _ cs => hrs cs
  | .agg cs => hrs cs
  | .tup _ cs => hrs cs
  | _ => false
def hrs : List AV → Bool
  | [] => false
  | c :: cs => hr c || hrs cs
end


/-! ### Given away for a call's time -/
/- No stamp in it. -/
mutual
def noSt : AV → Bool
  | .osl s _ _ cs => s == 0 && noSts cs
  | .bx s _ cs => s == 0 && noSts cs
  | .agg cs => noSts cs
  | .tup _ cs => noSts cs
  | .fn _ cs => noSts cs
  | _ => true
def noSts : List AV → Bool
  | [] => true
  | c :: cs => noSt c && noSts cs
end
/-- A place to give back to: a cell, or what a function value in a slot has captured. -/
inductive Bk where
  | pl (r : Nat) (p : List Nat) (o : Nat) (s : Nat)
  | cl (r : Nat) (g : Nat) (ss : List Nat)
  | sl (r : Nat) (s : Nat)
def nB : List Bk → Nat
  | [] => 0
  | .pl _ _ _ _ :: bs => nB bs + 1
  | .cl _ _ ss :: bs => nB bs + ss.length
  | .sl _ _ :: bs => nB bs + 1
/-- Is the slot itself owned? -/
def ownS (e : Env) (r : Nat) : Bool := match e[r]? with
  | some (.osl _ _ _ _) => true
  | some (.bx _ _ _) => true
  | _ => false
/-- The place: a whole slot, or a cell of a row. -/
def bkOf (e : Env) (r : Nat) (p : List Nat) (o s : Nat) : Bk := if p = [] ∧ o = 0 ∧ ownS e r = true then .sl r s else .pl r p o s
/-- A cell that is given for a call's time, with a stamp. -/
def giveC (e : Env) (s : Nat) : AV → Option (AV × Env × List Bk)
  | .ps r p o => match rowE e r p with
    | some row => match row[o]? with
      | some (.osl s0 t n cs) => if noSts cs = true then some (.osl s t n cs, setRowE e r p (row.set o .gone), [bkOf e r p o s0]) else none
      | _ => none
    | none => none
  | .pp r p o => if o = 0 then match p.getLast? with
      | some k => match rowE e r p.dropLast with
        | some row => match row[k]? with
          | some (.bx s0 t cs) => if noSts cs = true then some (.bx s t cs, setRowE e r p.dropLast (row.set k .gone), [bkOf e r p.dropLast k s0]) else none
          | _ => none
        | none => none
      | none => none
    else none
  | .pf _ _ _ => none
  | c => if isFz c = true then some (c, e, []) else none
def giveCs (e : Env) (s : Nat) : List AV → Option (List AV × Env × List Bk)
  | [] => some ([], e, [])
  | c :: cs => match giveC e s c with
    | some (c', e1, b) => match giveCs e1 (s + nB b) cs with
      | some (cs', e2, b') => some (c' :: cs', e2, b ++ b')
      | none => none
    | none => none
/-- What a function value owns, stamped. -/
def stampL : Nat → List AV → Option (List AV × List Nat)
  | _, [] => some ([], [])
  | s, .osl s0 t n cs :: r => if noSts cs = true then match stampL (s + 1) r with
      | some (r', ss) => some (.osl s t n cs :: r', s0 :: ss)
      | none => none
    else none
  | s, .bx s0 t cs :: r => if noSts cs = true then match stampL (s + 1) r with
      | some (r', ss) => some (.bx s t cs :: r', s0 :: ss)
      | none => none
    else none
  | _, _ => none
def giveF (e : Env) (s r : Nat) : Option (Nat × List AV × Env × List Bk) := match e[r]? with
  | some (.fn g caps) => if hrs caps = true then match giveCs e s caps with
      | some (cs', e', b) => some (g, cs', e', b)
      | none => none
    else match stampL s caps with
      | some (cs', ss) => some (g, cs', e.set r .gone, [.cl r g ss])
      | none => none
  | _ => none
def giveV (e : Env) (s : Nat) : AV → Option (AV × Env × List Bk)
  | .agg cs => match giveCs e s cs with
    | some (cs', e', b) => some (.agg cs', e', b)
    | none => none
  | .pf r p o => if p = [] ∧ o = 0 then match giveF e s r with
      | some (g, cs', e', b) => some (.fn g cs', e', b)
      | none => none
    else none
  | v => giveC e s v
/-- A frozen function value. -/
def calleeC (e : Env) (x : Opd) : Option (Nat × List AV) := match ev e x with
  | some (.fn g []) => some (g, [])
  | some (.pf r p o) => if p = [] ∧ o = 0 then match e[r]? with
      | some (.fn g caps) => if caps.all isFz = true then some (g, caps) else none
      | _ => none
    else none
  | _ => none
def calleeM (e : Env) (s : Nat) (x : Opd) : Option (Nat × List AV × Env × List Bk) := match calleeC e x with
  | some (g, caps) => some (g, caps, e, [])
  | none => match ev e x with
    | some (.pf r p o) => if p = [] ∧ o = 0 then giveF e s r else none
    | _ => none
def give1 : Env → Nat → List (Opd × Bool) → Option (Env × List Bk × List (Option AV))
  | e, _, [] => some (e, [], [])
  | e, s, (_, false) :: xs => match give1 e s xs with
    | some (e', b, vs) => some (e', b, none :: vs)
    | none => none
  | e, s, (x, true) :: xs => match ev e x with
    | some v => match giveV e s v with
      | some (v', e1, b) => match give1 e1 (s + nB b) xs with
        | some (e', b', vs) => some (e', b ++ b', some v' :: vs)
        | none => none
      | none => none
    | none => none
def reSt (s : Nat) : AV → AV
  | .osl _ e n cs => .osl s e n cs
  | .bx _ t cs => .bx s t cs
  | v => v
def reSts : List Nat → List AV → List AV
  | s :: ss, v :: vs => reSt s v :: reSts ss vs
  | _, _ => []
def inSt : AV → Bool
  | .osl _ _ _ cs => noSts cs
  | .bx _ _ cs => noSts cs
  | .gone => true
  | _ => false
def putCl (e : Option Env) (r g : Nat) (ss : List Nat) (vs : List AV) : Option Env := match e with
  | some e1 => match e1[r]? with
    | some .gone => some (e1.set r (.fn g (reSts ss (vs.take ss.length))))
    | _ => none
  | none => none
def putBks (e : Env) : List Bk → List AV → Option Env
  | [], [] => some e
  | .pl r p o s :: bs, v :: vs => match putBks e bs vs with
    | some e1 => match rowE e1 r p with
      | some row => match row[o]? with
        | some .gone => some (setRowE e1 r p (row.set o (reSt s v)))
        | _ => none
      | none => none
    | none => none
  | .sl r s :: bs, v :: vs => match putBks e bs vs with
    | some e1 => match e1[r]? with
      | some .gone => some (e1.set r (reSt s v))
      | _ => none
    | none => none
  | .cl r g ss :: bs, vs => if ss.length ≤ vs.length then putCl (putBks e bs (vs.drop ss.length)) r g ss vs else none
  | _, _ => none
def bksOk (e : Env) (bs : List Bk) : Bool := bs.all fun b => match b with
  | .pl r p _ _ => (rowE e r p).isSome
  | .cl _ _ _ => true
  | .sl _ _ => true
def num : Nat → List AV → List (Nat × AV)
  | _, [] => []
  | s, v :: vs => (s, v) :: num (s + 1) vs
def outOk (n : Nat) (live : Bool) (res : AV) (outs : List AV) : Bool := (outs.length == n) && noSt res && outs.all inSt && (!live || (noFrz res && noFrzs outs))

/-! ### Calls, regions, code -/

/-- A copy for reading: what is owned is seen as frozen while the call lasts. -/
def snapC (e : Env) : AV → Option (AV × Bool)
  | .ps r p o => match rowE e r p with
    | some row => match row[o]? with
      | some (.osl s t n cs) => match frzC (.osl s t n cs) with
        | some v => some (v, true)
        | none => none
      | _ => none
    | none => none
  | .pp r p o => if p = [] then none else match rowE e r p with
    | some row => match frzs row with
      | some cs => some (.rp (cs.drop o), true)
      | none => none
    | none => none
  | .osl _ _ 0 [] => some (.rsl 0 [], false)
  | c => if isFz c then some (c, false) else none
def snapCs (e : Env) : List AV → Option (List AV × Bool)
  | [] => some ([], false)
  | c :: cs => match snapC e c with
    | some (c', b) => match snapCs e cs with
      | some (cs', b') => some (c' :: cs', b || b')
      | none => none
    | none => none
def snapV (e : Env) : AV → Option (AV × Bool)
  | .agg cs => match snapCs e cs with
    | some (cs', b) => some (.agg cs', b)
    | none => none
  | .pf r p o => if p = [] ∧ o = 0 then match e[r]? with
      | some (.fn g caps) => if caps.all capOk = true then match snapCs e caps with
          | some (cs', b) => some (.fn g cs', b)
          | none => none
        else none
      | _ => none
    else none
  | v => snapC e v

/-- The arguments of a call: their values, whether something owned is seen. -/
def prepX (e : Env) : List Opd → Option (List AV × Bool)
  | [] => some ([], false)
  | x :: xs => match ev e x with
    | some v => match snapV e v with
      | some (v', b) => match prepX e xs with
        | some (vs, b') => some (v' :: vs, b || b')
        | none => none
      | none => none
    | none => none

/-- The arguments that are only read, behind those that are given away. -/
def give2 (e : Env) : List (Opd × Bool) → List (Option AV) → Option (List AV × Bool)
  | [], [] => some ([], false)
  | (_, _) :: xs, some v :: vs => match give2 e xs vs with
    | some (us, b) => some (v :: us, b)
    | none => none
  | (x, _) :: xs, none :: vs => match ev e x with
    | some v => match snapV e v with
      | some (v', b) => match give2 e xs vs with
        | some (us, b') => some (v' :: us, b || b')
        | none => none
      | none => none
    | none => none
  | _, _ => none

inductive SK where
  | op (o : SOp)
  | call (f : Nat) (args : List Opd) (fr : Bool)
  | callv (x : Opd) (args : List Opd)
  | callm (x : Opd) (args : List (Opd × Bool))

structure SOpr where
  k : SK
  dst : Option Nat := none
  guard : Option (Nat × Bool) := none

inductive SCode where
  | skip
  | reg (D : List Nat) (ops : List SOpr)
  | dreg (D : List Nat) (ops : List SOpr) (sees : List (List Nat)) (t : Nat) (cons : List (Nat × Nat)) (info : List (List Bool × Option (List Nat))) (fin : List Bool)
  | dregm (j k : Nat) (D : List Nat) (ops : List SOpr) (sees : List (List Nat)) (t : Nat) (cons : List (Nat × Nat)) (info : List (List Bool × Option (List Nat))) (fin : List Bool)
  | bad
  | seq (a b : SCode)
  | cond (x : Opd) (a b : SCode)
  | condk (x : Opd) (a b : SCode)
  | block (id : Nat) (b : SCode)
  | loop (b : SCode)
  | exit (id : Nat)
  | ret

/-- The value of operation k of a region goes into its own slot, or into a variable (then no reference outlives it). -/
def putV (m k : Nat) (dst : Option Nat) (v : AV) (e : Env) : Option Env :=
  match dst with
  | none => some (e.set (m + k) v)
  | some j => if j < m ∧ hasRef v = false then some ((killJ j e).set j v) else none
end Go.AM
