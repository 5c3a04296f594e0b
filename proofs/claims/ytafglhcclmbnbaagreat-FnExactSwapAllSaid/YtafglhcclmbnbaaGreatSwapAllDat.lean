import Derived.Test.YtafglhcclmbnbaaGreatAmGrow
set_option linter.unusedSimpArgs false
set_option linter.unusedVariables false
namespace Go.AmC
open Go Go.AM
structure Exp where
 K:Int
 N:Int
 S:List UInt8
 L:List Exp
def Exp.d:Exp→List D
 | ⟨aK,aN,aS,aL⟩=>[.I .i64 aK,.I .i64 aN,.S aS,.L 72 (List.length aL) (List.flatMap Exp.d aL)]
@[simp] theorem Exp.d_eq (x:Exp):Exp.d x=[.I .i64 x.K,.I .i64 x.N,.S x.S,.L 72 (List.length x.L) (List.flatMap Exp.d x.L)]:=by cases x;rw[Exp.d]
theorem Exp.d_len (x:Exp):(Exp.d x).length=4:=by simp
def Exp.tot:Exp→Nat
 | ⟨aK,aN,aS,aL⟩=>(List.length aS)+(List.length aL+(List.map Exp.tot aL).sum)
theorem Exp.tot_eq (x:Exp):Exp.tot x=(List.length x.S)+(List.length x.L+(List.map Exp.tot x.L).sum):=by cases x;rw[Exp.tot]
def Exp.lg:Exp→Prop
 | ⟨aK,aN,aS,aL⟩=>(List.length aS≤maxLen)∧(List.length aL≤maxLen∧∀ y∈aL,(Exp.lg y))
theorem Exp.lg_eq (x:Exp):Exp.lg x=((List.length x.S≤maxLen)∧(List.length x.L≤maxLen∧∀ y∈x.L,(Exp.lg y))):=by cases x;rw[Exp.lg]
theorem Exp.ind {P:Exp→Prop} (h:∀ x:Exp,(∀ y∈x.L,P y)→P x):∀ x,P x
 | ⟨_,_,_,l⟩=>h _ fun y _=>Exp.ind h y
structure Stmt where
 K:Int
 S:List UInt8
 At:Exp
 E:Exp
 Lo:Exp
 Hi:Exp
 Body:List Stmt
def Stmt.d:Stmt→List D
 | ⟨aK,aS,aAt,aE,aLo,aHi,aBody⟩=>[.I .i64 aK,.S aS]++(Exp.d aAt++(Exp.d aE++(Exp.d aLo++(Exp.d aHi++([.L 74 (List.length aBody) (List.flatMap Stmt.d aBody)])))))
@[simp] theorem Stmt.d_eq (x:Stmt):Stmt.d x=[.I .i64 x.K,.S x.S]++(Exp.d x.At++(Exp.d x.E++(Exp.d x.Lo++(Exp.d x.Hi++([.L 74 (List.length x.Body) (List.flatMap Stmt.d x.Body)]))))):=by cases x;rw[Stmt.d]
theorem Stmt.d_len (x:Stmt):(Stmt.d x).length=19:=by simp
def Stmt.tot:Stmt→Nat
 | ⟨aK,aS,aAt,aE,aLo,aHi,aBody⟩=>(List.length aS)+(Exp.tot aAt)+(Exp.tot aE)+(Exp.tot aLo)+(Exp.tot aHi)+(List.length aBody+(List.map Stmt.tot aBody).sum)
theorem Stmt.tot_eq (x:Stmt):Stmt.tot x=(List.length x.S)+(Exp.tot x.At)+(Exp.tot x.E)+(Exp.tot x.Lo)+(Exp.tot x.Hi)+(List.length x.Body+(List.map Stmt.tot x.Body).sum):=by cases x;rw[Stmt.tot]
def Stmt.lg:Stmt→Prop
 | ⟨aK,aS,aAt,aE,aLo,aHi,aBody⟩=>(List.length aS≤maxLen)∧((Exp.lg aAt))∧((Exp.lg aE))∧((Exp.lg aLo))∧((Exp.lg aHi))∧(List.length aBody≤maxLen∧∀ y∈aBody,(Stmt.lg y))
theorem Stmt.lg_eq (x:Stmt):Stmt.lg x=((List.length x.S≤maxLen)∧((Exp.lg x.At))∧((Exp.lg x.E))∧((Exp.lg x.Lo))∧((Exp.lg x.Hi))∧(List.length x.Body≤maxLen∧∀ y∈x.Body,(Stmt.lg y))):=by cases x;rw[Stmt.lg]
theorem Stmt.ind {P:Stmt→Prop} (h:∀ x:Stmt,(∀ y∈x.Body,P y)→P x):∀ x,P x
 | ⟨_,_,_,_,_,_,l⟩=>h _ fun y _=>Stmt.ind h y
structure Arr where
 Name:List UInt8
 Size:Int
def Arr.d:Arr→List D
 | ⟨aName,aSize⟩=>[.S aName,.I .i64 aSize]
@[simp] theorem Arr.d_eq (x:Arr):Arr.d x=[.S x.Name,.I .i64 x.Size]:=by cases x;rw[Arr.d]
theorem Arr.d_len (x:Arr):(Arr.d x).length=2:=by simp
def Arr.tot:Arr→Nat
 | ⟨aName,aSize⟩=>(List.length aName)
theorem Arr.tot_eq (x:Arr):Arr.tot x=(List.length x.Name):=by cases x;rw[Arr.tot]
def Arr.lg:Arr→Prop
 | ⟨aName,aSize⟩=>(List.length aName≤maxLen)
theorem Arr.lg_eq (x:Arr):Arr.lg x=((List.length x.Name≤maxLen)):=by cases x;rw[Arr.lg]
structure Prog where
 Arrs:List Arr
 Body:List Stmt
def Prog.d:Prog→List D
 | ⟨aArrs,aBody⟩=>[.L 130 (List.length aArrs) (List.flatMap Arr.d aArrs),.L 74 (List.length aBody) (List.flatMap Stmt.d aBody)]
@[simp] theorem Prog.d_eq (x:Prog):Prog.d x=[.L 130 (List.length x.Arrs) (List.flatMap Arr.d x.Arrs),.L 74 (List.length x.Body) (List.flatMap Stmt.d x.Body)]:=by cases x;rw[Prog.d]
theorem Prog.d_len (x:Prog):(Prog.d x).length=2:=by simp
def Prog.tot:Prog→Nat
 | ⟨aArrs,aBody⟩=>(List.length aArrs+(List.map Arr.tot aArrs).sum)+(List.length aBody+(List.map Stmt.tot aBody).sum)
theorem Prog.tot_eq (x:Prog):Prog.tot x=(List.length x.Arrs+(List.map Arr.tot x.Arrs).sum)+(List.length x.Body+(List.map Stmt.tot x.Body).sum):=by cases x;rw[Prog.tot]
def Prog.lg:Prog→Prop
 | ⟨aArrs,aBody⟩=>(List.length aArrs≤maxLen∧∀ y∈aArrs,(Arr.lg y))∧(List.length aBody≤maxLen∧∀ y∈aBody,(Stmt.lg y))
theorem Prog.lg_eq (x:Prog):Prog.lg x=((List.length x.Arrs≤maxLen∧∀ y∈x.Arrs,(Arr.lg y))∧(List.length x.Body≤maxLen∧∀ y∈x.Body,(Stmt.lg y))):=by cases x;rw[Prog.lg]
structure Term where
 Name:List UInt8
 N:Int
def Term.d:Term→List D
 | ⟨aName,aN⟩=>[.S aName,.I .i64 aN]
@[simp] theorem Term.d_eq (x:Term):Term.d x=[.S x.Name,.I .i64 x.N]:=by cases x;rw[Term.d]
theorem Term.d_len (x:Term):(Term.d x).length=2:=by simp
def Term.tot:Term→Nat
 | ⟨aName,aN⟩=>(List.length aName)
theorem Term.tot_eq (x:Term):Term.tot x=(List.length x.Name):=by cases x;rw[Term.tot]
def Term.lg:Term→Prop
 | ⟨aName,aN⟩=>(List.length aName≤maxLen)
theorem Term.lg_eq (x:Term):Term.lg x=((List.length x.Name≤maxLen)):=by cases x;rw[Term.lg]
structure Aff where
 C:Int
 T:List Term
def Aff.d:Aff→List D
 | ⟨aC,aT⟩=>[.I .i64 aC,.L 320 (List.length aT) (List.flatMap Term.d aT)]
@[simp] theorem Aff.d_eq (x:Aff):Aff.d x=[.I .i64 x.C,.L 320 (List.length x.T) (List.flatMap Term.d x.T)]:=by cases x;rw[Aff.d]
theorem Aff.d_len (x:Aff):(Aff.d x).length=2:=by simp
def Aff.tot:Aff→Nat
 | ⟨aC,aT⟩=>(List.length aT+(List.map Term.tot aT).sum)
theorem Aff.tot_eq (x:Aff):Aff.tot x=(List.length x.T+(List.map Term.tot x.T).sum):=by cases x;rw[Aff.tot]
def Aff.lg:Aff→Prop
 | ⟨aC,aT⟩=>(List.length aT≤maxLen∧∀ y∈aT,(Term.lg y))
theorem Aff.lg_eq (x:Aff):Aff.lg x=((List.length x.T≤maxLen∧∀ y∈x.T,(Term.lg y))):=by cases x;rw[Aff.lg]
structure Rng where
 Name:List UInt8
 Lo:Int
 Hi:Int
def Rng.d:Rng→List D
 | ⟨aName,aLo,aHi⟩=>[.S aName,.I .i64 aLo,.I .i64 aHi]
@[simp] theorem Rng.d_eq (x:Rng):Rng.d x=[.S x.Name,.I .i64 x.Lo,.I .i64 x.Hi]:=by cases x;rw[Rng.d]
theorem Rng.d_len (x:Rng):(Rng.d x).length=3:=by simp
def Rng.tot:Rng→Nat
 | ⟨aName,aLo,aHi⟩=>(List.length aName)
theorem Rng.tot_eq (x:Rng):Rng.tot x=(List.length x.Name):=by cases x;rw[Rng.tot]
def Rng.lg:Rng→Prop
 | ⟨aName,aLo,aHi⟩=>(List.length aName≤maxLen)
theorem Rng.lg_eq (x:Rng):Rng.lg x=((List.length x.Name≤maxLen)):=by cases x;rw[Rng.lg]
end Go.AmC
