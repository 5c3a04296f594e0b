import Derived.Test.YtafglhcclmbnbaaGreatAmGrow
set_option linter.unusedSimpArgs false
set_option linter.unusedVariables false
namespace Go.AmC
open Go Go.AM
structure Exp where
 K:Int
 N:Int
 S:List UInt8
 L:List Exp
def Exp.d:Exp→List D
 | ⟨aK,aN,aS,aL⟩=>[.I .i64 aK,.I .i64 aN,.S aS,.L 72 (List.length aL) (List.flatMap Exp.d aL)]
@[simp] theorem Exp.d_eq (x:Exp):Exp.d x=[.I .i64 x.K,.I .i64 x.N,.S x.S,.L 72 (List.length x.L) (List.flatMap Exp.d x.L)]:=by cases x;rw[Exp.d]
theorem Exp.d_len (x:Exp):(Exp.d x).length=4:=by simp
def Exp.tot:Exp→Nat
 | ⟨aK,aN,aS,aL⟩=>(List.length aS)+(List.length aL+(List.map Exp.tot aL).sum)
theorem Exp.tot_eq (x:Exp):Exp.tot x=(List.length x.S)+(List.length x.L+(List.map Exp.tot x.L).sum):=by cases x;rw[Exp.tot]
def Exp.lg:Exp→Prop
 | ⟨aK,aN,aS,aL⟩=>(List.length aS≤maxLen)∧(List.length aL≤maxLen∧∀ y∈aL,(Exp.lg y))
theorem Exp.lg_eq (x:Exp):Exp.lg x=((List.length x.S≤maxLen)∧(List.length x.L≤maxLen∧∀ y∈x.L,(Exp.lg y))):=by cases x;rw[Exp.lg]
theorem Exp.ind {P:Exp→Prop} (h:∀ x:Exp,(∀ y∈x.L,P y)→P x):∀ x,P x
 | ⟨_,_,_,l⟩=>h _ fun y _=>Exp.ind h y
structure Stmt where
 K:Int
 S:List UInt8
 At:Exp
 E:Exp
 Lo:Exp
 Hi:Exp
 Body:List Stmt
def Stmt.d:Stmt→List D
 | ⟨aK,aS,aAt,aE,aLo,aHi,aBody⟩=>[.I .i64 aK,.S aS]++(Exp.d aAt++(Exp.d aE++(Exp.d aLo++(Exp.d aHi++([.L 74 (List.length aBody) (List.flatMap Stmt.d aBody)])))))
@[simp] theorem Stmt.d_eq (x:Stmt):Stmt.d x=[.I .i64 x.K,.S x.S]++(Exp.d x.At++(Exp.d x.E++(Exp.d x.Lo++(Exp.d x.Hi++([.L 74 (List.length x.Body) (List.flatMap Stmt.d x.Body)]))))):=by cases x;rw[Stmt.d]
theorem Stmt.d_len (x:Stmt):(Stmt.d x).length=19:=by simp
def Stmt.tot:Stmt→Nat
 | ⟨aK,aS,aAt,aE,aLo,aHi,aBody⟩=>(List.length aS)+(Exp.tot aAt)+(Exp.tot aE)+(Exp.tot aLo)+(Exp.tot aHi)+(List.length aBody+(List.map Stmt.tot aBody).sum)
theorem Stmt.tot_eq (x:Stmt):Stmt.tot x=(List.length x.S)+(Exp.tot x.At)+(Exp.tot x.E)+(Exp.tot x.Lo)+(Exp.tot x.Hi)+(List.length x.Body+(List.map Stmt.tot x.Body).sum):=by cases x;rw[Stmt.tot]
def Stmt.lg:Stmt→Prop
 | ⟨aK,aS,aAt,aE,aLo,aHi,aBody⟩=>(List.length aS≤maxLen)∧((Exp.lg aAt))∧((Exp.lg aE))∧((Exp.lg aLo))∧((Exp.lg aHi))∧(List.length aBody≤maxLen∧∀ y∈aBody,(Stmt.lg y))
theorem Stmt.lg_eq (x:Stmt):Stmt.lg x=((List.length x.S≤maxLen)∧((Exp.lg x.At))∧((Exp.lg x.E))∧((Exp.lg x.Lo))∧((Exp.lg x.Hi))∧(List.length x.Body≤maxLen∧∀ y∈x.Body,(Stmt.lg y))):=by cases x;rw[Stmt.lg]
theorem Stmt.ind {P:Stmt→Prop} (h:∀ x:Stmt,(∀ y∈x.Body,P y)→P x):∀ x,P x
 | ⟨_,_,_,_,_,_,l⟩=>h _ fun y _=>Stmt.ind h y
structure Arr where
 Name:List UInt8
 Size:Int
def Arr.d:Arr→List D
 | ⟨aName,aSize⟩=>[.S aName,.I .i64 aSize]
@[simp] theorem Arr.d_eq (x:Arr):Arr.d x=[.S x.Name,.I .i64 x.Size]:=by cases x;rw[Arr.d]
theorem Arr.d_len (x:Arr):(Arr.d x).length=2:=by simp
def Arr.tot:Arr→Nat
 | ⟨aName,aSize⟩=>(List.length aName)
theorem Arr.tot_eq (x:Arr):Arr.tot x=(List.length x.Name):=by cases x;rw[Arr.tot]
def Arr.lg:Arr→Prop
 | ⟨aName,aSize⟩=>(List.length aName≤maxLen)
theorem Arr.lg_eq (x:Arr):Arr.lg x=((List.length x.Name≤maxLen)):=by cases x;rw[Arr.lg]
structure Prog where
 Arrs:List Arr
 Body:List Stmt
def Prog.d:Prog→List D
 | ⟨aArrs,aBody⟩=>[.L 130 (List.length aArrs) (List.flatMap Arr.d aArrs),.L 74 (List.length aBody) (List.flatMap Stmt.d aBody)]
@[simp] theorem Prog.d_eq (x:Prog):Prog.d x=[.L 130 (List.length x.Arrs) (List.flatMap Arr.d x.Arrs),.L 74 (List.length x.Body) (List.flatMap Stmt.d x.Body)]:=by cases x;rw[Prog.d]
theorem Prog.d_len (x:Prog):(Prog.d x).length=2:=by simp
def Prog.tot:Prog→Nat
 | ⟨aArrs,aBody⟩=>(List.length aArrs+(List.map Arr.tot aArrs).sum)+(List.length aBody+(List.map Stmt.tot aBody).sum)
theorem Prog.tot_eq (x:Prog):Prog.tot x=(List.length x.Arrs+(List.map Arr.tot x.Arrs).sum)+(List.length x.Body+(List.map Stmt.tot x.Body).sum):=by cases x;rw[Prog.tot]
def Prog.lg:Prog→Prop
 | ⟨aArrs,aBody⟩=>(List.length aArrs≤maxLen∧∀ y∈aArrs,(Arr.lg y))∧(List.length aBody≤maxLen∧∀ y∈aBody,(Stmt.lg y))
theorem Prog.lg_eq (x:Prog):Prog.lg x=((List.length x.Arrs≤maxLen∧∀ y∈x.Arrs,(Arr.lg y))∧(List.length x.Body≤maxLen∧∀ y∈x.Body,(Stmt.lg y))):=by cases x;rw[Prog.lg]
structure Ins where
 Op:Int
 A:Int
 B:Int
def Ins.d:Ins→List D
 | ⟨aOp,aA,aB⟩=>[.I .i64 aOp,.I .i64 aA,.I .i64 aB]
@[simp] theorem Ins.d_eq (x:Ins):Ins.d x=[.I .i64 x.Op,.I .i64 x.A,.I .i64 x.B]:=by cases x;rw[Ins.d]
theorem Ins.d_len (x:Ins):(Ins.d x).length=3:=by simp
structure Put where
 At:Int
 N:Int
def Put.d:Put→List D
 | ⟨aAt,aN⟩=>[.I .i64 aAt,.I .i64 aN]
@[simp] theorem Put.d_eq (x:Put):Put.d x=[.I .i64 x.At,.I .i64 x.N]:=by cases x;rw[Put.d]
theorem Put.d_len (x:Put):(Put.d x).length=2:=by simp
structure Hand where
 Pc:Int
 Stack:List Int
 Regs:List Int
 Shelf:List Put
 Here:Bool
 Done:Bool
def Hand.d:Hand→List D
 | ⟨aPc,aStack,aRegs,aShelf,aHere,aDone⟩=>[.I .i64 aPc,.L 3 (List.length aStack) (List.flatMap eu aStack),.L 3 (List.length aRegs) (List.flatMap eu aRegs),.L 176 (List.length aShelf) (List.flatMap Put.d aShelf),.B aHere,.B aDone]
@[simp] theorem Hand.d_eq (x:Hand):Hand.d x=[.I .i64 x.Pc,.L 3 (List.length x.Stack) (List.flatMap eu x.Stack),.L 3 (List.length x.Regs) (List.flatMap eu x.Regs),.L 176 (List.length x.Shelf) (List.flatMap Put.d x.Shelf),.B x.Here,.B x.Done]:=by cases x;rw[Hand.d]
theorem Hand.d_len (x:Hand):(Hand.d x).length=6:=by simp
def Hand.tot:Hand→Nat
 | ⟨aPc,aStack,aRegs,aShelf,aHere,aDone⟩=>(List.length aStack)+(List.length aRegs)+(List.length aShelf)
theorem Hand.tot_eq (x:Hand):Hand.tot x=(List.length x.Stack)+(List.length x.Regs)+(List.length x.Shelf):=by cases x;rw[Hand.tot]
def Hand.lg:Hand→Prop
 | ⟨aPc,aStack,aRegs,aShelf,aHere,aDone⟩=>(List.length aStack≤maxLen)∧(List.length aRegs≤maxLen)∧(List.length aShelf≤maxLen)
theorem Hand.lg_eq (x:Hand):Hand.lg x=((List.length x.Stack≤maxLen)∧(List.length x.Regs≤maxLen)∧(List.length x.Shelf≤maxLen)):=by cases x;rw[Hand.lg]
structure Mach where
 Mem:List Int
 Hands:List Hand
 Out:List Int
 Trap:Bool
def Mach.d:Mach→List D
 | ⟨aMem,aHands,aOut,aTrap⟩=>[.L 3 (List.length aMem) (List.flatMap eu aMem),.L 158 (List.length aHands) (List.flatMap Hand.d aHands),.L 3 (List.length aOut) (List.flatMap eu aOut),.B aTrap]
@[simp] theorem Mach.d_eq (x:Mach):Mach.d x=[.L 3 (List.length x.Mem) (List.flatMap eu x.Mem),.L 158 (List.length x.Hands) (List.flatMap Hand.d x.Hands),.L 3 (List.length x.Out) (List.flatMap eu x.Out),.B x.Trap]:=by cases x;rw[Mach.d]
theorem Mach.d_len (x:Mach):(Mach.d x).length=4:=by simp
def Mach.tot:Mach→Nat
 | ⟨aMem,aHands,aOut,aTrap⟩=>(List.length aMem)+(List.length aHands+(List.map Hand.tot aHands).sum)+(List.length aOut)
theorem Mach.tot_eq (x:Mach):Mach.tot x=(List.length x.Mem)+(List.length x.Hands+(List.map Hand.tot x.Hands).sum)+(List.length x.Out):=by cases x;rw[Mach.tot]
def Mach.lg:Mach→Prop
 | ⟨aMem,aHands,aOut,aTrap⟩=>(List.length aMem≤maxLen)∧(List.length aHands≤maxLen∧∀ y∈aHands,(Hand.lg y))∧(List.length aOut≤maxLen)
theorem Mach.lg_eq (x:Mach):Mach.lg x=((List.length x.Mem≤maxLen)∧(List.length x.Hands≤maxLen∧∀ y∈x.Hands,(Hand.lg y))∧(List.length x.Out≤maxLen)):=by cases x;rw[Mach.lg]
end Go.AmC
