import Derived.Shelf.SlSortCmp.WholeK
import Derived.Test.YtafglhcclmbnbaaGreatProg
import Derived.Shelf.Sort.Plain
import Derived.Shelf.Slices.In.SortNone
import Derived.Shelf.Slices.CompactS
import Derived.Shelf.Spec.SlicesGrow
import Derived.Shelf.Slices.CompactI
import Derived.Test.YtafglhcclmbnbaaGreatSwapAllRd
namespace Go.Proofs
open Go.Shelf
def Tryz.sortT_ren:Go.Shelf.Ren:=⟨fun|6=>414|15=>325|14=>425|28=>363|29=>364|20=>428|21=>429|22=>430|23=>431|24=>432|25=>433|26=>434|27=>435|46=>436|47=>387|48=>388|49=>437|50=>438|57=>439|n=>n,fun|22=>199|24=>320|25=>379|3=>3|39=>313|0=>0|53=>343|55=>345|4=>4|46=>336|45=>335|50=>286|5=>5|9=>9|66=>356|70=>360|76=>374|77=>235|n=>n,fun|n=>n⟩
theorem Tryz.sortT:Go.Proofs.SlLaysF0.n6 Tryz.prog Tryz.sortT_ren:={
 mixed:=by kernel_rfl
 f6:=⟨Tryz.f414.name,by decide,Tryz.func414.trans (congrArg some (by kernel_rfl))⟩
 f14:=⟨Tryz.f425.name,by decide,Tryz.func425.trans (congrArg some (by kernel_rfl))⟩
 f15:=Tryz.func325.trans (congrArg some (by kernel_rfl))
 f20:=⟨Tryz.f428.name,by decide,Tryz.func428.trans (congrArg some (by kernel_rfl))⟩
 f21:=⟨Tryz.f429.name,by decide,Tryz.func429.trans (congrArg some (by kernel_rfl))⟩
 f22:=⟨Tryz.f430.name,by decide,Tryz.func430.trans (congrArg some (by kernel_rfl))⟩
 f23:=⟨Tryz.f431.name,by decide,Tryz.func431.trans (congrArg some (by kernel_rfl))⟩
 f24:=⟨Tryz.f432.name,by decide,Tryz.func432.trans (congrArg some (by kernel_rfl))⟩
 f25:=⟨Tryz.f433.name,by decide,Tryz.func433.trans (congrArg some (by kernel_rfl))⟩
 f26:=⟨Tryz.f434.name,by decide,Tryz.func434.trans (congrArg some (by kernel_rfl))⟩
 f27:=⟨Tryz.f435.name,by decide,Tryz.func435.trans (congrArg some (by kernel_rfl))⟩
 f28:=Tryz.func363.trans (congrArg some (by kernel_rfl))
 f29:=Tryz.func364.trans (congrArg some (by kernel_rfl))
 f46:=⟨Tryz.f436.name,by decide,Tryz.func436.trans (congrArg some (by kernel_rfl))⟩
 f47:=Tryz.func387.trans (congrArg some (by kernel_rfl))
 f48:=Tryz.func388.trans (congrArg some (by kernel_rfl))
 f49:=⟨Tryz.f437.name,by decide,Tryz.func437.trans (congrArg some (by kernel_rfl))⟩
 f50:=⟨Tryz.f438.name,by decide,Tryz.func438.trans (congrArg some (by kernel_rfl))⟩
 f57:=⟨Tryz.f439.name,by decide,Tryz.func439.trans (congrArg some (by kernel_rfl))⟩
 t0:=Tryz.underlying0
 a0:=Tryz.isAgg0
 z0:=Tryz.sizeOf0
 v0:=Tryz.zeroValue0
 t3:=Tryz.underlying3
 a3:=Tryz.isAgg3
 z3:=Tryz.sizeOf3
 v3:=Tryz.zeroValue3
 t4:=Tryz.underlying4
 a4:=Tryz.isAgg4
 z4:=Tryz.sizeOf4
 v4:=Tryz.zeroValue4
 t5:=Tryz.underlying5
 a5:=Tryz.isAgg5
 z5:=Tryz.sizeOf5
 v5:=Tryz.zeroValue5
 t9:=Tryz.underlying9
 a9:=Tryz.isAgg9
 z9:=Tryz.sizeOf9
 v9:=Tryz.zeroValue9
 t22:=Tryz.underlying199
 a22:=Tryz.isAgg199
 z22:=Tryz.sizeOf199
 v22:=Tryz.zeroValue199
 t25:=Tryz.underlying379
 a25:=Tryz.isAgg379
 z25:=Tryz.sizeOf379
 v25:=Tryz.zeroValue379
 t39:=Tryz.underlying313
 a39:=Tryz.isAgg313
 z39:=Tryz.sizeOf313
 v39:=Tryz.zeroValue313
 t45:=Tryz.underlying335
 a45:=Tryz.isAgg335
 z45:=Tryz.sizeOf335
 v45:=Tryz.zeroValue335
 t46:=Tryz.underlying336
 a46:=Tryz.isAgg336
 z46:=Tryz.sizeOf336
 v46:=Tryz.zeroValue336
 t50:=Tryz.underlying286
 a50:=Tryz.isAgg286
 z50:=Tryz.sizeOf286
 v50:=Tryz.zeroValue286
 t53:=Tryz.underlying343
 a53:=Tryz.isAgg343
 z53:=Tryz.sizeOf343
 v53:=Tryz.zeroValue343
 t55:=Tryz.underlying345
 a55:=Tryz.isAgg345
 z55:=Tryz.sizeOf345
 v55:=Tryz.zeroValue345
 t66:=Tryz.underlying356
 a66:=Tryz.isAgg356
 z66:=Tryz.sizeOf356
 v66:=Tryz.zeroValue356
 t70:=Tryz.underlying360
 a70:=Tryz.isAgg360
 z70:=Tryz.sizeOf360
 v70:=Tryz.zeroValue360
 t76:=Tryz.underlying374
 a76:=Tryz.isAgg374
 z76:=Tryz.sizeOf374
 v76:=Tryz.zeroValue374
 t77:=Tryz.underlying235
 a77:=Tryz.isAgg235
 z77:=Tryz.sizeOf235
 v77:=Tryz.zeroValue235 }
end Go.Proofs
namespace Go.Proofs
open Go.Shelf
def Tryz.sortS_ren:Go.Shelf.Ren:=⟨fun|190=>284|125=>325|258=>324|128=>363|129=>364|302=>354|303=>355|304=>356|305=>357|306=>358|307=>359|308=>360|309=>361|310=>362|333=>386|329=>387|330=>388|334=>389|335=>390|336=>391|344=>412|n=>n,fun|31=>137|9=>9|3=>3|46=>313|0=>0|51=>343|53=>345|4=>4|183=>336|182=>335|131=>286|5=>5|218=>356|222=>360|228=>374|229=>235|n=>n,fun|n=>n⟩
theorem Tryz.sortS:Go.Proofs.Lays.n190 Tryz.prog Tryz.sortS_ren:={
 mixed:=by kernel_rfl
 f125:=Tryz.func325.trans (congrArg some (by kernel_rfl))
 f128:=Tryz.func363.trans (congrArg some (by kernel_rfl))
 f129:=Tryz.func364.trans (congrArg some (by kernel_rfl))
 f190:=Tryz.func284.trans (congrArg some (by kernel_rfl))
 f258:=Tryz.func324.trans (congrArg some (by kernel_rfl))
 f302:=Tryz.func354.trans (congrArg some (by kernel_rfl))
 f303:=Tryz.func355.trans (congrArg some (by kernel_rfl))
 f304:=Tryz.func356.trans (congrArg some (by kernel_rfl))
 f305:=Tryz.func357.trans (congrArg some (by kernel_rfl))
 f306:=Tryz.func358.trans (congrArg some (by kernel_rfl))
 f307:=Tryz.func359.trans (congrArg some (by kernel_rfl))
 f308:=Tryz.func360.trans (congrArg some (by kernel_rfl))
 f309:=Tryz.func361.trans (congrArg some (by kernel_rfl))
 f310:=Tryz.func362.trans (congrArg some (by kernel_rfl))
 f329:=Tryz.func387.trans (congrArg some (by kernel_rfl))
 f330:=Tryz.func388.trans (congrArg some (by kernel_rfl))
 f333:=Tryz.func386.trans (congrArg some (by kernel_rfl))
 f334:=Tryz.func389.trans (congrArg some (by kernel_rfl))
 f335:=Tryz.func390.trans (congrArg some (by kernel_rfl))
 f336:=Tryz.func391.trans (congrArg some (by kernel_rfl))
 f344:=Tryz.func412.trans (congrArg some (by kernel_rfl))
 t0:=Tryz.underlying0
 a0:=Tryz.isAgg0
 z0:=Tryz.sizeOf0
 v0:=Tryz.zeroValue0
 t3:=Tryz.underlying3
 a3:=Tryz.isAgg3
 z3:=Tryz.sizeOf3
 v3:=Tryz.zeroValue3
 t4:=Tryz.underlying4
 a4:=Tryz.isAgg4
 z4:=Tryz.sizeOf4
 v4:=Tryz.zeroValue4
 t5:=Tryz.underlying5
 a5:=Tryz.isAgg5
 z5:=Tryz.sizeOf5
 v5:=Tryz.zeroValue5
 t9:=Tryz.underlying9
 a9:=Tryz.isAgg9
 z9:=Tryz.sizeOf9
 v9:=Tryz.zeroValue9
 t31:=Tryz.underlying137
 a31:=Tryz.isAgg137
 z31:=Tryz.sizeOf137
 v31:=Tryz.zeroValue137
 t46:=Tryz.underlying313
 a46:=Tryz.isAgg313
 z46:=Tryz.sizeOf313
 v46:=Tryz.zeroValue313
 t51:=Tryz.underlying343
 a51:=Tryz.isAgg343
 z51:=Tryz.sizeOf343
 v51:=Tryz.zeroValue343
 t53:=Tryz.underlying345
 a53:=Tryz.isAgg345
 z53:=Tryz.sizeOf345
 v53:=Tryz.zeroValue345
 t131:=Tryz.underlying286
 a131:=Tryz.isAgg286
 z131:=Tryz.sizeOf286
 v131:=Tryz.zeroValue286
 t182:=Tryz.underlying335
 a182:=Tryz.isAgg335
 z182:=Tryz.sizeOf335
 v182:=Tryz.zeroValue335
 t183:=Tryz.underlying336
 a183:=Tryz.isAgg336
 z183:=Tryz.sizeOf336
 v183:=Tryz.zeroValue336
 t218:=Tryz.underlying356
 a218:=Tryz.isAgg356
 z218:=Tryz.sizeOf356
 v218:=Tryz.zeroValue356
 t222:=Tryz.underlying360
 a222:=Tryz.isAgg360
 z222:=Tryz.sizeOf360
 v222:=Tryz.zeroValue360
 t228:=Tryz.underlying374
 a228:=Tryz.isAgg374
 z228:=Tryz.sizeOf374
 v228:=Tryz.zeroValue374
 t229:=Tryz.underlying235
 a229:=Tryz.isAgg235
 z229:=Tryz.sizeOf235
 v229:=Tryz.zeroValue235 }
def Tryz.compS_ren:Go.Shelf.Ren:=⟨fun|194=>286|n=>n,fun|31=>137|9=>9|3=>3|4=>4|0=>0|n=>n,fun|n=>n⟩
theorem Tryz.compS:Go.Proofs.Lays.n194 Tryz.prog Tryz.compS_ren:={
 mixed:=by kernel_rfl
 f194:=Tryz.func286.trans (congrArg some (by kernel_rfl))
 t0:=Tryz.underlying0
 a0:=Tryz.isAgg0
 z0:=Tryz.sizeOf0
 v0:=Tryz.zeroValue0
 t3:=Tryz.underlying3
 a3:=Tryz.isAgg3
 z3:=Tryz.sizeOf3
 v3:=Tryz.zeroValue3
 t4:=Tryz.underlying4
 a4:=Tryz.isAgg4
 z4:=Tryz.sizeOf4
 v4:=Tryz.zeroValue4
 t9:=Tryz.underlying9
 a9:=Tryz.isAgg9
 z9:=Tryz.sizeOf9
 v9:=Tryz.zeroValue9
 t31:=Tryz.underlying137
 a31:=Tryz.isAgg137
 z31:=Tryz.sizeOf137
 v31:=Tryz.zeroValue137 }
end Go.Proofs
namespace Go.Proofs
open Go.Shelf
def Tryz.growN_ren:Go.Shelf.Ren:=⟨fun|4=>265|n=>n,fun|22=>137|25=>9|3=>3|4=>4|9=>9|20=>20|0=>0|n=>n,fun|n=>n⟩
theorem Tryz.growN:Go.Proofs.Lays8.n4 Tryz.prog Tryz.growN_ren:={
 mixed:=by kernel_rfl
 f4:=⟨Tryz.f265.name,by decide,Tryz.func265.trans (congrArg some (by kernel_rfl))⟩
 t0:=Tryz.underlying0
 a0:=Tryz.isAgg0
 z0:=Tryz.sizeOf0
 v0:=Tryz.zeroValue0
 t3:=Tryz.underlying3
 a3:=Tryz.isAgg3
 z3:=Tryz.sizeOf3
 v3:=Tryz.zeroValue3
 t4:=Tryz.underlying4
 a4:=Tryz.isAgg4
 z4:=Tryz.sizeOf4
 v4:=Tryz.zeroValue4
 t9:=Tryz.underlying9
 a9:=Tryz.isAgg9
 z9:=Tryz.sizeOf9
 v9:=Tryz.zeroValue9
 t20:=Tryz.underlying20
 a20:=Tryz.isAgg20
 z20:=Tryz.sizeOf20
 v20:=Tryz.zeroValue20
 t22:=Tryz.underlying137
 a22:=Tryz.isAgg137
 z22:=Tryz.sizeOf137
 v22:=Tryz.zeroValue137 }
end Go.Proofs
namespace Go.Proofs
open Go.Shelf
def Tryz.growT_ren:Go.Shelf.Ren:=⟨fun|4=>426|n=>n,fun|22=>199|25=>320|3=>3|4=>4|9=>9|20=>20|0=>0|n=>n,fun|n=>n⟩
theorem Tryz.growT:Go.Proofs.Lays8.n4 Tryz.prog Tryz.growT_ren:={
 mixed:=by kernel_rfl
 f4:=⟨Tryz.f426.name,by decide,Tryz.func426.trans (congrArg some (by kernel_rfl))⟩
 t0:=Tryz.underlying0
 a0:=Tryz.isAgg0
 z0:=Tryz.sizeOf0
 v0:=Tryz.zeroValue0
 t3:=Tryz.underlying3
 a3:=Tryz.isAgg3
 z3:=Tryz.sizeOf3
 v3:=Tryz.zeroValue3
 t4:=Tryz.underlying4
 a4:=Tryz.isAgg4
 z4:=Tryz.sizeOf4
 v4:=Tryz.zeroValue4
 t9:=Tryz.underlying9
 a9:=Tryz.isAgg9
 z9:=Tryz.sizeOf9
 v9:=Tryz.zeroValue9
 t20:=Tryz.underlying20
 a20:=Tryz.isAgg20
 z20:=Tryz.sizeOf20
 v20:=Tryz.zeroValue20
 t22:=Tryz.underlying199
 a22:=Tryz.isAgg199
 z22:=Tryz.sizeOf199
 v22:=Tryz.zeroValue199 }
end Go.Proofs
namespace Go.Proofs
open Go.Shelf
def Tryz.sortI_ren:Go.Shelf.Ren:=⟨fun|189=>347|125=>325|257=>385|128=>363|129=>364|294=>403|295=>404|296=>405|297=>406|298=>407|299=>408|216=>409|300=>410|301=>411|328=>421|329=>387|330=>388|331=>422|332=>423|215=>424|343=>427|n=>n,fun|28=>38|3=>3|46=>313|0=>0|51=>343|53=>345|4=>4|183=>336|182=>335|131=>286|5=>5|9=>9|218=>356|222=>360|228=>374|229=>235|n=>n,fun|n=>n⟩
theorem Tryz.sortI:Go.Proofs.Lays.n189 Tryz.prog Tryz.sortI_ren:={
 mixed:=by kernel_rfl
 f125:=Tryz.func325.trans (congrArg some (by kernel_rfl))
 f128:=Tryz.func363.trans (congrArg some (by kernel_rfl))
 f129:=Tryz.func364.trans (congrArg some (by kernel_rfl))
 f189:=Tryz.func347.trans (congrArg some (by kernel_rfl))
 f215:=Tryz.func424.trans (congrArg some (by kernel_rfl))
 f216:=Tryz.func409.trans (congrArg some (by kernel_rfl))
 f257:=Tryz.func385.trans (congrArg some (by kernel_rfl))
 f294:=Tryz.func403.trans (congrArg some (by kernel_rfl))
 f295:=Tryz.func404.trans (congrArg some (by kernel_rfl))
 f296:=Tryz.func405.trans (congrArg some (by kernel_rfl))
 f297:=Tryz.func406.trans (congrArg some (by kernel_rfl))
 f298:=Tryz.func407.trans (congrArg some (by kernel_rfl))
 f299:=Tryz.func408.trans (congrArg some (by kernel_rfl))
 f300:=Tryz.func410.trans (congrArg some (by kernel_rfl))
 f301:=Tryz.func411.trans (congrArg some (by kernel_rfl))
 f328:=Tryz.func421.trans (congrArg some (by kernel_rfl))
 f329:=Tryz.func387.trans (congrArg some (by kernel_rfl))
 f330:=Tryz.func388.trans (congrArg some (by kernel_rfl))
 f331:=Tryz.func422.trans (congrArg some (by kernel_rfl))
 f332:=Tryz.func423.trans (congrArg some (by kernel_rfl))
 f343:=Tryz.func427.trans (congrArg some (by kernel_rfl))
 t0:=Tryz.underlying0
 a0:=Tryz.isAgg0
 z0:=Tryz.sizeOf0
 v0:=Tryz.zeroValue0
 t3:=Tryz.underlying3
 a3:=Tryz.isAgg3
 z3:=Tryz.sizeOf3
 v3:=Tryz.zeroValue3
 t4:=Tryz.underlying4
 a4:=Tryz.isAgg4
 z4:=Tryz.sizeOf4
 v4:=Tryz.zeroValue4
 t5:=Tryz.underlying5
 a5:=Tryz.isAgg5
 z5:=Tryz.sizeOf5
 v5:=Tryz.zeroValue5
 t9:=Tryz.underlying9
 a9:=Tryz.isAgg9
 z9:=Tryz.sizeOf9
 v9:=Tryz.zeroValue9
 t28:=Tryz.underlying38
 a28:=Tryz.isAgg38
 z28:=Tryz.sizeOf38
 v28:=Tryz.zeroValue38
 t46:=Tryz.underlying313
 a46:=Tryz.isAgg313
 z46:=Tryz.sizeOf313
 v46:=Tryz.zeroValue313
 t51:=Tryz.underlying343
 a51:=Tryz.isAgg343
 z51:=Tryz.sizeOf343
 v51:=Tryz.zeroValue343
 t53:=Tryz.underlying345
 a53:=Tryz.isAgg345
 z53:=Tryz.sizeOf345
 v53:=Tryz.zeroValue345
 t131:=Tryz.underlying286
 a131:=Tryz.isAgg286
 z131:=Tryz.sizeOf286
 v131:=Tryz.zeroValue286
 t182:=Tryz.underlying335
 a182:=Tryz.isAgg335
 z182:=Tryz.sizeOf335
 v182:=Tryz.zeroValue335
 t183:=Tryz.underlying336
 a183:=Tryz.isAgg336
 z183:=Tryz.sizeOf336
 v183:=Tryz.zeroValue336
 t218:=Tryz.underlying356
 a218:=Tryz.isAgg356
 z218:=Tryz.sizeOf356
 v218:=Tryz.zeroValue356
 t222:=Tryz.underlying360
 a222:=Tryz.isAgg360
 z222:=Tryz.sizeOf360
 v222:=Tryz.zeroValue360
 t228:=Tryz.underlying374
 a228:=Tryz.isAgg374
 z228:=Tryz.sizeOf374
 v228:=Tryz.zeroValue374
 t229:=Tryz.underlying235
 a229:=Tryz.isAgg235
 z229:=Tryz.sizeOf235
 v229:=Tryz.zeroValue235 }
def Tryz.compI_ren:Go.Shelf.Ren:=⟨fun|20=>349|n=>n,fun|22=>38|3=>3|4=>4|0=>0|n=>n,fun|n=>n⟩
theorem Tryz.compI:Go.Proofs.Lays2.n20 Tryz.prog Tryz.compI_ren:={
 mixed:=by kernel_rfl
 f20:=Tryz.func349.trans (congrArg some (by kernel_rfl))
 t0:=Tryz.underlying0
 a0:=Tryz.isAgg0
 z0:=Tryz.sizeOf0
 v0:=Tryz.zeroValue0
 t3:=Tryz.underlying3
 a3:=Tryz.isAgg3
 z3:=Tryz.sizeOf3
 v3:=Tryz.zeroValue3
 t4:=Tryz.underlying4
 a4:=Tryz.isAgg4
 z4:=Tryz.sizeOf4
 v4:=Tryz.zeroValue4
 t22:=Tryz.underlying38
 a22:=Tryz.isAgg38
 z22:=Tryz.sizeOf38
 v22:=Tryz.zeroValue38
 i3:=by kernel_rfl }
end Go.Proofs
set_option linter.unusedSimpArgs false
set_option linter.unusedVariables false
set_option maxRecDepth 20000
set_option maxHeartbeats 4000000
namespace Go.AmC
open Go Go.AM
open Go.Proofs.Tryz (prog)
theorem iq (n a b:Int):Says prog 54 [.int .i64 n,.int .i64 a,.int .i64 b] (.bool (decide (a≤n)&&decide (n≤b))) []:=by
 refine aP Go.Proofs.Tryz.func54 aTm ?_
 by_cases h:a≤n<;>simp[v54,r54,h]
theorem iU (n a b:Int):Says prog 49 [.int .i64 n,.int .i64 a,.int .i64 b] (.bool (decide (a≤n)&&decide (n≤b))) []:=by
 refine aP Go.Proofs.Tryz.func49 aTq ?_
 by_cases h:a≤n<;>simp[v49,r49,h]
theorem wrap_succ {i:Nat} (h:i<4611686018427387904):IntKind.i64.wrap ((i:Int)+1)=((i+1:Nat):Int):=by rw[aA]<;>omega
theorem je {α:Type} {p:α→Bool} {xs:List α} {i:Nat} {x:α} (h:(xs.take i).all p=true) (hx:xs[i]?=some x) (hp:p x=true):(xs.take (i+1)).all p=true:=by
 rw[List.take_add_one,hx,List.all_append,h];simp[hp]
theorem ax {α:Type} {xs:List α} {i:Nat} (h:i<xs.length):∃ x,xs[i]?=some x:=⟨_,List.getElem?_eq_getElem h⟩
theorem kF {α:Type} {p:α→Bool} {xs:List α} {i:Nat} {x:α} (hx:xs[i]?=some x) (hp:p x=false):xs.all p=false:=by
 rw[List.all_eq_false];exact⟨x,List.mem_of_getElem? hx,by simp[hp]⟩
def isLow (c:UInt8):Bool:=decide (97≤c.toNat)&&decide (c.toNat≤122)
def Gy:List (List UInt8):=[[97,114,114,97,121],[102,111,114],[116,111],[112,114,105,110,116],[109,105,110],[109,97,120]]
def kept (s:List UInt8):Bool:=decide (s∈Gy)
def bZ (s:List UInt8):Bool:=s.all isLow&&(decide (1≤s.length)&&decide (s.length≤6))&&!kept s
theorem Q4 (c:UInt8):Says prog 252 [.int .u8 c.toNat] (.bool (isLow c)) []:=by
 have f:=iU (c.toNat:Int) 97 122
 have hc:c.toNat<256:=c.toNat_lt
 have hw:IntKind.i64.wrap (c.toNat:Int)=c.toNat:=by rw[aA]<;>omega
 refine aP Go.Proofs.Tryz.func252 aFV ?_
 simp[aMI,aOs,hw]
 refine ai f ?_
 have e1:(97≤(c.toNat:Int))↔97≤c.toNat:=by omega
 have e2:((c.toNat:Int)≤122)↔c.toNat≤122:=by omega
 simp[isLow,e1,e2]
theorem Q5 (c:UInt8):Says prog 257 [.int .u8 c.toNat] (.bool (isLow c)) []:=by
 refine aP Go.Proofs.Tryz.func257 aFR ?_
 have e1:(97≤(c.toNat:Int))↔97≤c.toNat:=by omega
 have e2:((c.toNat:Int)≤122)↔c.toNat≤122:=by omega
 by_cases h:97≤c.toNat<;>simp[aME,aOo,h,isLow,e1,e2]
theorem wH (xs:List (List UInt8)) (s:List UInt8) (hm:xs.length≤4000000000):Says prog 187 [.rsl xs.length (Cs (xs.flatMap bG)),.str s] (.bool (decide (s∈xs))) []:=by
 refine aP Go.Proofs.Tryz.func187 aGq ?_
 generalize hR:decide (s∈xs)=R0
 simp[aMU,aOM]
 refine aZ (l:=Ux) (b:=Wq) rfl [] (fun i=>[(3,.int .i64 i)]) (fun i=>s ∉ xs.take i) xs.length (by simp) (by simp) ?_ ?_
 ·intro i hi hI q hn hx hr
  obtain⟨x,hx0⟩:=ax hi
  have hrow:=row_drop bG 1 (fun _=>by simp) hx0
  rw[Nat.mul_one] at hrow
  have hw:=wrap_succ (i:=i) (by omega)
  by_cases c:x=s
  ·simp[hi,aj,hrow,c]
   refine hr _ ?_
   simp[←hR,←c,List.mem_of_getElem? hx0]
  ·simp[hi,aj,hrow,c,hw]
   refine hn _ (by simp) ?_
   rw[List.take_add_one,hx0];simp[hI,Ne.symm c]
 ·intro hI q hx hr
  rw[List.take_length] at hI
  simp
  refine hx _ _ ?_
  simp[←hR,hI]
theorem O8 (s:List UInt8):Says prog 253 [.str s] (.bool (kept s)) []:=by
 have f:=wH Gy s (by simp[Gy])
 simp[Gy] at f
 refine aP Go.Proofs.Tryz.func253 aFU ?_
 simp[aMH,aOr,List.replicate,splice]
 refine ai f ?_
 simp[kept,Gy]
theorem O9 (s:List UInt8):Says prog 258 [.str s] (.bool (kept s)) []:=by
 refine aP Go.Proofs.Tryz.func258 aFQ ?_
 generalize hR:kept s=R0
 unfold kept Gy at hR
 by_cases h1:s=[97,114,114,97,121]
 ·simp[MZ,Ns,←hR,h1]
 by_cases h2:s=[102,111,114]
 ·simp[MZ,Ns,←hR,h2]
 by_cases h3:s=[116,111]
 ·simp[MZ,Ns,←hR,h3]
 by_cases h4:s=[112,114,105,110,116]
 ·simp[MZ,Ns,←hR,h4]
 by_cases h5:s=[109,105,110]
 ·simp[MZ,Ns,←hR,h5]
 by_cases h6:s=[109,97,120]
 ·simp[MZ,Ns,←hR,h6]
 simp[MZ,Ns,←hR,h1,h2,h3,h4,h5,h6]
theorem tK (s:List UInt8) (hm:s.length≤4294967296):Says prog 182 [.str s] (.bool (bZ s)) []:=by
 have f1:=iU (s.length:Int) 1 6
 have f2:=O8 s
 refine aP Go.Proofs.Tryz.func182 aGu ?_
 generalize hR:bZ s=R0
 unfold bZ at hR
 simp[v182,aOQ]
 refine aZ (l:=UB) (b:=Wx) rfl [] (fun i=>[(2,.int .i64 i)]) (fun i=>(s.take i).all isLow=true) s.length (by simp) (by simp) ?_ ?_
 ·intro i hi hI q hn hx hr
  obtain⟨c,hc⟩:=ax hi
  have hw:=wrap_succ (i:=i) (by omega)
  have hg:=(List.getElem?_eq_some_iff.1 hc).2
  have f:=Q4 c
  simp[hi,hc,hg]
  refine ai f ?_
  cases h:isLow c
  ·simp
   refine hr _ ?_
   simp[←hR,kF hc h]
  ·simp[hw]
   exact hn _ (by simp) (je hI hc h)
 ·intro hI q hx hr
  rw[List.take_length] at hI
  simp
  refine hx _ _ ?_
  simp
  refine ai f1 ?_
  have e1:((1:Int)≤s.length)↔1≤s.length:=by omega
  have e2:((s.length:Int)≤6)↔s.length≤6:=by omega
  by_cases c1:1≤s.length∧s.length≤6
  ·simp[e1,e2,c1]
   refine ai f2 ?_
   simp[←hR,hI,c1]
  ·have c2:(decide (1≤s.length)&&decide (s.length≤6))=false:=by simpa using c1
   simp only[e1,e2,c2]
   simp[←hR,c2]
theorem qF (s:List UInt8) (hm:s.length≤4294967296):Says prog 190 [.str s] (.bool (bZ s)) []:=by
 have f1:=iq (s.length:Int) 1 6
 have f2:=O9 s
 refine aP Go.Proofs.Tryz.func190 aGo ?_
 generalize hR:bZ s=R0
 unfold bZ at hR
 simp[aMT,aOL]
 refine aZ (l:=Uw) (b:=Wp) rfl [] (fun i=>[(2,.int .i64 i)]) (fun i=>(s.take i).all isLow=true) s.length (by simp) (by simp) ?_ ?_
 ·intro i hi hI q hn hx hr
  obtain⟨c,hc⟩:=ax hi
  have hw:=wrap_succ (i:=i) (by omega)
  have hg:=(List.getElem?_eq_some_iff.1 hc).2
  have f:=Q5 c
  simp[hi,hc,hg]
  refine ai f ?_
  cases h:isLow c
  ·simp
   refine hr _ ?_
   simp[←hR,kF hc h]
  ·simp[hw]
   exact hn _ (by simp) (je hI hc h)
 ·intro hI q hx hr
  rw[List.take_length] at hI
  simp
  refine hx _ _ ?_
  simp
  refine ai f1 ?_
  have e1:((1:Int)≤s.length)↔1≤s.length:=by omega
  have e2:((s.length:Int)≤6)↔s.length≤6:=by omega
  by_cases c1:1≤s.length∧s.length≤6
  ·simp[e1,e2,c1]
   refine ai f2 ?_
   simp[←hR,hI,c1]
  ·have c2:(decide (1≤s.length)&&decide (s.length≤6))=false:=by simpa using c1
   simp only[e1,e2,c2]
   simp[←hR,c2]
def szS:Stmt→Nat
 | ⟨_,_,_,_,_,_,B⟩=>1+(B.map szS).sum
theorem yX (x:Stmt):szS x=1+(x.Body.map szS).sum:=by cases x;rw[szS]
theorem agL:∀ x:Stmt,szS x≤1+x.tot:=Stmt.ind fun x ih=>by
 have h:∀ l:List Stmt,(∀ y∈l,szS y≤1+y.tot)→(l.map szS).sum≤l.length+(l.map Stmt.tot).sum:=by
  intro l
  induction l with
  | nil=>intro _;simp
  | cons y l ih =>
   intro h
   have h1:=h y (by simp)
   have h2:=ih (fun z hz=>h z (by simp[hz]))
   simp only[List.map_cons,List.sum_cons,List.length_cons]
   omega
 have:=h x.Body ih
 rw[yX,x.tot_eq]
 omega
theorem Sv (l:List Stmt):(l.map szS).sum≤l.length+(l.map Stmt.tot).sum:=by
 induction l with
 | nil=>simp
 | cons y l ih =>
  have:=agL y
  simp only[List.map_cons,List.sum_cons,List.length_cons]
  omega
def bdS (x:Stmt):Nat:=(x.Body.map szS).sum
theorem aBX (l:List Stmt):(l.map szS).sum=l.length+(l.map bdS).sum:=by
 induction l with
 | nil=>simp
 | cons y l ih =>
  simp only[List.map_cons,List.sum_cons,List.length_cons,ih,yX y,bdS]
  omega
theorem sV {f:Stmt→Nat} {l:List Stmt} {i:Nat} {y:Stmt} (hy:l[i]?=some y):((l.take (i+1)).map f).sum=((l.take i).map f).sum+f y:=by
 rw[List.take_add_one,hy];simp
theorem sum_take_le {f:Stmt→Nat} (l:List Stmt) (i:Nat):((l.take i).map f).sum≤(l.map f).sum:=by
 have:l.map f=(l.take i).map f++(l.drop i).map f:=by rw[←List.map_append,List.take_append_drop]
 rw[this,List.sum_append];omega
theorem zC (l:List Stmt) (hl:l.length+(l.map Stmt.tot).sum≤10000000) (h:∀ x∈l,Says prog 125 [.rsl x.Body.length (Cs (x.Body.flatMap Stmt.d))] (.int .i64 (bdS x:Nat)) []) :
  Says prog 125 [.rsl l.length (Cs (l.flatMap Stmt.d))] (.int .i64 ((l.map szS).sum:Nat)) []:=by
 have hle:=Sv l
 have hsum:=aBX l
 refine aP Go.Proofs.Tryz.func125 aGM ?_
 simp[aM5,aO3]
 refine gY (l:=UT) (b:=WQ) rfl [7] (fun i=>[.rsl l.length (Cs (l.flatMap Stmt.d)),.int .i64 0,.int .i64 ((l.length+((l.take i).map bdS).sum:Nat):Int),.rsl l.length (Cs (l.flatMap Stmt.d)),.int .i64 l.length,.int .i64 (i:Int),.dead,.dead]) (fun _=>True) l.length
  (fun ex en=>ex=.exit 0∧en=[.rsl l.length (Cs (l.flatMap Stmt.d)),.int .i64 0,.int .i64 ((l.map szS).sum:Nat),.rsl l.length (Cs (l.flatMap Stmt.d)),.int .i64 l.length,.int .i64 l.length,.dead,.dead]) ?_ ?_ trivial (by simp) ?_
 ·intro i hi _ q hn hx hr
  obtain⟨y,hy0⟩:=ax hi
  have hrow:=row_drop Stmt.d 19 Stmt.d_len hy0
  have hwi:=wrap_succ (i:=i) (by omega)
  have hf:=h y (List.mem_of_getElem? hy0)
  have hs:=sV (f:=bdS) hy0
  have hb:=sum_take_le (f:=bdS) l (i+1)
  rw[hs] at hn hb
  generalize ((l.take i).map bdS).sum=A at hn hb ⊢
  generalize bdS y=z at hf hn hb
  have hw:IntKind.i64.wrap (((l.length+A:Nat):Int)+(z:Int))=((l.length+(A+z):Nat):Int):=by rw[aA]<;>omega
  simp[hi,aj,hrow,splice]
  refine ai hf ?_
  simp at hw
  simp[hwi,hw]
  refine hn _ ?_ trivial
  simp
 ·intro _ q hx hr
  simp
  exact hx _ _ ⟨rfl,by simp[hsum]⟩
 ·rintro ex en ⟨rfl,rfl⟩
  simp
theorem zB (l:List Stmt) (hl:l.length+(l.map Stmt.tot).sum≤10000000) (h:∀ x∈l,Says prog 183 [.rsl x.Body.length (Cs (x.Body.flatMap Stmt.d))] (.int .i64 (bdS x:Nat)) []) :
  Says prog 183 [.rsl l.length (Cs (l.flatMap Stmt.d))] (.int .i64 ((l.map szS).sum:Nat)) []:=by
 have hle:=Sv l
 refine aP Go.Proofs.Tryz.func183 aGt ?_
 simp[v183,aOP]
 refine gY (l:=UA) (b:=Wv) rfl [] (fun i=>[.rsl l.length (Cs (l.flatMap Stmt.d)),.int .i64 0,.int .i64 (((l.take i).map szS).sum:Nat),.int .i64 (i:Int),.dead]) (fun _=>True) l.length
  (fun ex en=>ex=.exit 0∧en=[.rsl l.length (Cs (l.flatMap Stmt.d)),.int .i64 0,.int .i64 ((l.map szS).sum:Nat),.int .i64 l.length,.dead]) ?_ ?_ trivial (by simp) ?_
 ·intro i hi _ q hn hx hr
  obtain⟨y,hy0⟩:=ax hi
  have hrow:=row_drop Stmt.d 19 Stmt.d_len hy0
  have hwi:=wrap_succ (i:=i) (by omega)
  have hf:=h y (List.mem_of_getElem? hy0)
  have hs:=sV (f:=szS) hy0
  have hb:=sum_take_le (f:=szS) l (i+1)
  rw[hs,yX y,←bdS] at hn hb
  generalize ((l.take i).map szS).sum=A at hn hb ⊢
  generalize bdS y=z at hf hn hb
  have hw1:IntKind.i64.wrap ((A:Int)+1)=((A+1:Nat):Int):=by rw[aA]<;>omega
  have hw:IntKind.i64.wrap ((A:Int)+1+(z:Int))=((A+(1+z):Nat):Int):=by rw[aA]<;>omega
  simp[hi,aj,hrow]
  refine ai hf ?_
  simp at hw hw1
  simp[hwi,hw,hw1]
  refine hn _ ?_ trivial
  simp
 ·intro _ q hx hr
  simp
  exact hx _ _ ⟨rfl,by simp⟩
 ·rintro ex en ⟨rfl,rfl⟩
  simp
theorem JP:∀ x:Stmt,x.tot≤10000000→Says prog 125 [.rsl x.Body.length (Cs (x.Body.flatMap Stmt.d))] (.int .i64 (bdS x:Nat)) []:=Stmt.ind fun x ih hx=>by
 have ht:=x.tot_eq
 exact zC x.Body (by omega) fun y hy=>ih y hy (by have:=az Stmt.tot hy;omega)
theorem DY (l:List Stmt) (hl:l.length+(l.map Stmt.tot).sum≤10000000):Says prog 125 [.rsl l.length (Cs (l.flatMap Stmt.d))] (.int .i64 ((l.map szS).sum:Nat)) [] :=
 zC l hl fun x hx=>JP x (by have:=az Stmt.tot hx;omega)
theorem JO:∀ x:Stmt,x.tot≤10000000→Says prog 183 [.rsl x.Body.length (Cs (x.Body.flatMap Stmt.d))] (.int .i64 (bdS x:Nat)) []:=Stmt.ind fun x ih hx=>by
 have ht:=x.tot_eq
 exact zB x.Body (by omega) fun y hy=>ih y hy (by have:=az Stmt.tot hy;omega)
theorem OL (l:List Stmt) (hl:l.length+(l.map Stmt.tot).sum≤10000000):Says prog 183 [.rsl l.length (Cs (l.flatMap Stmt.d))] (.int .i64 ((l.map szS).sum:Nat)) [] :=
 zB l hl fun x hx=>JO x (by have:=az Stmt.tot hx;omega)
end Go.AmC
