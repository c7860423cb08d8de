/- DERIVED: THE SHELF's CONTRACTS AT THIS DUMP,IN PLAIN WORDS (tools/lay-plain.mjs out of 'ShQ0.lean',which tools/lay-shelf.mjs wrote): THE SAME DECLARATIONS UNDER THE SAME NAMES: 'import','namespace','open','def','theorem' AND NOTHING ELSE: no command of the shelf's: FOR A HAND-IN. Each laying: the table of numbers ('.._ren') and one theorem,a field a fact of the dump's own or the kernel's comparison;each contract: ONE APPLICATION. -/
import Derived.Shelf.SlLaysF0
import Derived.Shelf.SlSortCmp.NoneTotal
import Derived.Shelf.SlGeneric
import Derived.Ground.SlsfProg
import Derived.Test.YtbhogmdpmkpinaaGreatProg
namespace Go.Proofs.YtbhogmdpmkpinaaGreat.P
open Go.Shelf
def Tryz.Md:Go.Shelf.Ren:=⟨fun|6=>355|15=>372|14=>371|28=>386|29=>387|20=>378|21=>379|22=>380|23=>381|24=>382|25=>383|26=>384|27=>385|46=>388|47=>389|48=>390|49=>391|50=>392|57=>393|n=>n,fun|22=>43|24=>153|25=>369|3=>3|39=>342|0=>0|53=>398|55=>400|4=>4|46=>391|45=>390|50=>395|5=>5|9=>9|66=>401|70=>405|76=>407|77=>408|n=>n,fun|n=>n⟩
theorem Tryz.aqP:Go.Proofs.SlLaysF0.n6 Tryz.prog Tryz.Md:={
 mixed:=by kernel_rfl
 f6:=⟨Tryz.f355.name,by decide,Tryz.func355.trans (congrArg some (by kernel_rfl))⟩
 f14:=⟨Tryz.f371.name,by decide,Tryz.func371.trans (congrArg some (by kernel_rfl))⟩
 f15:=Tryz.func372.trans (congrArg some (by kernel_rfl))
 f20:=⟨Tryz.f378.name,by decide,Tryz.func378.trans (congrArg some (by kernel_rfl))⟩
 f21:=⟨Tryz.f379.name,by decide,Tryz.func379.trans (congrArg some (by kernel_rfl))⟩
 f22:=⟨Tryz.f380.name,by decide,Tryz.func380.trans (congrArg some (by kernel_rfl))⟩
 f23:=⟨Tryz.f381.name,by decide,Tryz.func381.trans (congrArg some (by kernel_rfl))⟩
 f24:=⟨Tryz.f382.name,by decide,Tryz.func382.trans (congrArg some (by kernel_rfl))⟩
 f25:=⟨Tryz.f383.name,by decide,Tryz.func383.trans (congrArg some (by kernel_rfl))⟩
 f26:=⟨Tryz.f384.name,by decide,Tryz.func384.trans (congrArg some (by kernel_rfl))⟩
 f27:=⟨Tryz.f385.name,by decide,Tryz.func385.trans (congrArg some (by kernel_rfl))⟩
 f28:=Tryz.func386.trans (congrArg some (by kernel_rfl))
 f29:=Tryz.func387.trans (congrArg some (by kernel_rfl))
 f46:=⟨Tryz.f388.name,by decide,Tryz.func388.trans (congrArg some (by kernel_rfl))⟩
 f47:=Tryz.func389.trans (congrArg some (by kernel_rfl))
 f48:=Tryz.func390.trans (congrArg some (by kernel_rfl))
 f49:=⟨Tryz.f391.name,by decide,Tryz.func391.trans (congrArg some (by kernel_rfl))⟩
 f50:=⟨Tryz.f392.name,by decide,Tryz.func392.trans (congrArg some (by kernel_rfl))⟩
 f57:=⟨Tryz.f393.name,by decide,Tryz.func393.trans (congrArg some (by kernel_rfl))⟩
 t0:=Tryz.underlying0
 a0:=Tryz.isAgg0
 z0:=Tryz.sizeOf0
 v0:=Tryz.zeroValue0
 t3:=Tryz.underlying3
 a3:=Tryz.isAgg3
 z3:=Tryz.sizeOf3
 v3:=Tryz.zeroValue3
 t4:=Tryz.underlying4
 a4:=Tryz.isAgg4
 z4:=Tryz.sizeOf4
 v4:=Tryz.zeroValue4
 t5:=Tryz.underlying5
 a5:=Tryz.isAgg5
 z5:=Tryz.sizeOf5
 v5:=Tryz.zeroValue5
 t9:=Tryz.underlying9
 a9:=Tryz.isAgg9
 z9:=Tryz.sizeOf9
 v9:=Tryz.zeroValue9
 t22:=Tryz.underlying43
 a22:=Tryz.isAgg43
 z22:=Tryz.sizeOf43
 v22:=Tryz.zeroValue43
 t25:=Tryz.underlying369
 a25:=Tryz.isAgg369
 z25:=Tryz.sizeOf369
 v25:=Tryz.zeroValue369
 t39:=Tryz.underlying342
 a39:=Tryz.isAgg342
 z39:=Tryz.sizeOf342
 v39:=Tryz.zeroValue342
 t45:=Tryz.underlying390
 a45:=Tryz.isAgg390
 z45:=Tryz.sizeOf390
 v45:=Tryz.zeroValue390
 t46:=Tryz.underlying391
 a46:=Tryz.isAgg391
 z46:=Tryz.sizeOf391
 v46:=Tryz.zeroValue391
 t50:=Tryz.underlying395
 a50:=Tryz.isAgg395
 z50:=Tryz.sizeOf395
 v50:=Tryz.zeroValue395
 t53:=Tryz.underlying398
 a53:=Tryz.isAgg398
 z53:=Tryz.sizeOf398
 v53:=Tryz.zeroValue398
 t55:=Tryz.underlying400
 a55:=Tryz.isAgg400
 z55:=Tryz.sizeOf400
 v55:=Tryz.zeroValue400
 t66:=Tryz.underlying401
 a66:=Tryz.isAgg401
 z66:=Tryz.sizeOf401
 v66:=Tryz.zeroValue401
 t70:=Tryz.underlying405
 a70:=Tryz.isAgg405
 z70:=Tryz.sizeOf405
 v70:=Tryz.zeroValue405
 t76:=Tryz.underlying407
 a76:=Tryz.isAgg407
 z76:=Tryz.sizeOf407
 v76:=Tryz.zeroValue407
 t77:=Tryz.underlying408
 a77:=Tryz.isAgg408
 z77:=Tryz.sizeOf408
 v77:=Tryz.zeroValue408 }
end Go.Proofs.YtbhogmdpmkpinaaGreat.P
