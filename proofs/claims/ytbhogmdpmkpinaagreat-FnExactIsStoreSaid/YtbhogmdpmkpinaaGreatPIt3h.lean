/- A part of the proof: It3h. No conditions. -/
import Derived.Test.YtbhogmdpmkpinaaGreatPIt2h
import Derived.Test.YtbhogmdpmkpinaaGreatPG8
import Derived.Test.YtbhogmdpmkpinaaGreatChecked
import Derived.KernelRfl
set_option linter.unusedVariables false
set_option maxRecDepth 100000
namespace Go.Proofs.YtbhogmdpmkpinaaGreat.P.It
open Am
noncomputable section
def AJ(a0:List Int)(a1:Int):Q1 Int:=Qq.an (a0,a1,())
theorem ajU(a0:List Int)(a1:Int):AJ a0 a1 =
 bif decide (IntKind.i64.wrap (a1 - (↑a0.length:Int))<0)then some ((-1,()),())
else some ((IntKind.i64.wrap (a1 - (↑a0.length:Int)),()),()):=by kernel_rfl
def vB(a0:aa)(a1:Int):Q1 Int:=Qn.an (a0,a1,())
theorem ajR(a0:aa)(a1:Int):vB a0 a1 =
 (AJ a0.1 a1).bind λy=>bif decide (y.1.1<0)then some ((-1,()),())else some ((y.1.1,()),()):=by kernel_rfl
def NS:Env:=Gp.env C Cf.1 Tryz.f334
def RS:=Gp.out C
def zo(x0:List aa)(x1:Int)(x5:Int):Q1 Int:=aJ NS [1,1,1,0,1,0] (Tryz.f334.body.getD .skip) RS (vd ow x0::vi x1::dd 3 (vi x5::dd 21 ([])))
def AI(a0:List aa)(a1:Int):Q1 Int:=Qo.an (a0,a1,())
def aoY:List (Nat×List Nat):=[(1000005,[1,1,1,0,1,0])]
theorem ZI:okB aoY (Tryz.f334.body.getD .skip) []=true:=by kernel_rfl
theorem Uy(x0:List aa)(x1:Int)(x5:Int):zo x0 x1 x5 =
 bif decide (x5<(↑x0.length:Int))then
 (ae x0 x5).bind λy =>
 (vB y x1).bind λy =>
  bif decide (y.1.1<0)then some ((-1,()),())else zo x0 y.1.1 (IntKind.i64.wrap (x5+1))
else some ((x1,()),()):=(aO ZI [1,1,1,0,1,0] (by kernel_rfl) _).trans (by kernel_rfl)
theorem ajP(a0:List aa)(a1:Int):AI a0 a1 =
 bif decide (IntKind.i64.wrap (a1 - (↑a0.length:Int))<0)then some ((-1,()),())
else zo a0 (IntKind.i64.wrap (a1 - (↑a0.length:Int))) 0:=(Eq.trans (by kernel_rfl:AI a0 a1=az NS (Tryz.f334.body.getD .skip) RS (aS 27 [(ow,Mode.ro),(al,Mode.ro)] (a0,a1,()))) (all_eq ZI _)).trans (by kernel_rfl)
def Hp(a0:Int×List aa)(a1:Int):Q1 Int:=Qp.an (a0,a1,())
theorem ajS(a0:Int×List aa)(a1:Int):Hp a0 a1 =
 (AI a0.2 a1).bind λy=>bif decide (y.1.1<0)then some ((-1,()),())else some ((y.1.1,()),()):=by kernel_rfl
def AO(a0:ByteArray×Int×List aa)(a1:Int):Q1 Int:=Qy.an (a0,a1,())
theorem aj9(a0:ByteArray×Int×List aa)(a1:Int):AO a0 a1 =
 bif decide (IntKind.i64.wrap (a1 - (↑(ByteArray.size a0.1):Int))<0)then some ((-1,()),())
else
 (Hp a0.2 (IntKind.i64.wrap (a1 - (↑(ByteArray.size a0.1):Int)))).bind λy =>
 bif decide (y.1.1<0)then some ((-1,()),())else some ((y.1.1,()),()):=by kernel_rfl
def NX:Env:=Gu.env C Ci.1 Tryz.f239
def RY:=Gu.out C
def zu(x0:List Rw)(x1:Int)(x5:Int):Q1 Int:=aJ NX [1,1,1,0,1,0] (Tryz.f239.body.getD .skip) RY (vd ou x0::vi x1::dd 3 (vi x5::dd 21 ([])))
def AP(a0:List Rw)(a1:Int):Q1 Int:=Qz.an (a0,a1,())
def ao3:List (Nat×List Nat):=[(1000005,[1,1,1,0,1,0])]
theorem ZN:okB ao3 (Tryz.f239.body.getD .skip) []=true:=by kernel_rfl
theorem UD(x0:List Rw)(x1:Int)(x5:Int):zu x0 x1 x5 =
 bif decide (x5<(↑x0.length:Int))then
 (ae x0 x5).bind λy =>
 (AO y x1).bind λy =>
  bif decide (y.1.1<0)then some ((-1,()),())else zu x0 y.1.1 (IntKind.i64.wrap (x5+1))
else some ((x1,()),()):=(aO ZN [1,1,1,0,1,0] (by kernel_rfl) _).trans (by kernel_rfl)
theorem aj7(a0:List Rw)(a1:Int):AP a0 a1 =
 bif decide (IntKind.i64.wrap (a1 - (↑a0.length:Int))<0)then some ((-1,()),())
else zu a0 (IntKind.i64.wrap (a1 - (↑a0.length:Int))) 0:=(Eq.trans (by kernel_rfl:AP a0 a1=az NX (Tryz.f239.body.getD .skip) RY (aS 27 [(ou,Mode.ro),(al,Mode.ro)] (a0,a1,()))) (all_eq ZN _)).trans (by kernel_rfl)
def AM(a0:ByteArray×Int×List Rw)(a1:Int):Q1 Int:=Qv.an (a0,a1,())
theorem aj5(a0:ByteArray×Int×List Rw)(a1:Int):AM a0 a1 =
 bif decide (IntKind.i64.wrap (a1 - (↑(ByteArray.size a0.1):Int))<0)then some ((-1,()),())
else
 (AP a0.2.2 (IntKind.i64.wrap (a1 - (↑(ByteArray.size a0.1):Int)))).bind λy =>
 bif decide (y.1.1<0)then some ((-1,()),())else some ((y.1.1,()),()):=by kernel_rfl
def NV:Env:=Gs.env C Cg.1 Tryz.f43
def RW:=Gs.out C
def zt(x0:List Rel)(x1:Int)(x5:Int):Q1 Int:=aJ NV [1,1,1,0,1,0] (Tryz.f43.body.getD .skip) RW (vd px x0::vi x1::dd 3 (vi x5::dd 21 ([])))
def vD(a0:List Rel)(a1:Int):Q1 Int:=Qw.an (a0,a1,())
def ao1:List (Nat×List Nat):=[(1000005,[1,1,1,0,1,0])]
theorem ZM:okB ao1 (Tryz.f43.body.getD .skip) []=true:=by kernel_rfl
theorem UC(x0:List Rel)(x1:Int)(x5:Int):zt x0 x1 x5 =
 bif decide (x5<(↑x0.length:Int))then
 (ae x0 x5).bind λy =>
 (AM y x1).bind λy =>
  bif decide (y.1.1<0)then some ((-1,()),())else zt x0 y.1.1 (IntKind.i64.wrap (x5+1))
else some ((x1,()),()):=(aO ZM [1,1,1,0,1,0] (by kernel_rfl) _).trans (by kernel_rfl)
theorem aj3(a0:List Rel)(a1:Int):vD a0 a1 =
 bif decide (IntKind.i64.wrap (a1 - (↑a0.length:Int))<0)then some ((-1,()),())
else zt a0 (IntKind.i64.wrap (a1 - (↑a0.length:Int))) 0:=(Eq.trans (by kernel_rfl:vD a0 a1=az NV (Tryz.f43.body.getD .skip) RW (aS 27 [(px,Mode.ro),(al,Mode.ro)] (a0,a1,()))) (all_eq ZM _)).trans (by kernel_rfl)
def AK(a0:Int×aa×ByteArray×ByteArray×List Int×Int×Int×Int)(a1:Int):Q1 Int:=Qr.an (a0,a1,())
theorem ajZ(a0:Int×aa×ByteArray×ByteArray×List Int×Int×Int×Int)(a1:Int):AK a0 a1 =
 (vB a0.2.1 a1).bind λy =>
 bif decide (y.1.1<0)then some ((-1,()),())
 else
 bif decide (IntKind.i64.wrap (y.1.1 - (↑(ByteArray.size a0.2.2.1):Int))<0)then some ((-1,()),())
 else
  bif
   decide
   (IntKind.i64.wrap
    (IntKind.i64.wrap (y.1.1 - (↑(ByteArray.size a0.2.2.1):Int)) -
     (↑(ByteArray.size a0.2.2.2.1):Int)) <
    0)then
  some ((-1,()),())
  else
  (AJ a0.2.2.2.2.1
    (IntKind.i64.wrap
    (IntKind.i64.wrap (y.1.1 - (↑(ByteArray.size a0.2.2.1):Int)) -
     (↑(ByteArray.size a0.2.2.2.1):Int)))).bind
   λy=>bif decide (y.1.1<0)then some ((-1,()),())else some ((y.1.1,()),()):=by kernel_rfl
def NT:Env:=Gq.env C Cd.1 Tryz.f52
def RT:=Gq.out C
def zq(x0:List ak)(x1:Int)(x5:Int):Q1 Int:=aJ NT [1,1,1,0,1,0] (Tryz.f52.body.getD .skip) RT (vd mV x0::vi x1::dd 3 (vi x5::dd 21 ([])))
def vC(a0:List ak)(a1:Int):Q1 Int:=Qs.an (a0,a1,())
def aoZ:List (Nat×List Nat):=[(1000005,[1,1,1,0,1,0])]
theorem ZK:okB aoZ (Tryz.f52.body.getD .skip) []=true:=by kernel_rfl
theorem UA(x0:List ak)(x1:Int)(x5:Int):zq x0 x1 x5 =
 bif decide (x5<(↑x0.length:Int))then
 (ae x0 x5).bind λy =>
 (AK y x1).bind λy =>
  bif decide (y.1.1<0)then some ((-1,()),())else zq x0 y.1.1 (IntKind.i64.wrap (x5+1))
else some ((x1,()),()):=(aO ZK [1,1,1,0,1,0] (by kernel_rfl) _).trans (by kernel_rfl)
theorem ajX(a0:List ak)(a1:Int):vC a0 a1 =
 bif decide (IntKind.i64.wrap (a1 - (↑a0.length:Int))<0)then some ((-1,()),())
else zq a0 (IntKind.i64.wrap (a1 - (↑a0.length:Int))) 0:=(Eq.trans (by kernel_rfl:vC a0 a1=az NT (Tryz.f52.body.getD .skip) RT (aS 27 [(mV,Mode.ro),(al,Mode.ro)] (a0,a1,()))) (all_eq ZK _)).trans (by kernel_rfl)
def NZ:Env:=Gw.env C Cj.1 Tryz.f254
def R0:=Gw.out C
def zw(x0:List Int)(x3:List Int)(x4:Int):Q1 (List Int):=aJ NZ [1,1,0,1,0] (Tryz.f254.body.getD .skip) R0 (vd bm x0::dd 2 (V.d none (al.depth+1) (Ty.slice 3 al) x3::vi x4::dd 17 ([])))
def vF(a0:List Int):Q1 (List Int):=QE.an (a0,())
def ao5:List (Nat×List Nat):=[(1000003,[1,1,0,1,0])]
theorem ZP:okB ao5 (Tryz.f254.body.getD .skip) []=true:=by kernel_rfl
theorem UF(x0:List Int)(x3:List Int)(x4:Int):zw x0 x3 x4 =
 bif decide (x4<(↑x0.length:Int))then
 (ae x0 x4).bind λy =>
 (ae x3 x4).bind λay =>
  (ae x3 x4).bind λbM =>
  (ae x3 x4).bind λcW=>(some (x3.set x4.toNat y)).bind λy=>zw x0 y (IntKind.i64.wrap (x4+1))
else some ((x3,()),()):=(aO ZP [1,1,0,1,0] (by kernel_rfl) _).trans (by kernel_rfl)
theorem aki(a0:List Int):vF a0 =
 bif
 decide (0<=(↑a0.length:Int))&&decide ((↑a0.length:Int)<=(↑a0.length:Int)) &&
  decide ((↑a0.length:Int)*(↑8:Int)<=140737488355328) &&
  decide ((↑a0.length:Int)<=9223372036854775807)then
 zw a0 (List.replicate a0.length (0:Int)) 0
else none:=(Eq.trans (by kernel_rfl:vF a0=az NZ (Tryz.f254.body.getD .skip) R0 (aS 22 [(bm,Mode.ro)] (a0,()))) (all_eq ZP _)).trans (by kernel_rfl)
def vE(a0:aa):Q1 aa:=QB.an (a0,())
theorem akf(a0:aa):vE a0 =
 (vF a0.1).bind λy=>some (((y.1.1,a0.2.1,a0.2.2),()),()):=by kernel_rfl
def NY:Env:=Gv.env C Cm.1 Tryz.f335
def RZ:=Gv.out C
def zv(x0:List aa)(x3:List aa)(x4:Int):Q1 (List aa):=aJ NY [1,1,0,1,0] (Tryz.f335.body.getD .skip) RZ (vd ow x0::dd 2 (V.d none (aK.depth+1) (Ty.slice 153 aK) x3::vi x4::dd 18 ([])))
def AQ(a0:List aa):Q1 (List aa):=QC.an (a0,())
def ao4:List (Nat×List Nat):=[(1000003,[1,1,0,1,0])]
theorem ZO:okB ao4 (Tryz.f335.body.getD .skip) []=true:=by kernel_rfl
theorem UE(x0:List aa)(x3:List aa)(x4:Int):zv x0 x3 x4 =
 bif decide (x4<(↑x0.length:Int))then
 (ae x0 x4).bind λy =>
 (vE y).bind λy =>
  (ae x3 x4).bind λay =>
  (ae x3 x4).bind λbM =>
   (ae x3 x4).bind λcW =>
   (some (x3.set x4.toNat y.1.1)).bind λy=>zv x0 y (IntKind.i64.wrap (x4+1))
else some ((x3,()),()):=(aO ZO [1,1,0,1,0] (by kernel_rfl) _).trans (by kernel_rfl)
theorem akd(a0:List aa):AQ a0 =
 bif
 decide (0<=(↑a0.length:Int))&&decide ((↑a0.length:Int)<=(↑a0.length:Int)) &&
  decide ((↑a0.length:Int)*(↑40:Int)<=140737488355328) &&
  decide ((↑a0.length:Int)<=9223372036854775807)then
 zv a0 (List.replicate a0.length ([],0,false)) 0
else none:=(Eq.trans (by kernel_rfl:AQ a0=az NY (Tryz.f335.body.getD .skip) RZ (aS 23 [(ow,Mode.ro)] (a0,()))) (all_eq ZO _)).trans (by kernel_rfl)
def Hr(a0:Int×List aa):Q1 ab:=QD.an (a0,())
theorem akg(a0:Int×List aa):Hr a0 =
 (AQ a0.2).bind λy=>some (((a0.1,y.1.1),()),()):=by kernel_rfl
def AV(a0:ByteArray×Int×List aa):Q1 Rw:=QL.an (a0,())
theorem akx(a0:ByteArray×Int×List aa):AV a0 =
 (Hr a0.2).bind λy=>some (((a0.1,y.1.1),()),()):=by kernel_rfl
def N4:Env:=GB.env C Cp.1 Tryz.f243
def R5:=GB.out C
def zG(x0:List Rw)(x3:List Rw)(x4:Int):Q1 (List Rw):=aJ N4 [1,1,0,1,0] (Tryz.f243.body.getD .skip) R5 (vd ou x0::dd 2 (V.d none (oy.depth+1) (Ty.slice 304 oy) x3::vi x4::dd 18 ([])))
def AW(a0:List Rw):Q1 (List Rw):=QM.an (a0,())
def apa:List (Nat×List Nat):=[(1000003,[1,1,0,1,0])]
theorem ZU:okB apa (Tryz.f243.body.getD .skip) []=true:=by kernel_rfl
theorem UK(x0:List Rw)(x3:List Rw)(x4:Int):zG x0 x3 x4 =
 bif decide (x4<(↑x0.length:Int))then
 (ae x0 x4).bind λy =>
 (AV y).bind λy =>
  (ae x3 x4).bind λay =>
  (ae x3 x4).bind λbM =>
   (ae x3 x4).bind λcW =>
   (some (x3.set x4.toNat y.1.1)).bind λy=>zG x0 y (IntKind.i64.wrap (x4+1))
else some ((x3,()),()):=(aO ZU [1,1,0,1,0] (by kernel_rfl) _).trans (by kernel_rfl)
theorem akv(a0:List Rw):AW a0 =
 bif
 decide (0<=(↑a0.length:Int))&&decide ((↑a0.length:Int)<=(↑a0.length:Int)) &&
  decide ((↑a0.length:Int)*(↑48:Int)<=140737488355328) &&
  decide ((↑a0.length:Int)<=9223372036854775807)then
 zG a0 (List.replicate a0.length (ByteArray.empty,0,[])) 0
else none:=(Eq.trans (by kernel_rfl:AW a0=az N4 (Tryz.f243.body.getD .skip) R5 (aS 23 [(ou,Mode.ro)] (a0,()))) (all_eq ZU _)).trans (by kernel_rfl)
def AT(a0:ByteArray×Int×List Rw):Q1 Rel:=QI.an (a0,())
theorem akt(a0:ByteArray×Int×List Rw):AT a0 =
 (AW a0.2.2).bind λy=>some (((a0.1,a0.2.1,y.1.1),()),()):=by kernel_rfl
def N2:Env:=Gz.env C Cn.1 Tryz.f46
def R3:=Gz.out C
def zF(x0:List Rel)(x3:List Rel)(x4:Int):Q1 (List Rel):=aJ N2 [1,1,0,1,0] (Tryz.f46.body.getD .skip) R3 (vd px x0::dd 2 (V.d none (fS.depth+1) (Ty.slice 210 fS) x3::vi x4::dd 18 ([])))
def vH(a0:List Rel):Q1 (List Rel):=QJ.an (a0,())
def ao8:List (Nat×List Nat):=[(1000003,[1,1,0,1,0])]
theorem ZT:okB ao8 (Tryz.f46.body.getD .skip) []=true:=by kernel_rfl
theorem UJ(x0:List Rel)(x3:List Rel)(x4:Int):zF x0 x3 x4 =
 bif decide (x4<(↑x0.length:Int))then
 (ae x0 x4).bind λy =>
 (AT y).bind λy =>
  (ae x3 x4).bind λay =>
  (ae x3 x4).bind λbM =>
   (ae x3 x4).bind λcW =>
   (some (x3.set x4.toNat y.1.1)).bind λy=>zF x0 y (IntKind.i64.wrap (x4+1))
else some ((x3,()),()):=(aO ZT [1,1,0,1,0] (by kernel_rfl) _).trans (by kernel_rfl)
theorem akr(a0:List Rel):vH a0 =
 bif
 decide (0<=(↑a0.length:Int))&&decide ((↑a0.length:Int)<=(↑a0.length:Int)) &&
  decide ((↑a0.length:Int)*(↑48:Int)<=140737488355328) &&
  decide ((↑a0.length:Int)<=9223372036854775807)then
 zF a0 (List.replicate a0.length (ByteArray.empty,0,[])) 0
else none:=(Eq.trans (by kernel_rfl:vH a0=az N2 (Tryz.f46.body.getD .skip) R3 (aS 23 [(px,Mode.ro)] (a0,()))) (all_eq ZT _)).trans (by kernel_rfl)
def AR(a0:Int×aa×ByteArray×ByteArray×List Int×Int×Int×Int):Q1 ak:=QF.an (a0,())
theorem akn(a0:Int×aa×ByteArray×ByteArray×List Int×Int×Int×Int):AR a0 =
 (vE a0.2.1).bind λy =>
 (vF a0.2.2.2.2.1).bind λay =>
 some
  (((a0.1,y.1.1,a0.2.2.1,a0.2.2.2.1,ay.1.1,a0.2.2.2.2.2.1,
   a0.2.2.2.2.2.2.1,a0.2.2.2.2.2.2.2),
   ()),
  ()):=by kernel_rfl
def N0:Env:=Gx.env C Ck.1 Tryz.f54
def R1:=Gx.out C
def zy(x0:List ak)(x3:List ak)(x4:Int):Q1 (List ak):=aJ N0 [1,1,0,1,0] (Tryz.f54.body.getD .skip) R1 (vd mV x0::dd 2 (V.d none (de.depth+1) (Ty.slice 225 de) x3::vi x4::dd 18 ([])))
def vG(a0:List ak):Q1 (List ak):=QG.an (a0,())
def ao6:List (Nat×List Nat):=[(1000003,[1,1,0,1,0])]
theorem ZR:okB ao6 (Tryz.f54.body.getD .skip) []=true:=by kernel_rfl
theorem UH(x0:List ak)(x3:List ak)(x4:Int):zy x0 x3 x4 =
 bif decide (x4<(↑x0.length:Int))then
 (ae x0 x4).bind λy =>
 (AR y).bind λy =>
  (ae x3 x4).bind λay =>
  (ae x3 x4).bind λbM =>
   (ae x3 x4).bind λcW =>
   (some (x3.set x4.toNat y.1.1)).bind λy=>zy x0 y (IntKind.i64.wrap (x4+1))
else some ((x3,()),()):=(aO ZR [1,1,0,1,0] (by kernel_rfl) _).trans (by kernel_rfl)
theorem akl(a0:List ak):vG a0 =
 bif
 decide (0<=(↑a0.length:Int))&&decide ((↑a0.length:Int)<=(↑a0.length:Int)) &&
  decide ((↑a0.length:Int)*(↑128:Int)<=140737488355328) &&
  decide ((↑a0.length:Int)<=9223372036854775807)then
 zy a0 (List.replicate a0.length (0,([],0,false),ByteArray.empty,ByteArray.empty,[],0,0,0)) 0
else none:=(Eq.trans (by kernel_rfl:vG a0=az N0 (Tryz.f54.body.getD .skip) R1 (aS 23 [(mV,Mode.ro)] (a0,()))) (all_eq ZR _)).trans (by kernel_rfl)
def gJ(a0:Int)(a1:Int)(a2:Int):Q1 Bool:=PH.an (a0,a1,a2,())
theorem aiQ(a0:Int)(a1:Int)(a2:Int):gJ a0 a1 a2 =
 bif decide (a0>=a1)then some ((decide (a0<=a2),()),())else some ((false,()),()):=by kernel_rfl
def NI:Env:=Gd.env C BN.1 Tryz.f184
def RI:=Gd.out C
def u4(x0:ByteArray)(x1:Int)(x2:Int)(x7:Int):Q1 Bool:=aJ NI [1,0,1,0] (Tryz.f184.body.getD .skip) RI (vd bX x0::vd jf x1::vd jf x2::dd 4 (vi x7::dd 21 ([])))
def si(a0:ByteArray)(a1:Int)(a2:Int):Q1 Bool:=P5.an (a0,a1,a2,())
def aoN:List (Nat×List Nat):=[(1000002,[1,0,1,0])]
theorem Zy:okB aoN (Tryz.f184.body.getD .skip) []=true:=by kernel_rfl
theorem Ul(x0:ByteArray)(x1:Int)(x2:Int)(x7:Int):u4 x0 x1 x2 x7 =
 bif decide (x7<(↑x0.size:Int))then
 (nE x0 x7).bind λy =>
 bif decide (y<x1)then some ((false,()),())
 else
  (nE x0 x7).bind λy =>
  bif decide (y>x2)then some ((false,()),())else u4 x0 x1 x2 (IntKind.i64.wrap (x7+1))
else (gJ (↑x0.size:Int) 1 6).bind λy=>some ((y.1.1,()),()):=(aO Zy [1,0,1,0] (by kernel_rfl) _).trans (by kernel_rfl)
theorem ajj(a0:ByteArray)(a1:Int)(a2:Int):si a0 a1 a2 =
 u4 a0 a1 a2 0:=(Eq.trans (by kernel_rfl:si a0 a1 a2=az NI (Tryz.f184.body.getD .skip) RI (aS 29 [(bX,Mode.ro),(jf,Mode.ro),(jf,Mode.ro)] (a0,a1,a2,()))) (all_eq Zy _)).trans (by kernel_rfl)
def Aj(a0:Int):Q1 Bool:=Pt.an (a0,())
theorem aix(a0:Int):Aj a0 =
 (gJ a0 (-400000000) 400000000).bind λy=>some ((y.1.1,()),()):=by kernel_rfl
def vt(a0:Int):Q1 Int:=PG.an (a0,())
theorem Vt(a0:Int):vt a0 =
 some
 ((bif true then if a0<IntKind.i64.wrap (0 - a0)then IntKind.i64.wrap (0 - a0)else a0
  else if IntKind.i64.wrap (0 - a0)<a0 then IntKind.i64.wrap (0 - a0)else a0,
  ()),
 ()):=by kernel_rfl
def Ey:Env:=F2.env C BM.1 Tryz.f325
def ER:=F2.out C
def y6(x0:List Int)(x5:Int)(x6:Int)(x7:Int):Q1 Int:=aJ Ey [1,1,0,1,0,0,1,0,0,1,0] (Tryz.f325.body.getD .skip) ER (vd bm x0::dd 4 (vd al x5::vi x6::vd al x7::dd 20 ([])))
def rR(x0:List Int)(x5:Int)(x6:Int):Q1 Int:=aJ Ey [1,1,0,1,0] (Tryz.f325.body.getD .skip) ER (vd bm x0::dd 4 (vd al x5::vi x6::dd 21 ([])))
def pN(a0:List Int)(a1:Int):Q1 Int:=PK.an (a0,a1,())
def aoC:List (Nat×List Nat):=[(1000003,[1,1,0,1,0]),(1000006,[1,1,0,1,0,0,1,0,0,1,0])]
theorem KZ:okB aoC (Tryz.f325.body.getD .skip) []=true:=by kernel_rfl
theorem afw(x0:List Int)(x5:Int)(x6:Int)(x7:Int):y6 x0 x5 x6 x7 =
 bif x7 != 0 then bif x7 != 0 then y6 x0 x7 x6 (x5.tmod x7)else none
else rR x0 x5 (IntKind.i64.wrap (x6+1)):=(aO KZ [1,1,0,1,0,0,1,0,0,1,0] (by kernel_rfl) _).trans (by kernel_rfl)
theorem y5(x0:List Int)(x5:Int)(x6:Int):rR x0 x5 x6 =
 bif decide (x6<(↑x0.length:Int))then
 (ae x0 x6).bind λy=>(vt y).bind λy=>y6 x0 x5 x6 y.1.1
else some ((x5,()),()):=(aO KZ [1,1,0,1,0] (by kernel_rfl) _).trans (by kernel_rfl)
theorem Vx(a0:List Int)(a1:Int):pN a0 a1 =
 (vt a1).bind λy=>rR a0 y.1.1 0:=(Eq.trans (by kernel_rfl:pN a0 a1=az Ey (Tryz.f325.body.getD .skip) ER (aS 28 [(bm,Mode.ro),(al,Mode.ro)] (a0,a1,()))) (all_eq KZ _)).trans (by kernel_rfl)
def Np:Env:=FL.env C BP.1 Tryz.f280
def Rp:=FL.out C
def rM(x1:aa)(x3:Int):Q1 Bool:=aJ Np [1,1,0,1,0] (Tryz.f280.body.getD .skip) Rp (V.dead::(V.box none 0 aK x1::V.dead::(vi x3::dd 30 ([]))))
def nm(a0:aa):Q1 Bool:=Po.an (a0,())
def aon:List (Nat×List Nat):=[(1000004,[1,1,0,1,0])]
theorem Zg:okB aon (Tryz.f280.body.getD .skip) []=true:=by kernel_rfl
theorem Tr(x1:aa)(x3:Int):rM x1 x3 =
 bif decide (x3<(↑(List.length x1.1):Int))then
 (ae x1.1 x3).bind λy =>
 (Aj y).bind λy =>
  bif !y.1.1 then some ((false,()),())else rM x1 (IntKind.i64.wrap (x3+1))
else (pN x1.1 x1.2.1).bind λy=>some ((decide (y.1.1<=1),()),()):=(aO Zg [1,1,0,1,0] (by kernel_rfl) _).trans (by kernel_rfl)
theorem ais(a0:aa):nm a0 =
 bif decide ((↑(List.length a0.1):Int)>4)then some ((false,()),())
else (Aj a0.2.1).bind λy=>bif !y.1.1 then some ((false,()),())else rM a0 0:=(Eq.trans (by kernel_rfl:nm a0=az Np (Tryz.f280.body.getD .skip) Rp (aS 34 [(aK,Mode.ro)] (a0,()))) (all_eq Zg _)).trans (by kernel_rfl)
def Nq:Env:=FM.env C Bz.1 Tryz.f201
def Rq:=FM.out C
def rN(x1:Int×List aa)(x3:Int):Q1 Bool:=aJ Nq [1,0,1,0] (Tryz.f201.body.getD .skip) Rq (V.dead::(V.box none 0 aw x1::V.dead::(vi x3::dd 35 ([]))))
def np(a0:Int×List aa):Q1 Bool:=Pp.an (a0,())
def aoo:List (Nat×List Nat):=[(1000002,[1,0,1,0])]
theorem Zh:okB aoo (Tryz.f201.body.getD .skip) []=true:=by kernel_rfl
theorem Tt(x1:Int×List aa)(x3:Int):rN x1 x3 =
 bif decide (x3<(↑(List.length x1.2):Int))then
 (ae x1.2 x3).bind λy =>
 (nm y).bind λy =>
  bif !y.1.1 then some ((false,()),())
  else
  (ae x1.2 x3).bind λy =>
   bif (↑(List.length y.1):Int) != x1.1 then some ((false,()),())
   else rN x1 (IntKind.i64.wrap (x3+1))
else
 (gJ x1.1 0 4).bind λy =>
 bif y.1.1 then some ((decide ((↑(List.length x1.2):Int)<=16),()),())else some ((false,()),()):=(aO Zh [1,0,1,0] (by kernel_rfl) _).trans (by kernel_rfl)
theorem ait(a0:Int×List aa):np a0 =
 rN a0 0:=(Eq.trans (by kernel_rfl:np a0=az Nq (Tryz.f201.body.getD .skip) Rq (aS 39 [(aw,Mode.ro)] (a0,()))) (all_eq Zh _)).trans (by kernel_rfl)
def Nu:Env:=FR.env C BA.1 Tryz.f258
def Ru:=FR.out C
def rQ(x1:ByteArray×Int×List Rw)(x3:Int):Q1 Bool:=aJ Nu [1,0,1,0] (Tryz.f258.body.getD .skip) Ru (V.dead::(V.box none 0 fS x1::V.dead::(vi x3::dd 51 ([]))))
def vq(a0:ByteArray×Int×List Rw):Q1 Bool:=Pv.an (a0,())
def aot:List (Nat×List Nat):=[(1000002,[1,0,1,0])]
theorem Zl:okB aot (Tryz.f258.body.getD .skip) []=true:=by kernel_rfl
theorem TB(x1:ByteArray×Int×List Rw)(x3:Int):rQ x1 x3 =
 bif decide (x3<(↑(List.length x1.2.2):Int))then
 (ae x1.2.2 x3).bind λy =>
 (si y.1 97 122).bind λy =>
  bif !y.1.1 then some ((false,()),())
  else
  (ae x1.2.2 x3).bind λy =>
   (np y.2).bind λy =>
   bif !y.1.1 then some ((false,()),())
   else
    (ae x1.2.2 x3).bind λy =>
    bif y.2.1 != x1.2.1 then some ((false,()),())else rQ x1 (IntKind.i64.wrap (x3+1))
else
 (si x1.1 65 90).bind λy =>
 bif y.1.1 then
  (gJ x1.2.1 0 4).bind λy =>
  bif y.1.1 then some ((decide ((↑(List.length x1.2.2):Int)<=8),()),())else some ((false,()),())
 else some ((false,()),()):=(aO Zl [1,0,1,0] (by kernel_rfl) _).trans (by kernel_rfl)
theorem aiy(a0:ByteArray×Int×List Rw):vq a0 =
 rQ a0 0:=(Eq.trans (by kernel_rfl:vq a0=az Nu (Tryz.f258.body.getD .skip) Ru (aS 55 [(fS,Mode.ro)] (a0,()))) (all_eq Zl _)).trans (by kernel_rfl)
def No:Env:=FJ.env C BE.1 Tryz.f259
def Ro:=FJ.out C
def yR(x0:List Rel)(x1:ByteArray)(x5:Int):Q1 Int:=aJ No [1,0,1,0] (Tryz.f259.body.getD .skip) Ro (vd a6 x0::vd bX x1::dd 3 (vi x5::dd 14 ([])))
def pM(a0:List Rel)(a1:ByteArray):Q1 Int:=Pl.an (a0,a1,())
def aol:List (Nat×List Nat):=[(1000002,[1,0,1,0])]
theorem Zf:okB aol (Tryz.f259.body.getD .skip) []=true:=by kernel_rfl
theorem Tj(x0:List Rel)(x1:ByteArray)(x5:Int):yR x0 x1 x5 =
 bif decide (x5<(↑x0.length:Int))then
 (ae x0 x5).bind λy =>
 bif ByteArray.toList y.1==x1.toList then some ((x5,()),())
 else yR x0 x1 (IntKind.i64.wrap (x5+1))
else some ((-1,()),()):=(aO Zf [1,0,1,0] (by kernel_rfl) _).trans (by kernel_rfl)
theorem ain(a0:List Rel)(a1:ByteArray):pM a0 a1 =
 yR a0 a1 0:=(Eq.trans (by kernel_rfl:pM a0 a1=az No (Tryz.f259.body.getD .skip) Ro (aS 20 [(a6,Mode.ro),(bX,Mode.ro)] (a0,a1,()))) (all_eq Zf _)).trans (by kernel_rfl)
def Nr:Env:=FN.env C Bx.1 Tryz.f158
def Rr:=FN.out C
def rO(x0:List Rel)(x3:Int):Q1 Bool:=aJ Nr [1,0,1,0] (Tryz.f158.body.getD .skip) Rr (vd a6 x0::dd 2 (vi x3::dd 27 ([])))
def vn(a0:List Rel):Q1 Bool:=Pq.an (a0,())
def aop:List (Nat×List Nat):=[(1000002,[1,0,1,0])]
theorem Zi:okB aop (Tryz.f158.body.getD .skip) []=true:=by kernel_rfl
theorem Tu(x0:List Rel)(x3:Int):rO x0 x3 =
 bif decide (x3<(↑x0.length:Int))then
 (ae x0 x3).bind λy =>
 (vq y).bind λy =>
  bif !y.1.1 then some ((false,()),())
  else
  bif decide (0<=0)&&decide (0<=x3)&&decide (x3<=(↑x0.length:Int))then
   (ae x0 x3).bind λy =>
   (pM (List.drop (Int.toNat 0) (List.take x3.toNat x0)) y.1).bind λy =>
    bif decide (y.1.1>=0)then some ((false,()),())else rO x0 (IntKind.i64.wrap (x3+1))
  else none
else some ((decide ((↑x0.length:Int)<=6),()),()):=(aO Zi [1,0,1,0] (by kernel_rfl) _).trans (by kernel_rfl)
theorem aiu(a0:List Rel):vn a0 =
 rO a0 0:=(Eq.trans (by kernel_rfl:vn a0=az Nr (Tryz.f158.body.getD .skip) Rr (aS 31 [(a6,Mode.ro)] (a0,()))) (all_eq Zi _)).trans (by kernel_rfl)
def He(a0:aa):Q1 Bool:=P0.an (a0,())
theorem ajc(a0:aa):He a0 =
 bif (↑(List.length a0.1):Int)==0 then
 bif a0.2.1==0 then some ((!a0.2.2,()),())else some ((false,()),())
else some ((false,()),()):=by kernel_rfl
def ym:Env:=Ga.env C BZ.1 Tryz.f314
def yy:=Ga.out C
def rV(x0:List Rel)(x3:Int×aa×ByteArray×ByteArray×List Int×Int×Int×Int)(x5:Int)(x6:Int):Q1 Bool:=aJ ym [1,1,1,0,1,0,1,1,1,0,1,0,1,0] (Tryz.f314.body.getD .skip) yy (vd a6 x0::dd 2 (V.box none 0 de x3::V.dead::(vd al x5::vi x6::dd 133 ([]))))
def fB(x0:List Rel)(x3:Int×aa×ByteArray×ByteArray×List Int×Int×Int×Int):Q1 Bool:=gy ym [1,1,1] (Tryz.f314.body.getD .skip) yy (vd a6 x0::dd 2 (V.box none 0 de x3::dd 136 ([])))
def rB(x0:List Rel)(x3:Int×aa×ByteArray×ByteArray×List Int×Int×Int×Int):Q1 Bool:=gy ym [1,1] (Tryz.f314.body.getD .skip) yy (vd a6 x0::dd 2 (V.box none 0 de x3::dd 136 ([])))
def Aw(a0:List Rel)(a1:Int×aa×ByteArray×ByteArray×List Int×Int×Int×Int):Q1 Bool:=P1.an (a0,a1,())
def aoK:List (Nat×List Nat):=[(2000003,[1,1]),(2000005,[1,1,1]),(1000011,[1,1,1,0,1,0,1,1,1,0,1,0,1,0])]
theorem Dq:okB aoK (Tryz.f314.body.getD .skip) []=true:=by kernel_rfl
theorem Ui(x0:List Rel)(x3:Int×aa×ByteArray×ByteArray×List Int×Int×Int×Int)(x5:Int)(x6:Int):rV x0 x3 x5 x6 =
 bif decide (x6<(↑(List.length x3.2.2.2.2.1):Int))then
 (ae x3.2.2.2.2.1 x6).bind λy =>
 (gJ y 0 3).bind λy =>
  bif !y.1.1 then some ((false,()),())else rV x0 x3 x5 (IntKind.i64.wrap (x6+1))
else
 bif decide (x5>=0)then
 (ae x0 x5).bind λy =>
  bif y.2.1==(↑(List.length x3.2.2.2.2.1):Int)then
  bif ByteArray.toList x3.2.2.2.1==(ByteArray.mk #[]).toList then some ((true,()),())
  else (si x3.2.2.2.1 97 122).bind λy=>some ((y.1.1,()),())
  else some ((false,()),())
 else some ((false,()),()):=(aO Dq [1,1,1,0,1,0,1,1,1,0,1,0,1,0] (by kernel_rfl) _).trans (by kernel_rfl)
theorem afh(x0:List Rel)(x3:Int×aa×ByteArray×ByteArray×List Int×Int×Int×Int):fB x0 x3 =
 bif x3.1==0 then
 (nm x3.2.1).bind λy =>
 bif y.1.1 then some (((↑(List.length x3.2.1.1):Int)==4,()),())else some ((false,()),())
else
 bif x3.1==1 then (pM x0 x3.2.2.1).bind λy=>rV x0 x3 y.1.1 0
 else
 (gJ x3.1 2 6).bind λy =>
  bif y.1.1 then (gJ x3.2.2.2.2.2.1 0 3).bind λy=>some ((y.1.1,()),())
  else some ((false,()),()):=(join_eq Dq [1,1,1] _).trans (by kernel_rfl)
theorem aff(x0:List Rel)(x3:Int×aa×ByteArray×ByteArray×List Int×Int×Int×Int):rB x0 x3 =
 bif x3.1 != 5 then
 bif x3.1 != 6 then
 bif x3.2.2.2.2.2.1 != 0 then some ((false,()),())
 else
  bif x3.1 != 3 then
  bif x3.1 != 4 then
   bif x3.2.2.2.2.2.2.2 != 0 then some ((false,()),())
   else
   bif decide (x3.1<=1)then
    bif x3.2.2.2.2.2.2.1 != 0 then some ((false,()),())else fB x0 x3
   else fB x0 x3
  else
   bif decide (x3.1<=1)then
   bif x3.2.2.2.2.2.2.1 != 0 then some ((false,()),())else fB x0 x3
   else fB x0 x3
  else
  bif decide (x3.1<=1)then
   bif x3.2.2.2.2.2.2.1 != 0 then some ((false,()),())else fB x0 x3
  else fB x0 x3
 else
 bif x3.1 != 3 then
  bif x3.1 != 4 then
  bif x3.2.2.2.2.2.2.2 != 0 then some ((false,()),())
  else
   bif decide (x3.1<=1)then
   bif x3.2.2.2.2.2.2.1 != 0 then some ((false,()),())else fB x0 x3
   else fB x0 x3
  else
  bif decide (x3.1<=1)then
   bif x3.2.2.2.2.2.2.1 != 0 then some ((false,()),())else fB x0 x3
  else fB x0 x3
 else
  bif decide (x3.1<=1)then
  bif x3.2.2.2.2.2.2.1 != 0 then some ((false,()),())else fB x0 x3
  else fB x0 x3
else
 bif x3.1 != 3 then
 bif x3.1 != 4 then
  bif x3.2.2.2.2.2.2.2 != 0 then some ((false,()),())
  else
  bif decide (x3.1<=1)then
   bif x3.2.2.2.2.2.2.1 != 0 then some ((false,()),())else fB x0 x3
  else fB x0 x3
 else
  bif decide (x3.1<=1)then
  bif x3.2.2.2.2.2.2.1 != 0 then some ((false,()),())else fB x0 x3
  else fB x0 x3
 else
 bif decide (x3.1<=1)then
  bif x3.2.2.2.2.2.2.1 != 0 then some ((false,()),())else fB x0 x3
 else fB x0 x3:=(join_eq Dq [1,1] _).trans (by kernel_rfl)
theorem aje(a0:List Rel)(a1:Int×aa×ByteArray×ByteArray×List Int×Int×Int×Int):Aw a0 a1 =
 bif a1.1 != 0 then
 (He a1.2.1).bind λy =>
 bif !y.1.1 then some ((false,()),())
 else
  bif a1.1 != 1 then
  bif !ByteArray.toList a1.2.2.1==(ByteArray.mk #[]).toList then some ((false,()),())
  else
   bif !ByteArray.toList a1.2.2.2.1==(ByteArray.mk #[]).toList then some ((false,()),())
   else
   bif decide ((↑(List.length a1.2.2.2.2.1):Int)>0)then some ((false,()),())else rB a0 a1
  else rB a0 a1
else
 bif a1.1 != 1 then
 bif !ByteArray.toList a1.2.2.1==(ByteArray.mk #[]).toList then some ((false,()),())
 else
  bif !ByteArray.toList a1.2.2.2.1==(ByteArray.mk #[]).toList then some ((false,()),())
  else
  bif decide ((↑(List.length a1.2.2.2.2.1):Int)>0)then some ((false,()),())else rB a0 a1
 else rB a0 a1:=(Eq.trans (by kernel_rfl:Aw a0 a1=az ym (Tryz.f314.body.getD .skip) yy (aS 140 [(a6,Mode.ro),(de,Mode.ro)] (a0,a1,()))) (all_eq Dq _)).trans (by kernel_rfl)
def yk:Env:=FP.env C B0.1 Tryz.f251
def yw:=FP.out C
def oC(x0:List Rel)(x1:List ak)(x5:List Int)(x6:Int)(x7:Int)(x8:Int):Q1 Bool:=gy yk [1,1,1,0,1,0,0,1,0,0,1,1,1,1,1] (Tryz.f251.body.getD .skip) yw (vd a6 x0::vd bS x1::dd 3 (V.d none (al.depth+1) (Ty.slice 3 al) x5::vi x6::vi x7::vi x8::dd 108 ([])))
def kR(x0:List Rel)(x1:List ak)(x5:List Int)(x6:Int)(x7:Int):Q1 Bool:=gy yk [1,1,1,0,1,0,0,1,0,0,1,1,1] (Tryz.f251.body.getD .skip) yw (vd a6 x0::vd bS x1::dd 3 (V.d none (al.depth+1) (Ty.slice 3 al) x5::vi x6::vi x7::dd 109 ([])))
def rP(x0:List Rel)(x1:List ak)(x5:List Int)(x6:Int):Q1 Bool:=aJ yk [1,1,1,0,1,0] (Tryz.f251.body.getD .skip) yw (vd a6 x0::vd bS x1::dd 3 (V.d none (al.depth+1) (Ty.slice 3 al) x5::vi x6::dd 110 ([])))
def vp(a0:List Rel)(a1:List ak):Q1 Bool:=Ps.an (a0,a1,())
def aor:List (Nat×List Nat):=[(1000005,[1,1,1,0,1,0]),(2000014,[1,1,1,0,1,0,0,1,0,0,1,1,1]),(2000017,[1,1,1,0,1,0,0,1,0,0,1,1,1,1,1])]
theorem Dn:okB aor (Tryz.f251.body.getD .skip) []=true:=by kernel_rfl
theorem afe(x0:List Rel)(x1:List ak)(x5:List Int)(x6:Int)(x7:Int)(x8:Int):oC x0 x1 x5 x6 x7 x8 =
 bif
 decide (0<=0)&&decide (0<=IntKind.i64.wrap (x8 - x7)) &&
  decide (IntKind.i64.wrap (x8 - x7)<=(↑x5.length:Int))then
 bif
  decide
  ((0+(List.drop (Int.toNat 0) (List.take (IntKind.i64.wrap (x8 - x7)).toNat x5)).length)*8 <=
   140737488355328)then
 bif
  decide
   (((List.drop (Int.toNat 0) (List.take (IntKind.i64.wrap (x8 - x7)).toNat x5)).length+1)*8 <=
   140737488355328)then
  rP x0 x1 (List.drop (Int.toNat 0) (List.take (IntKind.i64.wrap (x8 - x7)).toNat x5)++[x6])
  (IntKind.i64.wrap (x6+1))
 else none
 else none
else none:=(join_eq Dn [1,1,1,0,1,0,0,1,0,0,1,1,1,1,1] _).trans (by kernel_rfl)
theorem afc(x0:List Rel)(x1:List ak)(x5:List Int)(x6:Int)(x7:Int):kR x0 x1 x5 x6 x7 =
 bif decide ((↑x5.length:Int)<x7)then some ((false,()),())
else
 bif x7==1 then
 (ae x5 (IntKind.i64.wrap ((↑x5.length:Int) - 1))).bind λy =>
  (ae x5 (IntKind.i64.wrap ((↑x5.length:Int) - 1))).bind λy =>
  (ae x1 x6).bind λay =>
   bif y != ay.2.2.2.2.2.2.1 then some ((false,()),())
   else
   bif x7==2 then
    (ae x5 (IntKind.i64.wrap ((↑x5.length:Int) - 1))).bind λy =>
    (ae x5 (IntKind.i64.wrap ((↑x5.length:Int) - 1))).bind λy =>
     (ae x1 x6).bind λbM =>
     bif y != bM.2.2.2.2.2.2.2 then some ((false,()),())
     else
      (ae x5 (IntKind.i64.wrap ((↑x5.length:Int) - 2))).bind λy =>
      (ae x5 (IntKind.i64.wrap ((↑x5.length:Int) - 2))).bind λy =>
       (ae x1 x6).bind λcW =>
       bif y != cW.2.2.2.2.2.2.1 then some ((false,()),())
       else oC x0 x1 x5 x6 x7 (↑x5.length:Int)
   else oC x0 x1 x5 x6 x7 (↑x5.length:Int)
 else
 bif x7==2 then
  (ae x5 (IntKind.i64.wrap ((↑x5.length:Int) - 1))).bind λy =>
  (ae x5 (IntKind.i64.wrap ((↑x5.length:Int) - 1))).bind λy =>
   (ae x1 x6).bind λay =>
   bif y != ay.2.2.2.2.2.2.2 then some ((false,()),())
   else
    (ae x5 (IntKind.i64.wrap ((↑x5.length:Int) - 2))).bind λy =>
    (ae x5 (IntKind.i64.wrap ((↑x5.length:Int) - 2))).bind λy =>
     (ae x1 x6).bind λbM =>
     bif y != bM.2.2.2.2.2.2.1 then some ((false,()),())
     else oC x0 x1 x5 x6 x7 (↑x5.length:Int)
 else oC x0 x1 x5 x6 x7 (↑x5.length:Int):=(join_eq Dn [1,1,1,0,1,0,0,1,0,0,1,1,1] _).trans (by kernel_rfl)
theorem Tx(x0:List Rel)(x1:List ak)(x5:List Int)(x6:Int):rP x0 x1 x5 x6 =
 bif decide (x6<(↑x1.length:Int))then
 (ae x1 x6).bind λy =>
 (Aw x0 y).bind λy =>
  bif !y.1.1 then some ((false,()),())
  else
  (ae x1 x6).bind λy =>
   bif y.1==3 then kR x0 x1 x5 x6 2
   else
   (ae x1 x6).bind λy =>
    bif y.1==4 then kR x0 x1 x5 x6 2
    else
    (ae x1 x6).bind λy =>
     bif decide (y.1>1)then kR x0 x1 x5 x6 1 else kR x0 x1 x5 x6 0
else some (((↑x5.length:Int)==1,()),()):=(aO Dn [1,1,1,0,1,0] (by kernel_rfl) _).trans (by kernel_rfl)
theorem aiw(a0:List Rel)(a1:List ak):vp a0 a1 =
 (vn a0).bind λy =>
 bif !y.1.1 then some ((false,()),())
 else
 (gJ (↑a1.length:Int) 1 12).bind λy =>
  bif !y.1.1 then some ((false,()),())else rP a0 a1 [] 0:=(Eq.trans (by kernel_rfl:vp a0 a1=az yk (Tryz.f251.body.getD .skip) yw (aS 117 [(a6,Mode.ro),(bS,Mode.ro)] (a0,a1,()))) (all_eq Dn _)).trans (by kernel_rfl)
def pC:Env:=FK.env C BD.1 Tryz.f250
def pD:=FK.out C
def pI(x1:List ak)(x6:List (List Bool))(x7:Int)(x8:List Bool)(x9:Int):Q2 (List Int) Bool:=aJ pC [1,1,1,0,1,0,0,1,0,0,1,0,1,0,1,0,1,0] (Tryz.f250.body.getD .skip) pD (V.dead::(vd bS x1::dd 4 (V.d none (je.depth+1) (Ty.slice 355 je) x6::vi x7::V.d none (av.depth+1) (Ty.slice 4 av) x8::vi x9::dd 158 ([]))))
def rL(x1:List ak)(x6:List (List Bool))(x7:Int)(x8:List Bool)(a8:Int):Q2 (List Int) Bool:=aJ pC [1,1,1,0,1,0,0,1,0,0,1,0,1,0,1,1,1,0,1,0] (Tryz.f250.body.getD .skip) pD (V.dead::(vd bS x1::dd 4 (V.d none (je.depth+1) (Ty.slice 355 je) x6::vi x7::V.d none (av.depth+1) (Ty.slice 4 av) x8::V.dead::(vi a8::dd 157 ([])))))
def ji(x1:List ak)(x6:List (List Bool))(x7:Int)(x8:List Bool)(cn:Int):Q2 (List Int) Bool:=aJ pC [1,1,1,0,1,0,0,1,0,0,1,0,1,0,1,1,1,1,1,0,1,0] (Tryz.f250.body.getD .skip) pD (V.dead::(vd bS x1::dd 4 (V.d none (je.depth+1) (Ty.slice 355 je) x6::vi x7::V.d none (av.depth+1) (Ty.slice 4 av) x8::dd 2 (vi cn::dd 156 ([])))))
def lR(x1:List ak)(x6:List (List Bool))(x7:Int)(x8:List Bool)(cL:Int):Q2 (List Int) Bool:=aJ pC [1,1,1,0,1,0,0,1,0,0,1,0,1,0,1,1,1,1,1,1,1,0] (Tryz.f250.body.getD .skip) pD (V.dead::(vd bS x1::dd 4 (V.d none (je.depth+1) (Ty.slice 355 je) x6::vi x7::V.d none (av.depth+1) (Ty.slice 4 av) x8::dd 3 (vi cL::dd 155 ([])))))
def mZ(x1:List ak)(x6:List (List Bool))(er:List Int)(eG:Int):Q2 (List Int) Bool:=aJ pC [1,1,1,1,1,0,1,0] (Tryz.f250.body.getD .skip) pD (V.dead::(vd bS x1::dd 4 (V.d none (je.depth+1) (Ty.slice 355 je) x6::dd 6 (V.d none (al.depth+1) (Ty.slice 3 al) er::vi eG::dd 153 ([])))))
def gI(x1:List ak)(x6:List (List Bool))(x7:Int):Q2 (List Int) Bool:=aJ pC [1,1,1,0,1,0] (Tryz.f250.body.getD .skip) pD (V.dead::(vd bS x1::dd 4 (V.d none (je.depth+1) (Ty.slice 355 je) x6::vi x7::dd 160 ([]))))
def Ai(a0:List Rel)(a1:List ak):Q2 (List Int) Bool:=Pm.an (a0,a1,())
def aom:List (Nat×List Nat):=[(1000005,[1,1,1,0,1,0]),(1000015,[1,1,1,0,1,0,0,1,0,0,1,0,1,0,1,0,1,0]),(1000020,[1,1,1,0,1,0,0,1,0,0,1,0,1,0,1,1,1,0,1,0]),(1000026,[1,1,1,0,1,0,0,1,0,0,1,0,1,0,1,1,1,1,1,0,1,0]),(1000010,[1,1,1,0,1,0,0,1,0,0,1,0,1,0,1,1,1,1,1,1,1,0]),(1000032,[1,1,1,1,1,0,1,0])]
theorem qD:okB aom (Tryz.f250.body.getD .skip) []=true:=by kernel_rfl
theorem Tl(x1:List ak)(x6:List (List Bool))(x7:Int)(x8:List Bool)(x9:Int):pI x1 x6 x7 x8 x9 =
 bif decide (x9<4)then
 (ae x1 x7).bind λy =>
 (ae y.2.1.1 x9).bind λy =>
  (ae x8 x9).bind λay =>
  (ae x8 x9).bind λbM =>
   (ae x8 x9).bind λcW =>
   (some (x8.set x9.toNat (y != 0))).bind λy=>pI x1 x6 x7 y (IntKind.i64.wrap (x9+1))
else
 (ae x6 x7).bind λy =>
 (ae x6 x7).bind λy =>
  (ae x6 x7).bind λy=>(some (x6.set x7.toNat x8)).bind λy=>gI x1 y (IntKind.i64.wrap (x7+1)):=(aO qD [1,1,1,0,1,0,0,1,0,0,1,0,1,0,1,0,1,0] (by kernel_rfl) _).trans (by kernel_rfl)
theorem Tm(x1:List ak)(x6:List (List Bool))(x7:Int)(x8:List Bool)(a8:Int):rL x1 x6 x7 x8 a8 =
 (ae x1 x7).bind λy =>
 bif decide (a8<(↑(List.length y.2.2.2.2.1):Int))then
 (ae x1 x7).bind λy =>
  (ae y.2.2.2.2.1 a8).bind λy =>
  (ae x8 y).bind λay =>
   (ae x8 y).bind λbM =>
   (ae x8 y).bind λcW =>
    (some (x8.set y.toNat true)).bind λy=>rL x1 x6 x7 y (IntKind.i64.wrap (a8+1))
 else
 (ae x6 x7).bind λy =>
  (ae x6 x7).bind λy =>
  (ae x6 x7).bind λy=>(some (x6.set x7.toNat x8)).bind λy=>gI x1 y (IntKind.i64.wrap (x7+1)):=(aO qD [1,1,1,0,1,0,0,1,0,0,1,0,1,0,1,1,1,0,1,0] (by kernel_rfl) _).trans (by kernel_rfl)
theorem Tn(x1:List ak)(x6:List (List Bool))(x7:Int)(x8:List Bool)(cn:Int):ji x1 x6 x7 x8 cn =
 bif decide (cn<4)then
 (ae x1 x7).bind λy =>
 (ae x6 y.2.2.2.2.2.2.1).bind λay =>
  (ae x6 y.2.2.2.2.2.2.1).bind λbM =>
  (ae x6 y.2.2.2.2.2.2.1).bind λcW =>
   (ae cW cn).bind λjM =>
   (ae x6 y.2.2.2.2.2.2.1).bind λy =>
    (ae y cn).bind λy =>
    bif y then
     (ae x8 cn).bind λy =>
     (ae x8 cn).bind λy =>
      (ae x8 cn).bind λy =>
      (some (x8.set cn.toNat true)).bind λy=>ji x1 x6 x7 y (IntKind.i64.wrap (cn+1))
    else
     (ae x1 x7).bind λy =>
     (ae x6 y.2.2.2.2.2.2.2).bind λuv =>
      (ae x6 y.2.2.2.2.2.2.2).bind λyf =>
      (ae x6 y.2.2.2.2.2.2.2).bind λyg =>
       (ae yg cn).bind λy_8 =>
       (ae x6 y.2.2.2.2.2.2.2).bind λy =>
        (ae y cn).bind λy =>
        (ae x8 cn).bind λy_9 =>
         (ae x8 cn).bind λaxi =>
         (ae x8 cn).bind λaxZ =>
          (some (x8.set cn.toNat y)).bind λy=>ji x1 x6 x7 y (IntKind.i64.wrap (cn+1))
else
 (ae x6 x7).bind λy =>
 (ae x6 x7).bind λy =>
  (ae x6 x7).bind λy=>(some (x6.set x7.toNat x8)).bind λy=>gI x1 y (IntKind.i64.wrap (x7+1)):=(aO qD [1,1,1,0,1,0,0,1,0,0,1,0,1,0,1,1,1,1,1,0,1,0] (by kernel_rfl) _).trans (by kernel_rfl)
theorem Tk(x1:List ak)(x6:List (List Bool))(x7:Int)(x8:List Bool)(cL:Int):lR x1 x6 x7 x8 cL =
 bif decide (cL<4)then
 (ae x1 x7).bind λy =>
 (ae x6 y.2.2.2.2.2.2.1).bind λay =>
  (ae x6 y.2.2.2.2.2.2.1).bind λbM =>
  (ae x6 y.2.2.2.2.2.2.1).bind λcW =>
   (ae cW cL).bind λjM =>
   (ae x6 y.2.2.2.2.2.2.1).bind λy =>
    (ae y cL).bind λy =>
    bif y then
     (ae x1 x7).bind λy =>
     bif y.1==2 then
      (ae x8 cL).bind λy =>
      (ae x8 cL).bind λy =>
       (ae x8 cL).bind λy =>
       (some (x8.set cL.toNat true)).bind λy=>lR x1 x6 x7 y (IntKind.i64.wrap (cL+1))
     else
      (ae x1 x7).bind λy =>
      (ae x8 cL).bind λuv =>
       (ae x8 cL).bind λyf =>
       (ae x8 cL).bind λyg =>
        (some (x8.set cL.toNat (cL != y.2.2.2.2.2.1))).bind λy =>
        lR x1 x6 x7 y (IntKind.i64.wrap (cL+1))
    else
     (ae x8 cL).bind λy =>
     (ae x8 cL).bind λy =>
      (ae x8 cL).bind λy =>
      (some (x8.set cL.toNat false)).bind λy=>lR x1 x6 x7 y (IntKind.i64.wrap (cL+1))
else
 (ae x6 x7).bind λy =>
 (ae x6 x7).bind λy =>
  (ae x6 x7).bind λy=>(some (x6.set x7.toNat x8)).bind λy=>gI x1 y (IntKind.i64.wrap (x7+1)):=(aO qD [1,1,1,0,1,0,0,1,0,0,1,0,1,0,1,1,1,1,1,1,1,0] (by kernel_rfl) _).trans (by kernel_rfl)
theorem To(x1:List ak)(x6:List (List Bool))(er:List Int)(eG:Int):mZ x1 x6 er eG =
 bif decide (eG<4)then
 (ae x6 (IntKind.i64.wrap ((↑x1.length:Int) - 1))).bind λy =>
 (ae x6 (IntKind.i64.wrap ((↑x1.length:Int) - 1))).bind λy =>
  (ae x6 (IntKind.i64.wrap ((↑x1.length:Int) - 1))).bind λy =>
  (ae y eG).bind λy =>
   (ae x6 (IntKind.i64.wrap ((↑x1.length:Int) - 1))).bind λy =>
   (ae y eG).bind λy =>
    bif y then
    bif decide ((er.length+1)*8<=140737488355328)then
     mZ x1 x6 (er++[eG]) (IntKind.i64.wrap (eG+1))
    else none
    else mZ x1 x6 er (IntKind.i64.wrap (eG+1))
else some ((er,true,()),()):=(aO qD [1,1,1,1,1,0,1,0] (by kernel_rfl) _).trans (by kernel_rfl)
theorem Tp(x1:List ak)(x6:List (List Bool))(x7:Int):gI x1 x6 x7 =
 bif decide (x7<(↑x1.length:Int))then
 (ae x1 x7).bind λy =>
 bif y.1==0 then pI x1 x6 x7 (List.replicate (Int.toNat 4) false) 0
 else
  bif y.1==1 then rL x1 x6 x7 (List.replicate (Int.toNat 4) false) 0
  else
  bif y.1==3 then ji x1 x6 x7 (List.replicate (Int.toNat 4) false) 0
  else
   bif y.1==4 then ji x1 x6 x7 (List.replicate (Int.toNat 4) false) 0
   else lR x1 x6 x7 (List.replicate (Int.toNat 4) false) 0
else mZ x1 x6 [] 0:=(aO qD [1,1,1,0,1,0] (by kernel_rfl) _).trans (by kernel_rfl)
theorem aio(a0:List Rel)(a1:List ak):Ai a0 a1 =
 (vp a0 a1).bind λy =>
 bif !y.1.1 then some (([],false,()),())
 else
 bif
  decide (0<=(↑a1.length:Int))&&decide ((↑a1.length:Int)<=(↑a1.length:Int)) &&
   decide ((↑a1.length:Int)*(↑24:Int)<=140737488355328) &&
   decide ((↑a1.length:Int)<=9223372036854775807)then
  gI a1 (List.replicate a1.length []) 0
 else none:=(Eq.trans (by kernel_rfl:Ai a0 a1=az pC (Tryz.f250.body.getD .skip) pD (aS 168 [(a6,Mode.ro),(bS,Mode.ro)] (a0,a1,()))) (all_eq qD _)).trans (by kernel_rfl)
def G8(a0:List Rel)(a1:List ak):Q1 Bool:=Pw.an (a0,a1,())
theorem aiz(a0:List Rel)(a1:List ak):G8 a0 a1 =
 (Ai a0 a1).bind λy =>
 bif y.1.2.1 then some (((↑(List.length y.1.1):Int)==0,()),())else some ((false,()),()):=by kernel_rfl
def Nz:Env:=F1.env C BF.1 Tryz.f215
def RA:=F1.out C
def y4(x1:aa)(x3:Int):Q1 Bool:=aJ Nz [1,0,1,0] (Tryz.f215.body.getD .skip) RA (V.dead::(V.box none 0 aK x1::V.dead::(vi x3::dd 13 ([]))))
def vu(a0:aa):Q1 Bool:=PJ.an (a0,())
def aoB:List (Nat×List Nat):=[(1000002,[1,0,1,0])]
theorem Zq:okB aoB (Tryz.f215.body.getD .skip) []=true:=by kernel_rfl
theorem TW(x1:aa)(x3:Int):y4 x1 x3 =
 bif decide (x3<(↑(List.length x1.1):Int))then
 (ae x1.1 x3).bind λy =>
 bif y != 0 then some ((false,()),())else y4 x1 (IntKind.i64.wrap (x3+1))
else some ((true,()),()):=(aO Zq [1,0,1,0] (by kernel_rfl) _).trans (by kernel_rfl)
theorem aiS(a0:aa):vu a0 =
 y4 a0 0:=(Eq.trans (by kernel_rfl:vu a0=az Nz (Tryz.f215.body.getD .skip) RA (aS 17 [(aK,Mode.ro)] (a0,()))) (all_eq Zq _)).trans (by kernel_rfl)
def Vz(a0:aa):Q1 Bool:=PN.an (a0,())
theorem aiX(a0:aa):Vz a0 =
 bif decide (a0.2.1<0)then some ((true,()),())
else bif a0.2.1==0 then some ((!a0.2.2,()),())else some ((false,()),()):=by kernel_rfl
def As(a0:Int):Q1 ab:=PU.an (a0,())
theorem ai4(a0:Int):As a0 =
 bif
 decide (0<=a0)&&decide (a0<=a0)&&decide (a0*(↑8:Int)<=140737488355328) &&
  decide (a0<=9223372036854775807)then
 some (((a0,[(List.replicate a0.toNat (0:Int),1,false)]),()),())
else none:=by kernel_rfl
def Ar(a0:aa):Q1 aa:=PQ.an (a0,())
theorem ai0(a0:aa):Ar a0 =
 bif decide ((0+List.length a0.1)*8<=140737488355328)then some (((a0.1,a0.2.1,a0.2.2),()),())
else none:=by kernel_rfl
def se(a0:aa):Q1 Int:=PL.an (a0,())
theorem aiU(a0:aa):se a0 =
 (pN a0.1 0).bind λy=>some ((y.1.1,()),()):=by kernel_rfl
def NA:Env:=F3.env C BQ.1 Tryz.f329
def RB:=F3.out C
def y7(x2:aa)(x3:aa)(x5:Int)(x6:Int)(x7:Int):Q1 Int:=aJ NA [1,1,1,0,1,0] (Tryz.f329.body.getD .skip) RB (dd 2 (V.box none 0 aK x2::V.box none 0 aK x3::V.dead::(vi x5::vi x6::vi x7::dd 42 ([]))))
def sf(a0:aa)(a1:aa):Q1 Int:=PO.an (a0,a1,())
def aoD:List (Nat×List Nat):=[(1000004,[1,1,1,0,1,0])]
theorem Zr:okB aoD (Tryz.f329.body.getD .skip) []=true:=by kernel_rfl
theorem TZ(x2:aa)(x3:aa)(x5:Int)(x6:Int)(x7:Int):y7 x2 x3 x5 x6 x7 =
 bif decide (x7<(↑(List.length x2.1):Int))then
 bif decide (x7<(↑(List.length x3.1):Int))then
 (ae x2.1 x7).bind λy =>
  bif x5 != 0 then
  (ae x3.1 x7).bind λay =>
   bif x6 != 0 then
   bif IntKind.i64.wrap (y.tdiv x5) != IntKind.i64.wrap (ay.tdiv x6)then
    bif decide (IntKind.i64.wrap (y.tdiv x5)<IntKind.i64.wrap (ay.tdiv x6))then some ((-1,()),())
    else some ((1,()),())
   else y7 x2 x3 x5 x6 (IntKind.i64.wrap (x7+1))
   else none
  else none
 else some ((0,()),())
else some ((0,()),()):=(aO Zr [1,1,1,0,1,0] (by kernel_rfl) _).trans (by kernel_rfl)
theorem aiY(a0:aa)(a1:aa):sf a0 a1 =
 (se a0).bind λy =>
 (se a1).bind λay =>
 y7 a0 a1 (bif true then if 1<y.1.1 then y.1.1 else 1 else if y.1.1<1 then y.1.1 else 1)
  (bif true then if 1<ay.1.1 then ay.1.1 else 1 else if ay.1.1<1 then ay.1.1 else 1) 0:=(Eq.trans (by kernel_rfl:sf a0 a1=az NA (Tryz.f329.body.getD .skip) RB (aS 50 [(aK,Mode.ro),(aK,Mode.ro)] (a0,a1,()))) (all_eq Zr _)).trans (by kernel_rfl)
def Aq(a0:aa)(a1:aa):Q1 Bool:=PM.an (a0,a1,())
theorem aiV(a0:aa)(a1:aa):Aq a0 a1 =
 (se a1).bind λy =>
 (se a0).bind λay =>
 bif
  decide
   (IntKind.i64.wrap
    (a0.2.1*bif true then if 1<y.1.1 then y.1.1 else 1 else if y.1.1<1 then y.1.1 else 1) >
   IntKind.i64.wrap
    (a1.2.1 *
    bif true then if 1<ay.1.1 then ay.1.1 else 1 else if ay.1.1<1 then ay.1.1 else 1))then
  some ((true,()),())
 else
  bif
   IntKind.i64.wrap
    (a0.2.1 *
    bif true then if 1<y.1.1 then y.1.1 else 1 else if y.1.1<1 then y.1.1 else 1) ==
   IntKind.i64.wrap
    (a1.2.1 *
    bif true then if 1<ay.1.1 then ay.1.1 else 1 else if ay.1.1<1 then ay.1.1 else 1)then
  bif a0.2.2 then some ((true,()),())else some ((!a1.2.2,()),())
  else some ((false,()),()):=by kernel_rfl
def NF:Env:=F8.env C BR.1 Tryz.f292
def RF:=F8.out C
def zb(x0:List aa)(x3:aa)(x5:Int):Q1 (List aa):=aJ NF [1,1,0,0] (Tryz.f292.body.getD .skip) RF (vd dV x0::dd 2 (V.box none 0 aK x3::V.dead::(vi x5::dd 56 ([]))))
def Au(a0:List aa)(a1:aa):Q1 (List aa):=PW.an (a0,a1,())
def aoI:List (Nat×List Nat):=[(1000002,[1,1,0,0])]
theorem Zv:okB aoI (Tryz.f292.body.getD .skip) []=true:=by kernel_rfl
theorem Ue(x0:List aa)(x3:aa)(x5:Int):zb x0 x3 x5 =
 bif decide (x5<(↑x0.length:Int))then
 (ae x0 x5).bind λy =>
 (sf y x3).bind λy =>
  bif decide (y.1.1<0)then zb x0 x3 (IntKind.i64.wrap (x5+1))
  else
  bif decide (x5<(↑x0.length:Int))then
   (ae x0 x5).bind λy =>
   (sf y x3).bind λy =>
    bif y.1.1==0 then
    (ae x0 x5).bind λy =>
     (Aq y x3).bind λy =>
     bif y.1.1 then some ((x0,()),())
     else
      bif decide ((0+x0.length)*40<=140737488355328)then
      (ae x0 x5).bind λy =>
       (ae x0 x5).bind λy =>
       (ae x0 x5).bind λy=>(some (x0.set x5.toNat x3)).bind λy=>some ((y,()),())
      else none
    else
    bif decide (0<=0)&&decide (0<=x5)&&decide (x5<=(↑x0.length:Int))then
     bif decide ((0+(List.drop (Int.toNat 0) (List.take x5.toNat x0)).length)*40<=140737488355328)then
     bif decide (((List.drop (Int.toNat 0) (List.take x5.toNat x0)).length+1)*40<=140737488355328)then
      bif
       decide (0<=x5)&&decide (x5<=(↑x0.length:Int)) &&
       decide ((↑x0.length:Int)<=(↑x0.length:Int))then
      bif
       decide
        (((List.drop (Int.toNat 0) (List.take x5.toNat x0)++[x3]).length +
         (List.drop x5.toNat (List.take x0.length x0)).length) *
         40 <=
        140737488355328)then
       some
       ((List.drop (Int.toNat 0) (List.take x5.toNat x0)++[x3]++List.drop x5.toNat (List.take x0.length x0),
        ()),
        ())
      else none
      else none
     else none
     else none
    else none
  else
   bif decide (0<=0)&&decide (0<=x5)&&decide (x5<=(↑x0.length:Int))then
   bif decide ((0+(List.drop (Int.toNat 0) (List.take x5.toNat x0)).length)*40<=140737488355328)then
    bif decide (((List.drop (Int.toNat 0) (List.take x5.toNat x0)).length+1)*40<=140737488355328)then
    bif decide (0<=x5)&&decide (x5<=(↑x0.length:Int))&&decide ((↑x0.length:Int)<=(↑x0.length:Int))then
     bif
      decide
      (((List.drop (Int.toNat 0) (List.take x5.toNat x0)++[x3]).length +
        (List.drop x5.toNat (List.take x0.length x0)).length) *
       40 <=
       140737488355328)then
     some
      ((List.drop (Int.toNat 0) (List.take x5.toNat x0)++[x3]++List.drop x5.toNat (List.take x0.length x0),
       ()),
      ())
     else none
    else none
    else none
   else none
   else none
else
 bif decide (x5<(↑x0.length:Int))then
 (ae x0 x5).bind λy =>
  (sf y x3).bind λy =>
  bif y.1.1==0 then
   (ae x0 x5).bind λy =>
   (Aq y x3).bind λy =>
    bif y.1.1 then some ((x0,()),())
    else
    bif decide ((0+x0.length)*40<=140737488355328)then
     (ae x0 x5).bind λy =>
     (ae x0 x5).bind λy =>
      (ae x0 x5).bind λy=>(some (x0.set x5.toNat x3)).bind λy=>some ((y,()),())
    else none
  else
   bif decide (0<=0)&&decide (0<=x5)&&decide (x5<=(↑x0.length:Int))then
   bif decide ((0+(List.drop (Int.toNat 0) (List.take x5.toNat x0)).length)*40<=140737488355328)then
    bif decide (((List.drop (Int.toNat 0) (List.take x5.toNat x0)).length+1)*40<=140737488355328)then
    bif decide (0<=x5)&&decide (x5<=(↑x0.length:Int))&&decide ((↑x0.length:Int)<=(↑x0.length:Int))then
     bif
      decide
      (((List.drop (Int.toNat 0) (List.take x5.toNat x0)++[x3]).length +
        (List.drop x5.toNat (List.take x0.length x0)).length) *
       40 <=
       140737488355328)then
     some
      ((List.drop (Int.toNat 0) (List.take x5.toNat x0)++[x3]++List.drop x5.toNat (List.take x0.length x0),
       ()),
      ())
     else none
    else none
    else none
   else none
   else none
 else
 bif decide (0<=0)&&decide (0<=x5)&&decide (x5<=(↑x0.length:Int))then
  bif decide ((0+(List.drop (Int.toNat 0) (List.take x5.toNat x0)).length)*40<=140737488355328)then
  bif decide (((List.drop (Int.toNat 0) (List.take x5.toNat x0)).length+1)*40<=140737488355328)then
   bif decide (0<=x5)&&decide (x5<=(↑x0.length:Int))&&decide ((↑x0.length:Int)<=(↑x0.length:Int))then
   bif
    decide
     (((List.drop (Int.toNat 0) (List.take x5.toNat x0)++[x3]).length +
      (List.drop x5.toNat (List.take x0.length x0)).length) *
      40 <=
     140737488355328)then
    some
    ((List.drop (Int.toNat 0) (List.take x5.toNat x0)++[x3]++List.drop x5.toNat (List.take x0.length x0),()),
     ())
   else none
   else none
  else none
  else none
 else none:=(aO Zv [1,1,0,0] (by kernel_rfl) _).trans (by kernel_rfl)
theorem ai6(a0:List aa)(a1:aa):Au a0 a1 =
 zb a0 a1 0:=(Eq.trans (by kernel_rfl:Au a0 a1=az NF (Tryz.f292.body.getD .skip) RF (aS 62 [(dV,Mode.ro),(aK,Mode.ro)] (a0,a1,()))) (all_eq Zv _)).trans (by kernel_rfl)
def ND:Env:=F7.env C BV.1 Tryz.f214
def RE:=F7.out C
def uX(x0:Int)(x1:List aa)(x4:Int×List aa)(x5:Int×List aa)(x6:Int):Q1 ab:=aJ ND [1,1,0,1,0] (Tryz.f214.body.getD .skip) RE (vd al x0::vd dV x1::dd 2 (V.box none 0 aw x4::V.box none 0 aw x5::vi x6::dd 31 ([])))
def ns(a0:Int)(a1:List aa):Q1 ab:=PV.an (a0,a1,())
def aoH:List (Nat×List Nat):=[(1000003,[1,1,0,1,0])]
theorem Zu:okB aoH (Tryz.f214.body.getD .skip) []=true:=by kernel_rfl
theorem Ud(x0:Int)(x1:List aa)(x4:Int×List aa)(x5:Int×List aa)(x6:Int):uX x0 x1 x4 x5 x6 =
 bif decide (x6<(↑x1.length:Int))then
 (ae x1 x6).bind λy =>
 (vu y).bind λy =>
  bif y.1.1 then
  (ae x1 x6).bind λy =>
   (Vz y).bind λy =>
   bif !y.1.1 then (As x0).bind λy=>some ((y.1.1,()),())
   else uX x0 x1 x4 x5 (IntKind.i64.wrap (x6+1))
  else
  (ae x1 x6).bind λy =>
   (Ar y).bind λy =>
   (Au x5.2 y.1.1).bind λy=>uX x0 x1 x4 (x5.1,y.1.1) (IntKind.i64.wrap (x6+1))
else some ((x5,()),()):=(aO Zu [1,1,0,1,0] (by kernel_rfl) _).trans (by kernel_rfl)
theorem ai5(a0:Int)(a1:List aa):ns a0 a1 =
 uX a0 a1 (0,[]) (a0,[]) 0:=(Eq.trans (by kernel_rfl:ns a0 a1=az ND (Tryz.f214.body.getD .skip) RE (aS 38 [(al,Mode.ro),(dV,Mode.ro)] (a0,a1,()))) (all_eq Zu _)).trans (by kernel_rfl)
def Ny:Env:=F0.env C BU.1 Tryz.f288
def Rz:=F0.out C
def uU(x0:List Int)(x6:aa)(x8:Int)(x9:aa)(a8:Int):Q2 aa Bool:=aJ Ny [1,1,1,0,1,0] (Tryz.f288.body.getD .skip) Rz (vd bm x0::dd 5 (V.box none aK.depth aK x6::V.dead::(vi x8::V.box none aK.depth aK x9::vi a8::dd 31 ([]))))
def nr(a0:List Int)(a1:Int)(a2:Bool):Q2 aa Bool:=PI.an (a0,a1,a2,())
def aoA:List (Nat×List Nat):=[(1000004,[1,1,1,0,1,0])]
theorem Zp:okB aoA (Tryz.f288.body.getD .skip) []=true:=by kernel_rfl
theorem TV(x0:List Int)(x6:aa)(x8:Int)(x9:aa)(a8:Int):uU x0 x6 x8 x9 a8 =
 bif decide (a8<(↑x0.length:Int))then
 (ae x0 a8).bind λy =>
 bif x8 != 0 then
  bif decide ((List.length x9.1+1)*8<=140737488355328)then
  uU x0 x6 x8 (x9.1++[IntKind.i64.wrap (y.tdiv x8)],x9.2) (IntKind.i64.wrap (a8+1))
  else none
 else none
else
 (nm x9).bind λy=>bif !y.1.1 then some ((([],0,false),false,()),())else some ((x9,true,()),()):=(aO Zp [1,1,1,0,1,0] (by kernel_rfl) _).trans (by kernel_rfl)
theorem aiR(a0:List Int)(a1:Int)(a2:Bool):nr a0 a1 a2 =
 (pN a0 a1).bind λy =>
 bif (bif true then if 1<y.1.1 then y.1.1 else 1 else if y.1.1<1 then y.1.1 else 1) != 0 then
 uU a0 ([],0,false)
  (bif true then if 1<y.1.1 then y.1.1 else 1 else if y.1.1<1 then y.1.1 else 1)
  ([],
  IntKind.i64.wrap
   (a1.tdiv (bif true then if 1<y.1.1 then y.1.1 else 1 else if y.1.1<1 then y.1.1 else 1)),
  a2)
  0
 else none:=(Eq.trans (by kernel_rfl:nr a0 a1 a2=az Ny (Tryz.f288.body.getD .skip) Rz (aS 42 [(bm,Mode.ro),(al,Mode.ro),(av,Mode.ro)] (a0,a1,a2,()))) (all_eq Zp _)).trans (by kernel_rfl)
def Nv:Env:=FW.env C BO.1 Tryz.f321
def Rv:=FW.out C
def uS(x1:Int)(x3:Int)(x4:aa)(x6:aa)(x8:aa)(a8:List Int)(cn:Int):Q2 aa Bool:=aJ Nv [1,1,1,0,1,0] (Tryz.f321.body.getD .skip) Rv (V.dead::(vd al x1::V.dead::(vd al x3::V.box none 0 aK x4::V.dead::(V.box none 0 aK x6::V.dead::(V.box none aK.depth aK x8::V.dead::(V.d none (al.depth+1) (Ty.slice 3 al) a8::vi cn::dd 86 ([])))))))
def An(a0:aa)(a1:Int)(a2:aa)(a3:Int):Q2 aa Bool:=PA.an (a0,a1,a2,a3,())
def aow:List (Nat×List Nat):=[(1000005,[1,1,1,0,1,0])]
theorem Zm:okB aow (Tryz.f321.body.getD .skip) []=true:=by kernel_rfl
theorem TK(x1:Int)(x3:Int)(x4:aa)(x6:aa)(x8:aa)(a8:List Int)(cn:Int):uS x1 x3 x4 x6 x8 a8 cn =
 bif decide (cn<(↑(List.length x4.1):Int))then
 (ae x4.1 cn).bind λy =>
 (ae x6.1 cn).bind λay =>
  bif decide ((a8.length+1)*8<=140737488355328)then
  uS x1 x3 x4 x6 x8 (a8++[IntKind.i64.wrap (IntKind.i64.wrap (x1*y)+IntKind.i64.wrap (x3*ay))])
   (IntKind.i64.wrap (cn+1))
  else none
else
 bif x4.2.2 then
 bif decide (x1>0)then
  (nr a8 (IntKind.i64.wrap (IntKind.i64.wrap (x1*x4.2.1)+IntKind.i64.wrap (x3*x6.2.1)))
   true).bind
  λy=>some ((y.1.1,y.1.2.1,()),())
 else
  bif x6.2.2 then
  (nr a8 (IntKind.i64.wrap (IntKind.i64.wrap (x1*x4.2.1)+IntKind.i64.wrap (x3*x6.2.1)))
    (decide (x3>0))).bind
   λy=>some ((y.1.1,y.1.2.1,()),())
  else
  (nr a8 (IntKind.i64.wrap (IntKind.i64.wrap (x1*x4.2.1)+IntKind.i64.wrap (x3*x6.2.1)))
    false).bind
   λy=>some ((y.1.1,y.1.2.1,()),())
 else
 bif x6.2.2 then
  (nr a8 (IntKind.i64.wrap (IntKind.i64.wrap (x1*x4.2.1)+IntKind.i64.wrap (x3*x6.2.1)))
   (decide (x3>0))).bind
  λy=>some ((y.1.1,y.1.2.1,()),())
 else
  (nr a8 (IntKind.i64.wrap (IntKind.i64.wrap (x1*x4.2.1)+IntKind.i64.wrap (x3*x6.2.1)))
   false).bind
  λy=>some ((y.1.1,y.1.2.1,()),()):=(aO Zm [1,1,1,0,1,0] (by kernel_rfl) _).trans (by kernel_rfl)
theorem aiG(a0:aa)(a1:Int)(a2:aa)(a3:Int):An a0 a1 a2 a3 =
 (nm a0).bind λy =>
 bif !y.1.1 then some ((([],0,false),false,()),())
 else
 (nm a2).bind λy =>
  bif !y.1.1 then some ((([],0,false),false,()),())
  else
  bif (↑(List.length a0.1):Int) != (↑(List.length a2.1):Int)then some ((([],0,false),false,()),())
  else
   (gJ a1 0 400000000).bind λy =>
   bif !y.1.1 then some ((([],0,false),false,()),())
   else
    (gJ a3 0 400000000).bind λy =>
    bif !y.1.1 then some ((([],0,false),false,()),())else uS a1 a3 a0 a2 ([],0,false) [] 0:=(Eq.trans (by kernel_rfl:An a0 a1 a2 a3=az Nv (Tryz.f321.body.getD .skip) Rv (aS 98 [(aK,Mode.ro),(al,Mode.ro),(aK,Mode.ro),(al,Mode.ro)] (a0,a1,a2,a3,()))) (all_eq Zm _)).trans (by kernel_rfl)
def yl:Env:=F5.env C BH.1 Tryz.f274
def yx:=F5.out C
def rS(x1:Int)(x2:Int×List aa)(x4:Int×List aa)(x6:List aa)(x8:Int)(x9:Int):Q2 ab Bool:=aJ yl [1,1,1,0,1,0,0,1,0,0,1,0] (Tryz.f274.body.getD .skip) yx (V.dead::(vd al x1::V.box none 0 aw x2::V.dead::(V.box none aw.depth aw x4::V.dead::(V.d none 1 (Ty.slice 153 aK) x6::V.dead::(vi x8::vi x9::dd 103 ([]))))))
def rT(x1:Int)(x2:Int×List aa)(x4:Int×List aa)(x6:List aa)(x8:Int):Q2 ab Bool:=aJ yl [1,1,1,0,1,0] (Tryz.f274.body.getD .skip) yx (V.dead::(vd al x1::V.box none 0 aw x2::V.dead::(V.box none aw.depth aw x4::V.dead::(V.d none 1 (Ty.slice 153 aK) x6::V.dead::(vi x8::dd 104 ([]))))))
def uV(x1:Int)(x2:Int×List aa)(x4:Int×List aa)(x6:List aa)(x7:Int):Q2 ab Bool:=aJ yl [1,1,0,1,0] (Tryz.f274.body.getD .skip) yx (V.dead::(vd al x1::V.box none 0 aw x2::V.dead::(V.box none aw.depth aw x4::V.dead::(V.d none 1 (Ty.slice 153 aK) x6::vi x7::dd 105 ([])))))
def vw(a0:Int×List aa)(a1:Int):Q2 ab Bool:=PS.an (a0,a1,())
def aoF:List (Nat×List Nat):=[(1000003,[1,1,0,1,0]),(1000008,[1,1,1,0,1,0]),(1000011,[1,1,1,0,1,0,0,1,0,0,1,0])]
theorem Dp:okB aoF (Tryz.f274.body.getD .skip) []=true:=by kernel_rfl
theorem T6(x1:Int)(x2:Int×List aa)(x4:Int×List aa)(x6:List aa)(x8:Int)(x9:Int):rS x1 x2 x4 x6 x8 x9 =
 bif decide (x9<(↑(List.length x2.2):Int))then
 (ae x2.2 x8).bind λy =>
 (ae y.1 x1).bind λy =>
  (ae x2.2 x9).bind λay =>
  (ae ay.1 x1).bind λbM =>
   bif decide (y<=0)then rS x1 x2 x4 x6 x8 (IntKind.i64.wrap (x9+1))
   else
   bif decide (bM>=0)then rS x1 x2 x4 x6 x8 (IntKind.i64.wrap (x9+1))
   else
    (ae x2.2 x8).bind λcW =>
    (ae x2.2 x9).bind λjM =>
     (An cW (IntKind.i64.wrap (0 - bM)) jM y).bind λy =>
     bif !y.1.2.1 then some (((0,[]),false,()),())
     else
      bif decide ((x6.length+1)*40<=140737488355328)then
      rS x1 x2 x4 (x6++[y.1.1]) x8 (IntKind.i64.wrap (x9+1))
      else none
else rT x1 x2 x4 x6 (IntKind.i64.wrap (x8+1)):=(aO Dp [1,1,1,0,1,0,0,1,0,0,1,0] (by kernel_rfl) _).trans (by kernel_rfl)
theorem Ub(x1:Int)(x2:Int×List aa)(x4:Int×List aa)(x6:List aa)(x8:Int):rT x1 x2 x4 x6 x8 =
 bif decide (x8<(↑(List.length x2.2):Int))then rS x1 x2 x4 x6 x8 0
else
 (ns x2.1 x6).bind λy =>
 bif decide ((↑(List.length y.1.1.2):Int)>16)then some (((0,[]),false,()),())
 else some ((y.1.1,true,()),()):=(aO Dp [1,1,1,0,1,0] (by kernel_rfl) _).trans (by kernel_rfl)
theorem Ua(x1:Int)(x2:Int×List aa)(x4:Int×List aa)(x6:List aa)(x7:Int):uV x1 x2 x4 x6 x7 =
 bif decide (x7<(↑(List.length x2.2):Int))then
 (ae x2.2 x7).bind λy =>
 (ae y.1 x1).bind λy =>
  bif y==0 then
  (ae x2.2 x7).bind λy =>
   bif decide ((x6.length+1)*40<=140737488355328)then
   uV x1 x2 x4 (x6++[y]) (IntKind.i64.wrap (x7+1))
   else none
  else uV x1 x2 x4 x6 (IntKind.i64.wrap (x7+1))
else rT x1 x2 x4 x6 0:=(aO Dp [1,1,0,1,0] (by kernel_rfl) _).trans (by kernel_rfl)
theorem ai2(a0:Int×List aa)(a1:Int):vw a0 a1 =
 uV a1 a0 (0,[]) [] 0:=(Eq.trans (by kernel_rfl:vw a0 a1=az yl (Tryz.f274.body.getD .skip) yx (aS 113 [(aw,Mode.ro),(al,Mode.ro)] (a0,a1,()))) (all_eq Dp _)).trans (by kernel_rfl)
def Ns:Env:=FO.env C BT.1 Tryz.f289
def Rs:=FO.out C
def yT(x4:Int×List aa)(x5:Int):Q2 Bool Bool:=aJ Ns [1,1,1,0,1,0] (Tryz.f289.body.getD .skip) Rs (dd 4 (V.box none 0 aw x4::vi x5::dd 30 ([])))
def vo(a0:Int×List aa):Q2 Bool Bool:=Pr.an (a0,())
def aoq:List (Nat×List Nat):=[(1000005,[1,1,1,0,1,0])]
theorem Zj:okB aoq (Tryz.f289.body.getD .skip) []=true:=by kernel_rfl
theorem Tv(x4:Int×List aa)(x5:Int):yT x4 x5 =
 bif decide (x5>=0)then
 (vw x4 x5).bind λy =>
 bif !y.1.2.1 then some ((false,false,()),())else yT y.1.1 (IntKind.i64.wrap (x5 - 1))
else some ((decide ((↑(List.length x4.2):Int)>0),true,()),()):=(aO Zj [1,1,1,0,1,0] (by kernel_rfl) _).trans (by kernel_rfl)
theorem aiv(a0:Int×List aa):vo a0 =
 (np a0).bind λy =>
 bif !y.1.1 then some ((false,false,()),())
 else (ns a0.1 a0.2).bind λy=>yT y.1.1 (IntKind.i64.wrap (a0.1 - 1)):=(Eq.trans (by kernel_rfl:vo a0=az Ns (Tryz.f289.body.getD .skip) Rs (aS 36 [(aw,Mode.ro)] (a0,()))) (all_eq Zj _)).trans (by kernel_rfl)
def NB:Env:=F4.env C BC.1 Tryz.f141
def RC:=F4.out C
def y8(x1:Int×List aa)(x2:Int×List aa)(x3:Int×List aa)(x4:Int):Q1 ab:=aJ NB [1,1,0,1,0] (Tryz.f141.body.getD .skip) RC (V.dead::(V.box none 0 aw x1::V.box none aw.depth aw x2::V.box none aw.depth aw x3::vi x4::dd 22 ([])))
def pO(a0:Int×List aa):Q1 ab:=PR.an (a0,())
def aoE:List (Nat×List Nat):=[(1000003,[1,1,0,1,0])]
theorem Zs:okB aoE (Tryz.f141.body.getD .skip) []=true:=by kernel_rfl
theorem T5(x1:Int×List aa)(x2:Int×List aa)(x3:Int×List aa)(x4:Int):y8 x1 x2 x3 x4 =
 bif decide (x4<(↑(List.length x1.2):Int))then
 (ae x1.2 x4).bind λy =>
 (Ar y).bind λy =>
  bif decide ((List.length x3.2+1)*40<=140737488355328)then
  y8 x1 x2 (x3.1,x3.2++[y.1.1]) (IntKind.i64.wrap (x4+1))
  else none
else some ((x3,()),()):=(aO Zs [1,1,0,1,0] (by kernel_rfl) _).trans (by kernel_rfl)
theorem ai1(a0:Int×List aa):pO a0 =
 y8 a0 (0,[]) (a0.1,[]) 0:=(Eq.trans (by kernel_rfl:pO a0=az NB (Tryz.f141.body.getD .skip) RC (aS 27 [(aw,Mode.ro)] (a0,()))) (all_eq Zs _)).trans (by kernel_rfl)
def Nx:Env:=FY.env C BS.1 Tryz.f307
def Ry:=FY.out C
def yY(x1:aa)(x2:aa)(x4:aa)(x5:Int):Q2 aa Bool:=aJ Nx [1,1,1,0,1,0] (Tryz.f307.body.getD .skip) Ry (V.dead::(V.box none 0 aK x1::V.box none aK.depth aK x2::V.dead::(V.box none aK.depth aK x4::vi x5::dd 30 ([]))))
def vr(a0:aa):Q2 aa Bool:=PC.an (a0,())
def aoy:List (Nat×List Nat):=[(1000005,[1,1,1,0,1,0])]
theorem Zo:okB aoy (Tryz.f307.body.getD .skip) []=true:=by kernel_rfl
theorem TN(x1:aa)(x2:aa)(x4:aa)(x5:Int):yY x1 x2 x4 x5 =
 bif decide (x5<(↑(List.length x1.1):Int))then
 (ae x1.1 x5).bind λy =>
 bif decide ((List.length x4.1+1)*8<=140737488355328)then
  yY x1 x2 (x4.1++[IntKind.i64.wrap (0 - y)],x4.2) (IntKind.i64.wrap (x5+1))
 else none
else some ((x4,true,()),()):=(aO Zo [1,1,1,0,1,0] (by kernel_rfl) _).trans (by kernel_rfl)
theorem aiJ(a0:aa):vr a0 =
 (nm a0).bind λy =>
 bif !y.1.1 then some ((([],0,false),false,()),())
 else yY a0 ([],0,false) ([],IntKind.i64.wrap (0 - a0.2.1),!a0.2.2) 0:=(Eq.trans (by kernel_rfl:vr a0=az Nx (Tryz.f307.body.getD .skip) Ry (aS 36 [(aK,Mode.ro)] (a0,()))) (all_eq Zo _)).trans (by kernel_rfl)
def sa(a0:Int×List aa)(a1:Int×List aa):Q2 ab Bool:=Py.an (a0,a1,())
theorem aiD(a0:Int×List aa)(a1:Int×List aa):sa a0 a1 =
 (np a0).bind λy =>
 bif !y.1.1 then some (((0,[]),false,()),())
 else
 (np a1).bind λy =>
  bif !y.1.1 then some (((0,[]),false,()),())
  else
  bif a0.1 != a1.1 then some (((0,[]),false,()),())
  else
   bif decide ((0+List.length a0.2)*40<=140737488355328)then
   bif decide ((List.length a0.2+List.length a1.2)*40<=140737488355328)then
    (ns a0.1 (a0.2++a1.2)).bind λy =>
    bif decide ((↑(List.length y.1.1.2):Int)>16)then some (((0,[]),false,()),())
    else some ((y.1.1,true,()),())
   else none
   else none:=by kernel_rfl
def G7(a0:Int×List aa)(a1:aa):Q2 Bool Bool:=Pn.an (a0,a1,())
theorem aiq(a0:Int×List aa)(a1:aa):G7 a0 a1 =
 (vr a1).bind λy =>
 (sa a0 ((↑(List.length a1.1):Int),[y.1.1])).bind λay =>
 bif !y.1.2.1 then some ((false,false,()),())
 else
  bif !ay.1.2.1 then some ((false,false,()),())
  else (vo ay.1.1).bind λy=>some ((y.1.1,y.1.2.1,()),()):=by kernel_rfl
def NC:Env:=F6.env C By.1 Tryz.f213
def RD:=F6.out C
def uW(x1:Int×List aa)(x2:Int×List aa)(x6:Int×List aa)(x7:Int):Q2 ab Bool:=aJ NC [1,1,1,1,1,0,1,0] (Tryz.f213.body.getD .skip) RD (V.dead::(V.box none 0 aw x1::V.box none 0 aw x2::dd 3 (V.box none 0 aw x6::vi x7::dd 56 ([]))))
def vx(a0:Int×List aa):Q2 ab Bool:=PT.an (a0,())
def aoG:List (Nat×List Nat):=[(1000008,[1,1,1,1,1,0,1,0])]
theorem Zt:okB aoG (Tryz.f213.body.getD .skip) []=true:=by kernel_rfl
theorem Uc(x1:Int×List aa)(x2:Int×List aa)(x6:Int×List aa)(x7:Int):uW x1 x2 x6 x7 =
 bif decide (x7<(↑(List.length x6.2):Int))then
 bif decide (0<=0)&&decide (0<=x7)&&decide (x7<=(↑(List.length x6.2):Int))then
 bif decide ((0+(List.drop (Int.toNat 0) (List.take x7.toNat x6.2)).length)*40<=140737488355328)then
  bif
   decide (0<=IntKind.i64.wrap (x7+1))&&decide (IntKind.i64.wrap (x7+1)<=(↑(List.length x6.2):Int)) &&
   decide ((↑(List.length x6.2):Int)<=(↑(List.length x6.2):Int))then
  bif
   decide
    (((List.drop (Int.toNat 0) (List.take x7.toNat x6.2)).length +
     (List.drop (IntKind.i64.wrap (x7+1)).toNat (List.take (List.length x6.2) x6.2)).length) *
     40 <=
    140737488355328)then
   (ae x6.2 x7).bind λy =>
   (G7
     (x1.1,
     List.drop (Int.toNat 0) (List.take x7.toNat x6.2) ++
      List.drop (IntKind.i64.wrap (x7+1)).toNat (List.take (List.length x6.2) x6.2))
     y).bind
    λy =>
    bif !y.1.2.1 then some (((0,[]),false,()),())
    else
    bif y.1.1 then
     (pO
      (x1.1,
       List.drop (Int.toNat 0) (List.take x7.toNat x6.2) ++
       List.drop (IntKind.i64.wrap (x7+1)).toNat (List.take (List.length x6.2) x6.2))).bind
     λy=>uW x1 x2 y.1.1 x7
    else uW x1 x2 x6 (IntKind.i64.wrap (x7+1))
  else none
  else none
 else none
 else none
else some ((x6,true,()),()):=(aO Zt [1,1,1,1,1,0,1,0] (by kernel_rfl) _).trans (by kernel_rfl)
theorem ai3(a0:Int×List aa):vx a0 =
 (vo a0).bind λy =>
 bif !y.1.2.1 then some (((0,[]),false,()),())
 else
 bif y.1.1 then (As a0.1).bind λy=>some ((y.1.1,true,()),())
 else (pO a0).bind λy=>uW a0 (0,[]) y.1.1 0:=(Eq.trans (by kernel_rfl:vx a0=az NC (Tryz.f213.body.getD .skip) RD (aS 64 [(aw,Mode.ro)] (a0,()))) (all_eq Zt _)).trans (by kernel_rfl)
def hG(a0:Int×List ab)(a1:Int×List aa):Q2 aX Bool:=PX.an (a0,a1,())
theorem ai8(a0:Int×List ab)(a1:Int×List aa):hG a0 a1 =
 (ns a1.1 a1.2).bind λy =>
 (vx y.1.1).bind λy =>
 bif !y.1.2.1 then some (((0,[]),false,()),())
 else
  bif decide ((↑(List.length y.1.1.2):Int)>16)then some (((0,[]),false,()),())
  else
  bif (↑(List.length y.1.1.2):Int)==1 then
   (ae y.1.1.2 0).bind λay =>
   (vu ay).bind λbM =>
    bif bM.1.1 then some ((a0,true,()),())
    else
    bif decide ((0+List.length a0.2)*32<=140737488355328)then
     bif decide ((List.length a0.2+1)*32<=140737488355328)then
     some (((a0.1,a0.2++[y.1.1]),decide ((↑(a0.2++[y.1.1]).length:Int)<=12),()),())
     else none
    else none
  else
   bif decide ((0+List.length a0.2)*32<=140737488355328)then
   bif decide ((List.length a0.2+1)*32<=140737488355328)then
    some (((a0.1,a0.2++[y.1.1]),decide ((↑(a0.2++[y.1.1]).length:Int)<=12),()),())
   else none
   else none:=by kernel_rfl
def Nk:Env:=FG.env C BW.1 Tryz.f358
def Rl:=FG.out C
def rK(x1:ByteArray)(x2:ByteArray×Int×List Rw)(x4:Int×List ab)(x6:Int×List ab)(x7:Int):Q2 aX Bool:=aJ Nk [1,1,1,0,1,0] (Tryz.f358.body.getD .skip) Rl (V.dead::(vd bX x1::V.box none 0 fS x2::V.dead::(V.box none 1 aF x4::V.dead::(V.box none 1 aF x6::vi x7::dd 39 ([])))))
def Ag(a0:ByteArray×Int×List Rw)(a1:ByteArray):Q2 aX Bool:=Pf.an (a0,a1,())
def aoi:List (Nat×List Nat):=[(1000005,[1,1,1,0,1,0])]
theorem Zc:okB aoi (Tryz.f358.body.getD .skip) []=true:=by kernel_rfl
theorem Te(x1:ByteArray)(x2:ByteArray×Int×List Rw)(x4:Int×List ab)(x6:Int×List ab)(x7:Int):rK x1 x2 x4 x6 x7 =
 bif decide (x7<(↑(List.length x2.2.2):Int))then
 bif x1.toList==(ByteArray.mk #[]).toList then
 (ae x2.2.2 x7).bind λy =>
  (pO y.2).bind λy =>
  bif decide ((List.length x6.2+1)*32<=140737488355328)then
   rK x1 x2 x4 (x6.1,x6.2++[y.1.1]) (IntKind.i64.wrap (x7+1))
  else none
 else
 (ae x2.2.2 x7).bind λy =>
  bif ByteArray.toList y.1==x1.toList then
  (ae x2.2.2 x7).bind λy =>
   (pO y.2).bind λy =>
   bif decide ((List.length x6.2+1)*32<=140737488355328)then
    rK x1 x2 x4 (x6.1,x6.2++[y.1.1]) (IntKind.i64.wrap (x7+1))
   else none
  else rK x1 x2 x4 x6 (IntKind.i64.wrap (x7+1))
else some ((x6,true,()),()):=(aO Zc [1,1,1,0,1,0] (by kernel_rfl) _).trans (by kernel_rfl)
theorem aif(a0:ByteArray×Int×List Rw)(a1:ByteArray):Ag a0 a1 =
 (vq a0).bind λy =>
 bif !y.1.1 then some (((0,[]),false,()),())else rK a1 a0 (0,[]) (a0.2.1,[]) 0:=(Eq.trans (by kernel_rfl:Ag a0 a1=az Nk (Tryz.f358.body.getD .skip) Rl (aS 47 [(fS,Mode.ro),(bX,Mode.ro)] (a0,a1,()))) (all_eq Zc _)).trans (by kernel_rfl)
def Ew:Env:=FZ.env C Bv.1 Tryz.f349
def EP:=FZ.out C
def uT(x1:List Int)(x2:Int×List aa)(x4:Int×List aa)(x6:Int×List aa)(x7:Int)(x8:List Int)(x9:Int):Q2 ab Bool:=aJ Ew [1,1,1,0,1,0,0,1,0,0,1,0,1,0] (Tryz.f349.body.getD .skip) EP (V.dead::(vd bm x1::V.box none 0 aw x2::V.dead::(V.box none aw.depth aw x4::V.dead::(V.box none aw.depth aw x6::vi x7::V.d none (al.depth+1) (Ty.slice 3 al) x8::vi x9::dd 85 ([])))))
def yZ(x1:List Int)(x2:Int×List aa)(x4:Int×List aa)(x6:Int×List aa)(x7:Int):Q2 ab Bool:=aJ Ew [1,1,1,0,1,0] (Tryz.f349.body.getD .skip) EP (V.dead::(vd bm x1::V.box none 0 aw x2::V.dead::(V.box none aw.depth aw x4::V.dead::(V.box none aw.depth aw x6::vi x7::dd 87 ([])))))
def Ao(a0:Int×List aa)(a1:List Int):Q2 ab Bool:=PD.an (a0,a1,())
def aoz:List (Nat×List Nat):=[(1000005,[1,1,1,0,1,0]),(1000009,[1,1,1,0,1,0,0,1,0,0,1,0,1,0])]
theorem KY:okB aoz (Tryz.f349.body.getD .skip) []=true:=by kernel_rfl
theorem TP(x1:List Int)(x2:Int×List aa)(x4:Int×List aa)(x6:Int×List aa)(x7:Int)(x8:List Int)(x9:Int):uT x1 x2 x4 x6 x7 x8 x9 =
 bif decide (x9<(↑x1.length:Int))then
 (ae x1 x9).bind λy =>
 (gJ y 0 3).bind λy =>
  bif !y.1.1 then some (((0,[]),false,()),())
  else
  (ae x1 x9).bind λy =>
   (ae x1 x9).bind λay =>
   (ae x8 ay).bind λbM =>
    (ae x8 ay).bind λcW =>
    (ae x2.2 x7).bind λjM =>
     (ae jM.1 x9).bind λuv =>
     (ae x8 y).bind λyf =>
      (ae x8 y).bind λyg =>
      (ae x8 y).bind λy_8 =>
       (some (x8.set y.toNat (IntKind.i64.wrap (cW+uv)))).bind λy =>
       uT x1 x2 x4 x6 x7 y (IntKind.i64.wrap (x9+1))
else
 (ae x2.2 x7).bind λy =>
 (ae x2.2 x7).bind λay =>
  (nr x8 y.2.1 ay.2.2).bind λy =>
  bif !y.1.2.1 then some (((0,[]),false,()),())
  else
   bif decide ((List.length x6.2+1)*40<=140737488355328)then
   yZ x1 x2 x4 (x6.1,x6.2++[y.1.1]) (IntKind.i64.wrap (x7+1))
   else none:=(aO KY [1,1,1,0,1,0,0,1,0,0,1,0,1,0] (by kernel_rfl) _).trans (by kernel_rfl)
theorem TO(x1:List Int)(x2:Int×List aa)(x4:Int×List aa)(x6:Int×List aa)(x7:Int):yZ x1 x2 x4 x6 x7 =
 bif decide (x7<(↑(List.length x2.2):Int))then uT x1 x2 x4 x6 x7 (List.replicate (Int.toNat 4) (0:Int)) 0
else some ((x6,true,()),()):=(aO KY [1,1,1,0,1,0] (by kernel_rfl) _).trans (by kernel_rfl)
theorem aiK(a0:Int×List aa)(a1:List Int):Ao a0 a1 =
 (np a0).bind λy =>
 bif !y.1.1 then some (((0,[]),false,()),())
 else bif (↑a1.length:Int) != a0.1 then some (((0,[]),false,()),())else yZ a1 a0 (0,[]) (4,[]) 0:=(Eq.trans (by kernel_rfl:Ao a0 a1=az Ew (Tryz.f349.body.getD .skip) EP (aS 95 [(aw,Mode.ro),(bm,Mode.ro)] (a0,a1,()))) (all_eq KY _)).trans (by kernel_rfl)
def NH:Env:=Gc.env C BJ.1 Tryz.f337
def RH:=Gc.out C
def zc(x3:Int×aa×ByteArray×ByteArray×List Int×Int×Int×Int)(x4:Int×List ab)(x6:Int×List ab)(x7:Int×List ab)(x9:Int):Q2 aX Bool:=aJ NH [1,1,1,0,1,0] (Tryz.f337.body.getD .skip) RH (dd 3 (V.box none 0 de x3::V.box none 0 aF x4::V.dead::(V.box none 0 (al.pair lM).agg x6::V.box none 0 aF x7::V.dead::(vi x9::dd 50 ([])))))
def Hg(a0:List Rel)(a1:Int×aa×ByteArray×ByteArray×List Int×Int×Int×Int):Q2 aX Bool:=P3.an (a0,a1,())
def aoM:List (Nat×List Nat):=[(1000004,[1,1,1,0,1,0])]
theorem Zx:okB aoM (Tryz.f337.body.getD .skip) []=true:=by kernel_rfl
theorem Uk(x3:Int×aa×ByteArray×ByteArray×List Int×Int×Int×Int)(x4:Int×List ab)(x6:Int×List ab)(x7:Int×List ab)(x9:Int):zc x3 x4 x6 x7 x9 =
 bif decide (x9<(↑(List.length x7.2):Int))then
 (ae x7.2 x9).bind λy =>
 (Ao y x3.2.2.2.2.1).bind λy =>
  bif !y.1.2.1 then some (((0,[]),false,()),())
  else
  (hG x6 y.1.1).bind λy =>
   bif !y.1.2.1 then some (((0,[]),false,()),())
   else zc x3 x4 y.1.1 x7 (IntKind.i64.wrap (x9+1))
else some ((x6,true,()),()):=(aO Zx [1,1,1,0,1,0] (by kernel_rfl) _).trans (by kernel_rfl)
theorem ajh(a0:List Rel)(a1:Int×aa×ByteArray×ByteArray×List Int×Int×Int×Int):Hg a0 a1 =
 (pM a0 a1.2.2.1).bind λy =>
 (ae a0 y.1.1).bind λy =>
 (Ag y a1.2.2.2.1).bind λy=>zc a1 (0,[]) (4,[]) y.1.1 0:=(Eq.trans (by kernel_rfl:Hg a0 a1=az NH (Tryz.f337.body.getD .skip) RH (aS 60 [(a6,Mode.ro),(de,Mode.ro)] (a0,a1,()))) (all_eq Zx _)).trans (by kernel_rfl)
def Nt:Env:=FQ.env C B1.1 Tryz.f135
def Rt:=FQ.out C
def yU(x1:Int×List ab)(x3:Int):Q1 Bool:=aJ Nt [1,0,1,0] (Tryz.f135.body.getD .skip) Rt (V.dead::(V.box none 0 aF x1::V.dead::(vi x3::dd 34 ([]))))
def nq(a0:Int×List ab):Q1 Bool:=Pu.an (a0,())
def aos:List (Nat×List Nat):=[(1000002,[1,0,1,0])]
theorem Zk:okB aos (Tryz.f135.body.getD .skip) []=true:=by kernel_rfl
theorem E0(x1:Int×List ab)(x3:Int):yU x1 x3 =
 bif decide (x3<(↑(List.length x1.2):Int))then
 (ae x1.2 x3).bind λy =>
 (np y).bind λy =>
  bif !y.1.1 then some ((false,()),())
  else
  (ae x1.2 x3).bind λy =>
   bif y.1 != x1.1 then some ((false,()),())else yU x1 (IntKind.i64.wrap (x3+1))
else
 (gJ x1.1 0 4).bind λy =>
 bif y.1.1 then some ((decide ((↑(List.length x1.2):Int)<=12),()),())else some ((false,()),()):=(aO Zk [1,0,1,0] (by kernel_rfl) _).trans (by kernel_rfl)
theorem Vq(a0:Int×List ab):nq a0 =
 yU a0 0:=(Eq.trans (by kernel_rfl:nq a0=az Nt (Tryz.f135.body.getD .skip) Rt (aS 38 [(aF,Mode.ro)] (a0,()))) (all_eq Zk _)).trans (by kernel_rfl)
def VD(a0:Int):Q1 aX:=PY.an (a0,())
theorem ai9(a0:Int):VD a0 =
 some (((a0,[(a0,[])]),()),()):=by kernel_rfl
def Nw:Env:=FX.env C BX.1 Tryz.f361
def Rx:=FX.out C
def yX(x1:Int×List ab)(x2:Int×List ab)(x4:Int×List ab)(x5:Int):Q2 aX Bool:=aJ Nw [1,1,1,0,1,0] (Tryz.f361.body.getD .skip) Rx (V.dead::(V.box none 0 aF x1::V.box none 0 aF x2::V.dead::(V.box none 0 (al.pair lM).agg x4::vi x5::dd 31 ([]))))
def sd(a0:Int×List ab):Q2 aX Bool:=PB.an (a0,())
def aox:List (Nat×List Nat):=[(1000005,[1,1,1,0,1,0])]
theorem Zn:okB aox (Tryz.f361.body.getD .skip) []=true:=by kernel_rfl
theorem TL(x1:Int×List ab)(x2:Int×List ab)(x4:Int×List ab)(x5:Int):yX x1 x2 x4 x5 =
 bif decide (x5<(↑(List.length x1.2):Int))then
 (ae x1.2 x5).bind λy =>
 (hG x4 y).bind λy =>
  bif !y.1.2.1 then some (((0,[]),false,()),())
  else yX x1 x2 y.1.1 (IntKind.i64.wrap (x5+1))
else some ((x4,true,()),()):=(aO Zn [1,1,1,0,1,0] (by kernel_rfl) _).trans (by kernel_rfl)
theorem aiI(a0:Int×List ab):sd a0 =
 (nq a0).bind λy =>
 bif !y.1.1 then some (((0,[]),false,()),())else yX a0 (0,[]) (a0.1,[]) 0:=(Eq.trans (by kernel_rfl:sd a0=az Nw (Tryz.f361.body.getD .skip) Rx (aS 37 [(aF,Mode.ro)] (a0,()))) (all_eq Zn _)).trans (by kernel_rfl)
def Ez:Env:=F9.env C BI.1 Tryz.f375
def ES:=F9.out C
def rU(x2:Int×List ab)(x4:Int×List ab)(x6:Int×List aa)(x8:Int×List ab)(x9:Int)(a8:Int):Q2 aX Bool:=aJ Ez [1,1,1,1,0,1,0,0,1,0,0,1,0] (Tryz.f375.body.getD .skip) ES (dd 2 (V.box none 0 aF x2::V.dead::(V.box none 0 aF x4::V.dead::(V.box none 0 aw x6::V.dead::(V.box none 0 (al.pair lM).agg x8::vi x9::vi a8::dd 81 ([]))))))
def uY(x2:Int×List ab)(x4:Int×List ab)(x6:Int×List aa)(x8:Int×List ab)(x9:Int):Q2 aX Bool:=aJ Ez [1,1,1,1,0,1,0] (Tryz.f375.body.getD .skip) ES (dd 2 (V.box none 0 aF x2::V.dead::(V.box none 0 aF x4::V.dead::(V.box none 0 aw x6::V.dead::(V.box none 0 (al.pair lM).agg x8::vi x9::dd 82 ([]))))))
def Av(a0:Int×List ab)(a1:Int×List aa):Q2 aX Bool:=PZ.an (a0,a1,())
def aoJ:List (Nat×List Nat):=[(1000006,[1,1,1,1,0,1,0]),(1000009,[1,1,1,1,0,1,0,0,1,0,0,1,0])]
theorem K1:okB aoJ (Tryz.f375.body.getD .skip) []=true:=by kernel_rfl
theorem Uh(x2:Int×List ab)(x4:Int×List ab)(x6:Int×List aa)(x8:Int×List ab)(x9:Int)(a8:Int):rU x2 x4 x6 x8 x9 a8 =
 bif decide (a8<(↑(List.length x6.2):Int))then
 (ae x6.2 a8).bind λy =>
 (vr y).bind λy =>
  bif decide (0<=0)&&decide (0<=a8)&&decide (a8<=(↑(List.length x6.2):Int))then
  bif decide ((0+(List.drop (Int.toNat 0) (List.take a8.toNat x6.2)).length)*40<=140737488355328)then
   bif decide (((List.drop (Int.toNat 0) (List.take a8.toNat x6.2)).length+1)*40<=140737488355328)then
   (ae x2.2 x9).bind λay =>
    (sa ay (x2.1,List.drop (Int.toNat 0) (List.take a8.toNat x6.2)++[y.1.1])).bind λy =>
    bif !y.1.2.1 then some (((0,[]),false,()),())
    else
     (hG x8 y.1.1).bind λy =>
     bif !y.1.2.1 then some (((0,[]),false,()),())
     else rU x2 x4 x6 y.1.1 x9 (IntKind.i64.wrap (a8+1))
   else none
  else none
  else none
else uY x2 x4 x6 x8 (IntKind.i64.wrap (x9+1)):=(aO K1 [1,1,1,1,0,1,0,0,1,0,0,1,0] (by kernel_rfl) _).trans (by kernel_rfl)
theorem Ug(x2:Int×List ab)(x4:Int×List ab)(x6:Int×List aa)(x8:Int×List ab)(x9:Int):uY x2 x4 x6 x8 x9 =
 bif decide (x9<(↑(List.length x2.2):Int))then rU x2 x4 x6 x8 x9 0 else some ((x8,true,()),()):=(aO K1 [1,1,1,1,0,1,0] (by kernel_rfl) _).trans (by kernel_rfl)
theorem aja(a0:Int×List ab)(a1:Int×List aa):Av a0 a1 =
 (ns a1.1 a1.2).bind λy =>
 (vx y.1.1).bind λy =>
 bif !y.1.2.1 then some (((0,[]),false,()),())else uY a0 (0,[]) y.1.1 (a0.1,[]) 0:=(Eq.trans (by kernel_rfl:Av a0 a1=az Ez (Tryz.f375.body.getD .skip) ES (aS 92 [(aF,Mode.ro),(aw,Mode.ro)] (a0,a1,()))) (all_eq K1 _)).trans (by kernel_rfl)
def Nl:Env:=FH.env C BY.1 Tryz.f359
def Rm:=FH.out C
def yP(x3:Int×List ab)(x4:Int×List ab)(x6:Int×List ab)(x8:Int):Q2 aX Bool:=aJ Nl [1,1,1,0,1,0] (Tryz.f359.body.getD .skip) Rm (dd 3 (V.box none 0 aF x3::V.box none 0 aF x4::V.dead::(V.box none 0 aF x6::V.dead::(vi x8::dd 44 ([])))))
def Ah(a0:Int×List ab)(a1:Int×List ab):Q2 aX Bool:=Ph.an (a0,a1,())
def aoj:List (Nat×List Nat):=[(1000005,[1,1,1,0,1,0])]
theorem Zd:okB aoj (Tryz.f359.body.getD .skip) []=true:=by kernel_rfl
theorem Tg(x3:Int×List ab)(x4:Int×List ab)(x6:Int×List ab)(x8:Int):yP x3 x4 x6 x8 =
 bif decide (x8<(↑(List.length x3.2):Int))then
 (ae x3.2 x8).bind λy =>
 (Av x6 y).bind λy =>
  bif !y.1.2.1 then some (((0,[]),false,()),())
  else yP x3 x4 y.1.1 (IntKind.i64.wrap (x8+1))
else some ((x6,true,()),()):=(aO Zd [1,1,1,0,1,0] (by kernel_rfl) _).trans (by kernel_rfl)
theorem aij(a0:Int×List ab)(a1:Int×List ab):Ah a0 a1 =
 (sd a0).bind λy =>
 bif !y.1.2.1 then some (((0,[]),false,()),())
 else
 (nq a1).bind λay =>
  bif !ay.1.1 then some (((0,[]),false,()),())
  else bif a0.1 != a1.1 then some (((0,[]),false,()),())else yP a1 (0,[]) y.1.1 0:=(Eq.trans (by kernel_rfl:Ah a0 a1=az Nl (Tryz.f359.body.getD .skip) Rm (aS 53 [(aF,Mode.ro),(aF,Mode.ro)] (a0,a1,()))) (all_eq Zd _)).trans (by kernel_rfl)
def vm(a0:Int×List ab):Q2 aX Bool:=Pg.an (a0,())
theorem aii(a0:Int×List ab):vm a0 =
 (nq a0).bind λy =>
 bif !y.1.1 then some (((0,[]),false,()),())
 else
 (VD a0.1).bind λy=>(Ah y.1.1 a0).bind λy=>some ((y.1.1,y.1.2.1,()),()):=by kernel_rfl
def Ev:Env:=FV.env C Bw.1 Tryz.f339
def EO:=FV.out C
def yW(x2:Int×List ab)(x3:Int×List ab)(x4:Int×List ab)(x6:Int×List ab)(x7:Int)(x8:Int):Q2 aX Bool:=aJ Ev [1,1,1,0,1,0,0,1,0,0,1,0] (Tryz.f339.body.getD .skip) EO (dd 2 (V.box none 0 aF x2::V.box none 0 aF x3::V.box none 0 aF x4::V.dead::(V.box none 0 (al.pair lM).agg x6::vi x7::vi x8::dd 65 ([]))))
def uR(x2:Int×List ab)(x3:Int×List ab)(x4:Int×List ab)(x6:Int×List ab)(x7:Int):Q2 aX Bool:=aJ Ev [1,1,1,0,1,0] (Tryz.f339.body.getD .skip) EO (dd 2 (V.box none 0 aF x2::V.box none 0 aF x3::V.box none 0 aF x4::V.dead::(V.box none 0 (al.pair lM).agg x6::vi x7::dd 66 ([]))))
def Al(a0:Int×List ab)(a1:Int×List ab):Q2 aX Bool:=Pz.an (a0,a1,())
def aov:List (Nat×List Nat):=[(1000005,[1,1,1,0,1,0]),(1000008,[1,1,1,0,1,0,0,1,0,0,1,0])]
theorem KX:okB aov (Tryz.f339.body.getD .skip) []=true:=by kernel_rfl
theorem TJ(x2:Int×List ab)(x3:Int×List ab)(x4:Int×List ab)(x6:Int×List ab)(x7:Int)(x8:Int):yW x2 x3 x4 x6 x7 x8 =
 bif decide (x8<(↑(List.length x3.2):Int))then
 (ae x2.2 x7).bind λy =>
 (ae x3.2 x8).bind λay =>
  (sa y ay).bind λy =>
  bif !y.1.2.1 then some (((0,[]),false,()),())
  else
   (hG x6 y.1.1).bind λy =>
   bif !y.1.2.1 then some (((0,[]),false,()),())
   else yW x2 x3 x4 y.1.1 x7 (IntKind.i64.wrap (x8+1))
else uR x2 x3 x4 x6 (IntKind.i64.wrap (x7+1)):=(aO KX [1,1,1,0,1,0,0,1,0,0,1,0] (by kernel_rfl) _).trans (by kernel_rfl)
theorem TI(x2:Int×List ab)(x3:Int×List ab)(x4:Int×List ab)(x6:Int×List ab)(x7:Int):uR x2 x3 x4 x6 x7 =
 bif decide (x7<(↑(List.length x2.2):Int))then yW x2 x3 x4 x6 x7 0 else some ((x6,true,()),()):=(aO KX [1,1,1,0,1,0] (by kernel_rfl) _).trans (by kernel_rfl)
theorem aiE(a0:Int×List ab)(a1:Int×List ab):Al a0 a1 =
 (nq a0).bind λy =>
 bif !y.1.1 then some (((0,[]),false,()),())
 else
 (nq a1).bind λy =>
  bif !y.1.1 then some (((0,[]),false,()),())
  else bif a0.1 != a1.1 then some (((0,[]),false,()),())else uR a0 a1 (0,[]) (a0.1,[]) 0:=(Eq.trans (by kernel_rfl:Al a0 a1=az Ev (Tryz.f339.body.getD .skip) EO (aS 74 [(aF,Mode.ro),(aF,Mode.ro)] (a0,a1,()))) (all_eq KX _)).trans (by kernel_rfl)
def Hc(a0:Int×List ab)(a1:Int×List ab):Q2 aX Bool:=PF.an (a0,a1,())
theorem aiO(a0:Int×List ab)(a1:Int×List ab):Hc a0 a1 =
 (sd a0).bind λy =>
 (sd a1).bind λay =>
 bif !y.1.2.1 then some (((0,[]),false,()),())
 else
  bif !ay.1.2.1 then some (((0,[]),false,()),())
  else
  bif a0.1 != a1.1 then some (((0,[]),false,()),())
  else
   bif
    decide
    (IntKind.i64.wrap ((↑(List.length y.1.1.2):Int)+(↑(List.length ay.1.1.2):Int))>12)then
   some (((0,[]),false,()),())
   else
   bif decide ((0+List.length y.1.1.2)*32<=140737488355328)then
    bif decide ((List.length y.1.1.2+List.length ay.1.1.2)*32<=140737488355328)then
    some (((a0.1,y.1.1.2++ay.1.1.2),true,()),())
    else none
   else none:=by kernel_rfl
def Nn:Env:=FI.env C BL.1 Tryz.f341
def Rn:=FI.out C
def yQ(x1:Int)(x2:Int×List ab)(x4:Int×List ab)(x6:Int×List ab)(x7:Int):Q2 aX Bool:=aJ Nn [1,1,1,0,1,0] (Tryz.f341.body.getD .skip) Rn (V.dead::(vd al x1::V.box none 0 aF x2::V.dead::(V.box none 0 aF x4::V.dead::(V.box none 0 (al.pair lM).agg x6::vi x7::dd 54 ([])))))
def r6(a0:Int×List ab)(a1:Int):Q2 aX Bool:=Pj.an (a0,a1,())
def aok:List (Nat×List Nat):=[(1000005,[1,1,1,0,1,0])]
theorem Ze:okB aok (Tryz.f341.body.getD .skip) []=true:=by kernel_rfl
theorem Ti(x1:Int)(x2:Int×List ab)(x4:Int×List ab)(x6:Int×List ab)(x7:Int):yQ x1 x2 x4 x6 x7 =
 bif decide (x7<(↑(List.length x2.2):Int))then
 (ae x2.2 x7).bind λy =>
 (ns x2.1 y.2).bind λy =>
  (vw y.1.1 x1).bind λy =>
  bif !y.1.2.1 then some (((0,[]),false,()),())
  else
   (hG x6 y.1.1).bind λy =>
   bif !y.1.2.1 then some (((0,[]),false,()),())
   else yQ x1 x2 x4 y.1.1 (IntKind.i64.wrap (x7+1))
else some ((x6,true,()),()):=(aO Ze [1,1,1,0,1,0] (by kernel_rfl) _).trans (by kernel_rfl)
theorem Vk(a0:Int×List ab)(a1:Int):r6 a0 a1 =
 (nq a0).bind λy =>
 bif !y.1.1 then some (((0,[]),false,()),())
 else
 (gJ a1 0 (IntKind.i64.wrap (a0.1 - 1))).bind λy =>
  bif !y.1.1 then some (((0,[]),false,()),())else yQ a1 a0 (0,[]) (a0.1,[]) 0:=(Eq.trans (by kernel_rfl:r6 a0 a1=az Nn (Tryz.f341.body.getD .skip) Rn (aS 62 [(aF,Mode.ro),(al,Mode.ro)] (a0,a1,()))) (all_eq Ze _)).trans (by kernel_rfl)
def Ax(a0:List Rel)(a1:Int×aa×ByteArray×ByteArray×List Int×Int×Int×Int)(a2:List aX):Option ((aX×Bool×PUnit) ×
 List aX×PUnit):=P4.an (a0,a1,a2,())
theorem aji(a0:List Rel)(a1:Int×aa×ByteArray×ByteArray×List Int×Int×Int×Int)(a2:List aX):Ax a0 a1 a2 =
 bif a1.1==0 then (hG (4,[]) (4,[a1.2.1])).bind λy=>some ((y.1.1,y.1.2.1,()),a2,())
else
 bif a1.1==1 then (Hg a0 a1).bind λy=>some ((y.1.1,y.1.2.1,()),a2,())
 else
 bif a1.1==2 then
  (ae a2 a1.2.2.2.2.2.2.1).bind λy =>
  (ae a2 a1.2.2.2.2.2.2.1).bind λy =>
   (vm y).bind λy=>some ((y.1.1,y.1.2.1,()),a2,())
 else
  bif a1.1==3 then
  (ae a2 a1.2.2.2.2.2.2.1).bind λy =>
   (ae a2 a1.2.2.2.2.2.2.1).bind λy =>
   (ae a2 a1.2.2.2.2.2.2.2).bind λay =>
    (ae a2 a1.2.2.2.2.2.2.2).bind λbM =>
    (Al y bM).bind λy=>some ((y.1.1,y.1.2.1,()),a2,())
  else
  bif a1.1==4 then
   (ae a2 a1.2.2.2.2.2.2.1).bind λy =>
   (ae a2 a1.2.2.2.2.2.2.1).bind λy =>
    (ae a2 a1.2.2.2.2.2.2.2).bind λay =>
    (ae a2 a1.2.2.2.2.2.2.2).bind λbM =>
     (Hc y bM).bind λy=>some ((y.1.1,y.1.2.1,()),a2,())
  else
   bif a1.1==5 then
   (ae a2 a1.2.2.2.2.2.2.1).bind λy =>
    (ae a2 a1.2.2.2.2.2.2.1).bind λy =>
    (r6 y a1.2.2.2.2.2.1).bind λy=>some ((y.1.1,y.1.2.1,()),a2,())
   else
   (ae a2 a1.2.2.2.2.2.2.1).bind λy =>
    (ae a2 a1.2.2.2.2.2.2.1).bind λy =>
    (vm y).bind λy =>
     (r6 y.1.1 a1.2.2.2.2.2.1).bind λay =>
     bif !y.1.2.1 then some (((0,[]),false,()),a2,())
     else
      bif !ay.1.2.1 then some (((0,[]),false,()),a2,())
      else (vm ay.1.1).bind λy=>some ((y.1.1,y.1.2.1,()),a2,()):=by kernel_rfl
def NG:Env:=Gb.env C B2.1 Tryz.f252
def RG:=Gb.out C
def uZ(x0:List Rel)(x1:List ak)(x6:List aX)(x7:Int):Q2 (List aX) Bool:=aJ NG [1,1,0,1,0] (Tryz.f252.body.getD .skip) RG (vd a6 x0::vd bS x1::dd 4 (V.d none 1 (Ty.slice 37 aF) x6::vi x7::dd 27 ([])))
def Hf(a0:List Rel)(a1:List ak):Q2 (List aX) Bool:=P2.an (a0,a1,())
def aoL:List (Nat×List Nat):=[(1000003,[1,1,0,1,0])]
theorem Zw:okB aoL (Tryz.f252.body.getD .skip) []=true:=by kernel_rfl
theorem Uj(x0:List Rel)(x1:List ak)(x6:List aX)(x7:Int):uZ x0 x1 x6 x7 =
 bif decide (x7<(↑x1.length:Int))then
 (ae x1 x7).bind λy =>
 (Ax x0 y x6).bind λy =>
  bif !y.1.2.1 then some (([],false,()),())
  else
  bif decide ((List.length y.2.1+1)*32<=140737488355328)then
   uZ x0 x1 (y.2.1++[y.1.1]) (IntKind.i64.wrap (x7+1))
  else none
else some ((x6,true,()),()):=(aO Zw [1,1,0,1,0] (by kernel_rfl) _).trans (by kernel_rfl)
theorem ajg(a0:List Rel)(a1:List ak):Hf a0 a1 =
 uZ a0 a1 [] 0:=(Eq.trans (by kernel_rfl:Hf a0 a1=az NG (Tryz.f252.body.getD .skip) RG (aS 35 [(a6,Mode.ro),(bS,Mode.ro)] (a0,a1,()))) (all_eq Zw _)).trans (by kernel_rfl)
def G5(a0:List Rel)(a1:List ak):Q2 aX Bool:=Pk.an (a0,a1,())
theorem ail(a0:List Rel)(a1:List ak):G5 a0 a1 =
 (vp a0 a1).bind λy =>
 bif !y.1.1 then some (((0,[]),false,()),())
 else
 (Hf a0 a1).bind λy =>
  bif !y.1.2.1 then some (((0,[]),false,()),())
  else
  (ae y.1.1 (IntKind.i64.wrap ((↑(List.length y.1.1):Int) - 1))).bind λy=>some ((y,true,()),()):=by kernel_rfl
def Hb(a0:List Rel)(a1:List ak):Q2 Bool Bool:=PE.an (a0,a1,())
theorem aiM(a0:List Rel)(a1:List ak):Hb a0 a1 =
 (G8 a0 a1).bind λy =>
 bif !y.1.1 then some ((false,false,()),())
 else
 (G5 a0 a1).bind λy =>
  bif y.1.2.1 then some ((decide ((↑(List.length y.1.1.2):Int)>0),y.1.2.1,()),())
  else some ((false,y.1.2.1,()),()):=by kernel_rfl
def Nb:Env:=Fw.env C BG.1 Tryz.f269
def Rc:=Fw.out C
def uM(x0:ByteArray)(x1:Int)(x2:Int)(x7:Int):Q1 Bool:=aJ Nb [1,1,0,1,0] (Tryz.f269.body.getD .skip) Rc (vd bX x0::vd jf x1::vd jf x2::dd 4 (vi x7::dd 26 ([])))
def vl(a0:ByteArray)(a1:Int)(a2:Int):Q1 Bool:=OX.an (a0,a1,a2,())
def an8:List (Nat×List Nat):=[(1000004,[1,1,0,1,0])]
theorem Y4:okB an8 (Tryz.f269.body.getD .skip) []=true:=by kernel_rfl
theorem SN(x0:ByteArray)(x1:Int)(x2:Int)(x7:Int):uM x0 x1 x2 x7 =
 bif decide (x7<(↑x0.size:Int))then
 (nE x0 x7).bind λy =>
 bif decide (y<x1)then some ((false,()),())
 else
  (nE x0 x7).bind λy =>
  bif decide (y>x2)then some ((false,()),())else uM x0 x1 x2 (IntKind.i64.wrap (x7+1))
else some ((true,()),()):=(aO Y4 [1,1,0,1,0] (by kernel_rfl) _).trans (by kernel_rfl)
theorem ahS(a0:ByteArray)(a1:Int)(a2:Int):vl a0 a1 a2 =
 bif decide ((↑a0.size:Int)<1)then some ((false,()),())
else bif decide ((↑a0.size:Int)>6)then some ((false,()),())else uM a0 a1 a2 0:=(Eq.trans (by kernel_rfl:vl a0 a1 a2=az Nb (Tryz.f269.body.getD .skip) Rc (aS 34 [(bX,Mode.ro),(jf,Mode.ro),(jf,Mode.ro)] (a0,a1,a2,()))) (all_eq Y4 _)).trans (by kernel_rfl)
def GU(a0:ByteArray):Q1 Bool:=OV.an (a0,())
theorem ahP(a0:ByteArray):GU a0 =
 (vl a0 65 90).bind λy=>some ((y.1.1,()),()):=by kernel_rfl
def z8(a0:ByteArray):Q1 Bool:=OU.an (a0,())
theorem ahO(a0:ByteArray):z8 a0 =
 (vl a0 97 122).bind λy=>some ((y.1.1,()),()):=by kernel_rfl
def zT(a0:Int):Q1 Bool:=Om.an (a0,())
theorem aha(a0:Int):zT a0 =
 bif decide (a0 >= -400000000)then some ((decide (a0<=400000000),()),())else some ((false,()),()):=by kernel_rfl
def rY(a0:Int):Q1 Int:=OF.an (a0,())
theorem GP(a0:Int):rY a0 =
 bif decide (a0<0)then some ((IntKind.i64.wrap (0 - a0),()),())else some ((a0,()),()):=by kernel_rfl
def M7:Env:=Fq.env C Be.1 Tryz.f286
def Q8:=Fq.out C
def yI(x0:Int)(x1:Int):Q1 Int:=aJ M7 [1,1,0,0] (Tryz.f286.body.getD .skip) Q8 (vd al x0::vd al x1::dd 14 ([]))
def pK(a0:Int)(a1:Int):Q1 Int:=OI.an (a0,a1,())
def an2:List (Nat×List Nat):=[(1000002,[1,1,0,0])]
theorem Y0:okB an2 (Tryz.f286.body.getD .skip) []=true:=by kernel_rfl
theorem afs(x0:Int)(x1:Int):yI x0 x1 =
 bif x1 != 0 then bif x1 != 0 then yI x1 (x0.tmod x1)else none else some ((x0,()),()):=(aO Y0 [1,1,0,0] (by kernel_rfl) _).trans (by kernel_rfl)
theorem U2(a0:Int)(a1:Int):pK a0 a1 =
 (rY a0).bind λy=>(rY a1).bind λay=>yI y.1.1 ay.1.1:=(Eq.trans (by kernel_rfl:pK a0 a1=az M7 (Tryz.f286.body.getD .skip) Q8 (aS 16 [(al,Mode.ro),(al,Mode.ro)] (a0,a1,()))) (all_eq Y0 _)).trans (by kernel_rfl)
def Na:Env:=Fu.env C Bh.1 Tryz.f287
def Rb:=Fu.out C
def uK(x0:List Int)(x3:Int)(x6:List Int)(x7:Int)(x8:Int):Q1 Int:=aJ Na [1,1,0,1,0] (Tryz.f287.body.getD .skip) Rb (vd bm x0::dd 2 (vi x3::dd 2 (vd bm x6::vi x7::vi x8::dd 8 ([]))))
def ni(a0:List Int):Q1 Int:=OO.an (a0,())
def an5:List (Nat×List Nat):=[(1000003,[1,1,0,1,0])]
theorem Y3:okB an5 (Tryz.f287.body.getD .skip) []=true:=by kernel_rfl
theorem yK(x0:List Int)(x3:Int)(x6:List Int)(x7:Int)(x8:Int):uK x0 x3 x6 x7 x8 =
 bif decide (x8<x7)then
 (ae x6 x8).bind λy =>
 (pK x3 y).bind λy=>uK x0 y.1.1 x6 x7 (IntKind.i64.wrap (x8+1))
else some ((x3,()),()):=(aO Y3 [1,1,0,1,0] (by kernel_rfl) _).trans (by kernel_rfl)
theorem U6(a0:List Int):ni a0 =
 uK a0 0 a0 (↑a0.length:Int) 0:=(Eq.trans (by kernel_rfl:ni a0=az Na (Tryz.f287.body.getD .skip) Rb (aS 17 [(bm,Mode.ro)] (a0,()))) (all_eq Y3 _)).trans (by kernel_rfl)
def MW:Env:=Fb.env C Bj.1 Tryz.f206
def QW:=Fb.out C
def rF(x1:aa)(cb:List Int)(dz:Int)(bT:Int):Q1 Bool:=aJ MW [1,1,0,1,0] (Tryz.f206.body.getD .skip) QW (V.dead::(V.box none 0 aK x1::dd 14 (vd bm cb::vi dz::vi bT::dd 14 ([]))))
def kT(a0:aa):Q1 Bool:=Og.an (a0,())
def anP:List (Nat×List Nat):=[(1000004,[1,1,0,1,0])]
theorem YQ:okB anP (Tryz.f206.body.getD .skip) []=true:=by kernel_rfl
theorem Sg(x1:aa)(cb:List Int)(dz:Int)(bT:Int):rF x1 cb dz bT =
 bif decide (bT<dz)then
 (ae cb bT).bind λy =>
 (zT y).bind λy =>
  bif !y.1.1 then some ((false,()),())else rF x1 cb dz (IntKind.i64.wrap (bT+1))
else
 (ni x1.1).bind λy =>
 (pK y.1.1 x1.2.1).bind λy=>some ((decide (y.1.1<=1),()),()):=(aO YQ [1,1,0,1,0] (by kernel_rfl) _).trans (by kernel_rfl)
theorem ag5(a0:aa):kT a0 =
 bif decide ((↑(List.length a0.1):Int)>4)then some ((false,()),())
else
 (zT a0.2.1).bind λy =>
 bif !y.1.1 then some ((false,()),())else rF a0 a0.1 (↑(List.length a0.1):Int) 0:=(Eq.trans (by kernel_rfl:kT a0=az MW (Tryz.f206.body.getD .skip) QW (aS 33 [(aK,Mode.ro)] (a0,()))) (all_eq YQ _)).trans (by kernel_rfl)
def MX:Env:=Fc.env C A4.1 Tryz.f97
def QX:=Fc.out C
def uA(x1:Int×List aa)(cD:List aa)(dA:Int)(cE:Int):Q1 Bool:=aJ MX [1,1,0,1,0] (Tryz.f97.body.getD .skip) QX (V.dead::(V.box none 0 aw x1::dd 18 (V.d none 0 (Ty.slice 153 aK) cD::vi dA::vi cE::dd 15 ([]))))
def kU(a0:Int×List aa):Q1 Bool:=Oh.an (a0,())
def anQ:List (Nat×List Nat):=[(1000004,[1,1,0,1,0])]
theorem YR:okB anQ (Tryz.f97.body.getD .skip) []=true:=by kernel_rfl
theorem Sh(x1:Int×List aa)(cD:List aa)(dA:Int)(cE:Int):uA x1 cD dA cE =
 bif decide (cE<dA)then
 (ae cD cE).bind λy =>
 (kT y).bind λay =>
  bif !ay.1.1 then some ((false,()),())
  else
  bif (↑(List.length y.1):Int) != x1.1 then some ((false,()),())
  else uA x1 cD dA (IntKind.i64.wrap (cE+1))
else some ((true,()),()):=(aO YR [1,1,0,1,0] (by kernel_rfl) _).trans (by kernel_rfl)
theorem ag6(a0:Int×List aa):kU a0 =
 bif decide (a0.1<0)then some ((false,()),())
else
 bif decide (a0.1>4)then some ((false,()),())
 else
 bif decide ((↑(List.length a0.2):Int)>16)then some ((false,()),())
 else uA a0 a0.2 (↑(List.length a0.2):Int) 0:=(Eq.trans (by kernel_rfl:kU a0=az MX (Tryz.f97.body.getD .skip) QX (aS 38 [(aw,Mode.ro)] (a0,()))) (all_eq YR _)).trans (by kernel_rfl)
def M0:Env:=Fh.env C A5.1 Tryz.f260
def Q0:=Fh.out C
def uE(x1:ByteArray×Int×List Rw)(bO:List Rw)(eH:Int)(cP:Int):Q1 Bool:=aJ M0 [1,1,0,1,0] (Tryz.f260.body.getD .skip) Q0 (V.dead::(V.box none 0 fS x1::dd 24 (V.d none 0 (Ty.slice 304 oy) bO::vi eH::vi cP::dd 22 ([]))))
def va(a0:ByteArray×Int×List Rw):Q1 Bool:=Oo.an (a0,())
def anU:List (Nat×List Nat):=[(1000004,[1,1,0,1,0])]
theorem YU:okB anU (Tryz.f260.body.getD .skip) []=true:=by kernel_rfl
theorem Sn(x1:ByteArray×Int×List Rw)(bO:List Rw)(eH:Int)(cP:Int):uE x1 bO eH cP =
 bif decide (cP<eH)then
 (ae bO cP).bind λy =>
 (z8 y.1).bind λay =>
  bif !ay.1.1 then some ((false,()),())
  else
  (kU y.2).bind λbM =>
   bif !bM.1.1 then some ((false,()),())
   else
   bif y.2.1 != x1.2.1 then some ((false,()),())
   else uE x1 bO eH (IntKind.i64.wrap (cP+1))
else some ((true,()),()):=(aO YU [1,1,0,1,0] (by kernel_rfl) _).trans (by kernel_rfl)
theorem ahc(a0:ByteArray×Int×List Rw):va a0 =
 (GU a0.1).bind λy =>
 bif !y.1.1 then some ((false,()),())
 else
 bif decide (a0.2.1<0)then some ((false,()),())
 else
  bif decide (a0.2.1>4)then some ((false,()),())
  else
  bif decide ((↑(List.length a0.2.2):Int)>8)then some ((false,()),())
  else uE a0 a0.2.2 (↑(List.length a0.2.2):Int) 0:=(Eq.trans (by kernel_rfl:va a0=az M0 (Tryz.f260.body.getD .skip) Q0 (aS 51 [(fS,Mode.ro)] (a0,()))) (all_eq YU _)).trans (by kernel_rfl)
def MU:Env:=E9.env C A7.1 Tryz.f261
def QU:=E9.out C
def yB(x0:List Rel)(x1:ByteArray)(x7:List Rel)(x8:Int)(x9:Int):Q1 Int:=aJ MU [1,0,1,0] (Tryz.f261.body.getD .skip) QU (vd a6 x0::vd bX x1::dd 5 (vd a6 x7::vi x8::vi x9::dd 10 ([])))
def rW(a0:List Rel)(a1:ByteArray):Q1 Int:=Od.an (a0,a1,())
def anN:List (Nat×List Nat):=[(1000002,[1,0,1,0])]
theorem YO:okB anN (Tryz.f261.body.getD .skip) []=true:=by kernel_rfl
theorem Se(x0:List Rel)(x1:ByteArray)(x7:List Rel)(x8:Int)(x9:Int):yB x0 x1 x7 x8 x9 =
 bif decide (x9<x8)then
 (ae x7 x9).bind λy =>
 bif ByteArray.toList y.1==x1.toList then some ((x9,()),())
 else yB x0 x1 x7 x8 (IntKind.i64.wrap (x9+1))
else some ((-1,()),()):=(aO YO [1,0,1,0] (by kernel_rfl) _).trans (by kernel_rfl)
theorem ag0(a0:List Rel)(a1:ByteArray):rW a0 a1 =
 yB a0 a1 a0 (↑a0.length:Int) 0:=(Eq.trans (by kernel_rfl:rW a0 a1=az MU (Tryz.f261.body.getD .skip) QU (aS 20 [(a6,Mode.ro),(bX,Mode.ro)] (a0,a1,()))) (all_eq YO _)).trans (by kernel_rfl)
def MY:Env:=Fe.env C A2.1 Tryz.f163
def QY:=Fe.out C
def uB(x0:List Rel)(x8:List Rel)(x9:Int)(a8:Int):Q1 Bool:=aJ MY [1,1,0,1,0] (Tryz.f163.body.getD .skip) QY (vd a6 x0::dd 7 (vd a6 x8::vi x9::vi a8::dd 16 ([])))
def u7(a0:List Rel):Q1 Bool:=Oi.an (a0,())
def anR:List (Nat×List Nat):=[(1000004,[1,1,0,1,0])]
theorem YS:okB anR (Tryz.f163.body.getD .skip) []=true:=by kernel_rfl
theorem Si(x0:List Rel)(x8:List Rel)(x9:Int)(a8:Int):uB x0 x8 x9 a8 =
 bif decide (a8<x9)then
 (ae x8 a8).bind λy =>
 (va y).bind λay =>
  bif !ay.1.1 then some ((false,()),())
  else
  (rW x0 y.1).bind λy =>
   bif y.1.1 != a8 then some ((false,()),())else uB x0 x8 x9 (IntKind.i64.wrap (a8+1))
else some ((true,()),()):=(aO YS [1,1,0,1,0] (by kernel_rfl) _).trans (by kernel_rfl)
theorem ag7(a0:List Rel):u7 a0 =
 bif decide ((↑a0.length:Int)>6)then some ((false,()),())else uB a0 a0 (↑a0.length:Int) 0:=(Eq.trans (by kernel_rfl:u7 a0=az MY (Tryz.f163.body.getD .skip) QY (aS 27 [(a6,Mode.ro)] (a0,()))) (all_eq YS _)).trans (by kernel_rfl)
def GW(a0:aa):Q1 Bool:=OY.an (a0,())
theorem ahT(a0:aa):GW a0 =
 bif (↑(List.length a0.1):Int)==0 then
 bif a0.2.1==0 then some ((!a0.2.2,()),())else some ((false,()),())
else some ((false,()),()):=by kernel_rfl
def vk(a0:Int):Q1 Bool:=OW.an (a0,())
theorem ahR(a0:Int):vk a0 =
 bif decide (a0>=0)then some ((decide (a0<4),()),())else some ((false,()),()):=by kernel_rfl
def ru:Env:=Fv.env C Bl.1 Tryz.f323
def rC:=Fv.out C
def yL(x3:Int×aa×ByteArray×ByteArray×List Int×Int×Int×Int)(yd:List Int)(ye:Int)(ur:Int):Q1 Bool:=aJ ru [1,1,1,0,1,0,1,1,1,0,1,1,0,1,0] (Tryz.f323.body.getD .skip) rC (dd 3 (V.box none 0 de x3::dd 87 (vd bm yd::vi ye::vi ur::dd 16 ([]))))
def yr(x3:Int×aa×ByteArray×ByteArray×List Int×Int×Int×Int):Q1 Bool:=gy ru [1,1,1,0,1,0,1,1,1,0,1,1] (Tryz.f323.body.getD .skip) rC (dd 3 (V.box none 0 de x3::dd 106 ([])))
def EF(x3:Int×aa×ByteArray×ByteArray×List Int×Int×Int×Int)(Ek:Bool):Q1 Bool:=gy ru [1,1,1,0,1,0,1,1,1,1,1] (Tryz.f323.body.getD .skip) rC (dd 3 (V.box none 0 de x3::dd 97 (V.d none 0 Ty.bool Ek::dd 8 ([]))))
def yt(x0:List Rel)(x3:Int×aa×ByteArray×ByteArray×List Int×Int×Int×Int):Q1 Bool:=gy ru [1,1,1] (Tryz.f323.body.getD .skip) rC (vd a6 x0::dd 2 (V.box none 0 de x3::dd 106 ([])))
def EG(x0:List Rel)(x3:Int×aa×ByteArray×ByteArray×List Int×Int×Int×Int):Q1 Bool:=gy ru [1,1] (Tryz.f323.body.getD .skip) rC (vd a6 x0::dd 2 (V.box none 0 de x3::dd 106 ([])))
def z6(a0:List Rel)(a1:Int×aa×ByteArray×ByteArray×List Int×Int×Int×Int):Q1 Bool:=OQ.an (a0,a1,())
def an6:List (Nat×List Nat):=[(2000003,[1,1]),(2000005,[1,1,1]),(2000012,[1,1,1,0,1,0,1,1,1,0,1,1]),(1000013,[1,1,1,0,1,0,1,1,1,0,1,1,0,1,0]),(2000021,[1,1,1,0,1,0,1,1,1,1,1])]
theorem tu:okB an6 (Tryz.f323.body.getD .skip) []=true:=by kernel_rfl
theorem SH(x3:Int×aa×ByteArray×ByteArray×List Int×Int×Int×Int)(yd:List Int)(ye:Int)(ur:Int):yL x3 yd ye ur =
 bif decide (ur<ye)then
 (ae yd ur).bind λy =>
 (vk y).bind λy =>
  bif !y.1.1 then some ((false,()),())else yL x3 yd ye (IntKind.i64.wrap (ur+1))
else some ((true,()),()):=(aO tu [1,1,1,0,1,0,1,1,1,0,1,1,0,1,0] (by kernel_rfl) _).trans (by kernel_rfl)
theorem ae7(x3:Int×aa×ByteArray×ByteArray×List Int×Int×Int×Int):yr x3 =
 yL x3 x3.2.2.2.2.1 (↑(List.length x3.2.2.2.2.1):Int) 0:=(join_eq tu [1,1,1,0,1,0,1,1,1,0,1,1] _).trans (by kernel_rfl)
theorem QP(x3:Int×aa×ByteArray×ByteArray×List Int×Int×Int×Int)(Ek:Bool):EF x3 Ek =
 bif Ek then (vk x3.2.2.2.2.2.1).bind λy=>some ((y.1.1,()),())
else some ((x3.2.2.2.2.2.1==0,()),()):=(join_eq tu [1,1,1,0,1,0,1,1,1,1,1] _).trans (by kernel_rfl)
theorem afa(x0:List Rel)(x3:Int×aa×ByteArray×ByteArray×List Int×Int×Int×Int):yt x0 x3 =
 bif x3.1==0 then
 bif x3.2.2.2.2.2.1==0 then
 (kT x3.2.1).bind λy =>
  bif y.1.1 then some (((↑(List.length x3.2.1.1):Int)==4,()),())else some ((false,()),())
 else some ((false,()),())
else
 bif x3.1==1 then
 (rW x0 x3.2.2.1).bind λy =>
  bif x3.2.2.2.2.2.1 != 0 then some ((false,()),())
  else
  bif decide (y.1.1<0)then some ((false,()),())
  else
   (ae x0 y.1.1).bind λy =>
   bif y.2.1 != (↑(List.length x3.2.2.2.2.1):Int)then some ((false,()),())
   else
    bif !ByteArray.toList x3.2.2.2.1==(ByteArray.mk #[]).toList then
    (z8 x3.2.2.2.1).bind λy=>bif !y.1.1 then some ((false,()),())else yr x3
    else yr x3
 else bif x3.1==5 then EF x3 true else EF x3 (x3.1==6):=(join_eq tu [1,1,1] _).trans (by kernel_rfl)
theorem ae9(x0:List Rel)(x3:Int×aa×ByteArray×ByteArray×List Int×Int×Int×Int):EG x0 x3 =
 bif x3.1 != 1 then
 bif !ByteArray.toList x3.2.2.1==(ByteArray.mk #[]).toList then some ((false,()),())
 else
 bif !ByteArray.toList x3.2.2.2.1==(ByteArray.mk #[]).toList then some ((false,()),())
 else
  bif decide ((↑(List.length x3.2.2.2.2.1):Int)>0)then some ((false,()),())else yt x0 x3
else yt x0 x3:=(join_eq tu [1,1] _).trans (by kernel_rfl)
theorem ahI(a0:List Rel)(a1:Int×aa×ByteArray×ByteArray×List Int×Int×Int×Int):z6 a0 a1 =
 bif a1.1 != 0 then
 (GW a1.2.1).bind λy=>bif !y.1.1 then some ((false,()),())else EG a0 a1
else EG a0 a1:=(Eq.trans (by kernel_rfl:z6 a0 a1=az ru (Tryz.f323.body.getD .skip) rC (aS 110 [(a6,Mode.ro),(de,Mode.ro)] (a0,a1,()))) (all_eq tu _)).trans (by kernel_rfl)
def G0(a0:Int):Q1 Int:=O7.an (a0,())
theorem ah4(a0:Int):G0 a0 =
 bif a0==0 then some ((0,()),())
else
 bif a0==1 then some ((0,()),())
 else
 bif a0==2 then some ((1,()),())
 else
  bif a0==5 then some ((1,()),())
  else
  bif a0==6 then some ((1,()),())
  else bif a0==3 then some ((2,()),())else bif a0==4 then some ((2,()),())else some ((-1,()),()):=by kernel_rfl
def Eo:Env:=Ff.env C Bp.1 Tryz.f279
def EI:=Ff.out C
def yq(x0:List Rel)(x1:List ak)(x5:List Int)(eu:List ak)(dB:Int)(bO:Int):Q1 Bool:=gy Eo [1,1,1,0,1,0,0,1,1,1] (Tryz.f279.body.getD .skip) EI (vd a6 x0::vd bS x1::dd 3 (V.d none (al.depth+1) (Ty.slice 3 al) x5::dd 18 (vd bS eu::vi dB::vi bO::dd 95 ([]))))
def uC(x0:List Rel)(x1:List ak)(x5:List Int)(eu:List ak)(dB:Int)(bO:Int):Q1 Bool:=aJ Eo [1,1,1,0,1,0] (Tryz.f279.body.getD .skip) EI (vd a6 x0::vd bS x1::dd 3 (V.d none (al.depth+1) (Ty.slice 3 al) x5::dd 18 (vd bS eu::vi dB::vi bO::dd 95 ([]))))
def u9(a0:List Rel)(a1:List ak):Q1 Bool:=Ol.an (a0,a1,())
def anS:List (Nat×List Nat):=[(1000005,[1,1,1,0,1,0]),(2000023,[1,1,1,0,1,0,0,1,1,1])]
theorem KR:okB anS (Tryz.f279.body.getD .skip) []=true:=by kernel_rfl
theorem ae6(x0:List Rel)(x1:List ak)(x5:List Int)(eu:List ak)(dB:Int)(bO:Int):yq x0 x1 x5 eu dB bO =
 uC x0 x1 x5 eu dB (IntKind.i64.wrap (bO+1)):=(join_eq KR [1,1,1,0,1,0,0,1,1,1] _).trans (by kernel_rfl)
theorem Sj(x0:List Rel)(x1:List ak)(x5:List Int)(eu:List ak)(dB:Int)(bO:Int):uC x0 x1 x5 eu dB bO =
 bif decide (bO<dB)then
 (ae eu bO).bind λy =>
 (z6 x0 y).bind λay =>
  bif !ay.1.1 then some ((false,()),())
  else
  (G0 y.1).bind λbM =>
   bif bM.1.1==0 then
   bif y.2.2.2.2.2.2.1 != 0 then some ((false,()),())
   else
    bif y.2.2.2.2.2.2.2 != 0 then some ((false,()),())
    else
    (ae x5 bO).bind λy =>
     (ae x5 bO).bind λy =>
     (ae x5 bO).bind λy=>(some (x5.set bO.toNat bO)).bind λy=>yq x0 x1 y eu dB bO
   else
   bif bM.1.1==1 then
    bif bO==0 then some ((false,()),())
    else
    bif y.2.2.2.2.2.2.1 != IntKind.i64.wrap (bO - 1)then some ((false,()),())
    else
     bif y.2.2.2.2.2.2.2 != 0 then some ((false,()),())
     else
     (ae x5 (IntKind.i64.wrap (bO - 1))).bind λy =>
      (ae x5 (IntKind.i64.wrap (bO - 1))).bind λy =>
      (ae x5 bO).bind λcW =>
       (ae x5 bO).bind λjM =>
       (ae x5 bO).bind λuv =>
        (some (x5.set bO.toNat y)).bind λy=>yq x0 x1 y eu dB bO
   else
    bif bM.1.1==2 then
    bif bO==0 then some ((false,()),())
    else
     bif y.2.2.2.2.2.2.2 != IntKind.i64.wrap (bO - 1)then some ((false,()),())
     else
     (ae x5 (IntKind.i64.wrap (bO - 1))).bind λcW =>
      (ae x5 (IntKind.i64.wrap (bO - 1))).bind λjM =>
      bif jM==0 then some ((false,()),())
      else
       (ae x5 (IntKind.i64.wrap (bO - 1))).bind λuv =>
       (ae x5 (IntKind.i64.wrap (bO - 1))).bind λyf =>
        bif y.2.2.2.2.2.2.1 != IntKind.i64.wrap (yf - 1)then some ((false,()),())
        else
        (ae x5 y.2.2.2.2.2.2.1).bind λyg =>
         (ae x5 y.2.2.2.2.2.2.1).bind λy =>
         (ae x5 bO).bind λy_8 =>
          (ae x5 bO).bind λy_9 =>
          (ae x5 bO).bind λaxi =>
           (some (x5.set bO.toNat y)).bind λy=>yq x0 x1 y eu dB bO
    else some ((false,()),())
else
 (ae x5 (IntKind.i64.wrap ((↑x1.length:Int) - 1))).bind λy =>
 (ae x5 (IntKind.i64.wrap ((↑x1.length:Int) - 1))).bind λy=>some ((y==0,()),()):=(aO KR [1,1,1,0,1,0] (by kernel_rfl) _).trans (by kernel_rfl)
theorem ag9(a0:List Rel)(a1:List ak):u9 a0 a1 =
 (u7 a0).bind λy =>
 bif !y.1.1 then some ((false,()),())
 else
 bif decide ((↑a1.length:Int)<1)then some ((false,()),())
 else
  bif decide ((↑a1.length:Int)>12)then some ((false,()),())
  else
  bif
   decide (0<=(↑a1.length:Int))&&decide ((↑a1.length:Int)<=(↑a1.length:Int)) &&
    decide ((↑a1.length:Int)*(↑8:Int)<=140737488355328) &&
    decide ((↑a1.length:Int)<=9223372036854775807)then
   uC a0 a1 (List.replicate a1.length (0:Int)) a1 (↑a1.length:Int) 0
  else none:=(Eq.trans (by kernel_rfl:u9 a0 a1=az Eo (Tryz.f279.body.getD .skip) EI (aS 122 [(a6,Mode.ro),(bS,Mode.ro)] (a0,a1,()))) (all_eq KR _)).trans (by kernel_rfl)
def ry(d:Nat):Env:=tH C (D5 d)
 [0,1,2,3,4,5,6,7,8,9,10,11,12,13,15,18,21,24,29,30,31,36,45,46,50,59,63,72,82] 86
 (λk =>
 bif k==1 then some 19
 else
  bif k==2 then some 49
  else
  bif k==4 then some 113
  else
   bif k==5 then some 112
   else
   bif k==7 then some 112
   else
    bif k==10 then some 15032386032
    else
    bif k==13 then some 112
    else
     bif k==16 then some 492581209244784
     else
     bif k==20 then some 113
     else
      bif k==24 then some 110680464442257315920
      else
      bif k==27 then some 113
      else
       bif k==28 then some 80
       else
       bif k==1000008 then some 15032385648
       else
        bif k==1000014 then some 492581209243760
        else
        bif k==1000022 then some 110680464442257309776
        else bif k==2000020 then some 36028797019488369 else bif k==2000028 then some 80 else none)
 (Hints.mk (λx x_1=>none) (λs=>Nat.testBit 32 s) λr=>bif r==5 then [26,31,36,46,50,53]else [])
 [(bS,Mode.ro),(al,Mode.ro)]
def rD:=JE C [(bS,Mode.ro),(al,Mode.ro)] [(ep,0)] [RV.cell 4 358]
def mY(d:Nat)(x4:PUnit×Bool×Bool×Bool×Bool)(x6:PUnit×Bool×Bool×Bool×Bool):Q1 (PUnit×Bool×Bool×Bool×Bool):=gy (ry d) [1,1,1,1] (Tryz.f316.body.getD .skip) rD (dd 4 (V.box none ep.depth ep x4::V.dead::(V.box none ep.depth ep x6::dd 79 ([]))))
def oD(d:Nat)(x4:PUnit×Bool×Bool×Bool×Bool)(x5:Int×aa×ByteArray×ByteArray×List Int×Int×Int×Int)(x6:PUnit×Bool×Bool×Bool×Bool)(iE:List Int)(iF:Int)(fy:Int):Q1 (PUnit×Bool×Bool×Bool×Bool):=aJ (ry d) [1,1,1,0,1,0,1,0,1,0] (Tryz.f316.body.getD .skip) rD (dd 4 (V.box none ep.depth ep x4::V.box none 0 de x5::V.box none ep.depth ep x6::dd 24 (vd bm iE::vi iF::vi fy::dd 52 ([]))))
def pG(d:Nat)(x4:PUnit×Bool×Bool×Bool×Bool)(x5:Int×aa×ByteArray×ByteArray×List Int×Int×Int×Int)(x6:PUnit×Bool×Bool×Bool×Bool)(pA:List Int)(gZ:Int)(dm:Int):Q1 (PUnit×Bool×Bool×Bool×Bool):=aJ (ry d) [1,1,1,0,1,0,1,1,1,0,1,0] (Tryz.f316.body.getD .skip) rD (dd 4 (V.box none ep.depth ep x4::V.box none 0 de x5::V.box none ep.depth ep x6::dd 39 (vd bm pA::vi gZ::vi dm::dd 37 ([]))))
def b8(d:Nat)(x4:PUnit×Bool×Bool×Bool×Bool)(x6:PUnit×Bool×Bool×Bool×Bool)(ct:PUnit×Bool×Bool×Bool×Bool)(bb:Int):Q1 (PUnit×Bool×Bool×Bool×Bool):=aJ (ry d) [1,1,1,0,1,0,1,1,1,1,1,0,1,1,0] (Tryz.f316.body.getD .skip) rD (dd 4 (V.box none ep.depth ep x4::V.dead::(V.box none ep.depth ep x6::dd 58 (vd ep ct::vi bb::dd 19 ([])))))
def rA(d:Nat)(x0:List ak)(x4:PUnit×Bool×Bool×Bool×Bool)(x5:Int×aa×ByteArray×ByteArray×List Int×Int×Int×Int)(x6:PUnit×Bool×Bool×Bool×Bool)(fx:Int)(El:Bool):Q1 (PUnit×Bool×Bool×Bool×Bool):=gy (ry d) [1,1,1,0,1,0,1,1,1,1,1] (Tryz.f316.body.getD .skip) rD (vd bS x0::dd 3 (V.box none ep.depth ep x4::V.box none 0 de x5::V.box none ep.depth ep x6::dd 12 (vd al fx::dd 35 (V.d none 0 Ty.bool El::dd 30 ([])))))
def nj(d:Nat)(a0:List ak)(a1:Int):Q1 (PUnit×Bool×Bool×Bool×Bool):=(ux (D5 d)).an (a0,a1,())
def an7:List (Nat×List Nat):=[(1000008,[1,1,1,0,1,0,1,0,1,0]),(2000028,[1,1,1,1]),(1000014,[1,1,1,0,1,0,1,1,1,0,1,0]),(2000020,[1,1,1,0,1,0,1,1,1,1,1]),(1000022,[1,1,1,0,1,0,1,1,1,1,1,0,1,1,0])]
theorem tw:okB an7 (Tryz.f316.body.getD .skip) []=true:=by kernel_rfl
theorem yu(d:Nat)(x4:PUnit×Bool×Bool×Bool×Bool)(x6:PUnit×Bool×Bool×Bool×Bool):mY (d+1) x4 x6 =
 some ((x6,()),()):=(join_eq tw [1,1,1,1] _).trans (by kernel_rfl)
theorem SK(d:Nat)(x4:PUnit×Bool×Bool×Bool×Bool)(x5:Int×aa×ByteArray×ByteArray×List Int×Int×Int×Int)(x6:PUnit×Bool×Bool×Bool×Bool)(iE:List Int)(iF:Int)(fy:Int):oD (d+1) x4 x5 x6 iE iF fy =
 bif decide (fy<iF)then
 (ae iE fy).bind λy =>
 bif decide (fy=(↑0:Int))then
  oD (d+1) x4 x5 (x6.1,y != 0,x6.2.2) iE iF (IntKind.i64.wrap (fy+1))
 else
  bif decide (fy=(↑(0+1):Int))then
  oD (d+1) x4 x5 (x6.1,x6.2.1,y != 0,x6.2.2.2) iE iF (IntKind.i64.wrap (fy+1))
  else
  bif decide (fy=(↑(0+1+1):Int))then
   oD (d+1) x4 x5 (x6.1,x6.2.1,x6.2.2.1,y != 0,x6.2.2.2.2) iE iF
   (IntKind.i64.wrap (fy+1))
  else
   bif decide (fy=(↑(0+1+1+1):Int))then
   oD (d+1) x4 x5 (x6.1,x6.2.1,x6.2.2.1,x6.2.2.2.1,y != 0) iE iF
    (IntKind.i64.wrap (fy+1))
   else none
else mY (d+1) x4 x6:=(aO tw [1,1,1,0,1,0,1,0,1,0] (by kernel_rfl) _).trans (by kernel_rfl)
theorem SI(d:Nat)(x4:PUnit×Bool×Bool×Bool×Bool)(x5:Int×aa×ByteArray×ByteArray×List Int×Int×Int×Int)(x6:PUnit×Bool×Bool×Bool×Bool)(pA:List Int)(gZ:Int)(dm:Int):pG (d+1) x4 x5 x6 pA gZ dm =
 bif decide (dm<gZ)then
 (ae pA dm).bind λy =>
 bif decide (y=(↑0:Int))then
  pG (d+1) x4 x5 (x6.1,true,x6.2.2) pA gZ (IntKind.i64.wrap (dm+1))
 else
  bif decide (y=(↑(0+1):Int))then
  pG (d+1) x4 x5 (x6.1,x6.2.1,true,x6.2.2.2) pA gZ (IntKind.i64.wrap (dm+1))
  else
  bif decide (y=(↑(0+1+1):Int))then
   pG (d+1) x4 x5 (x6.1,x6.2.1,x6.2.2.1,true,x6.2.2.2.2) pA gZ
   (IntKind.i64.wrap (dm+1))
  else
   bif decide (y=(↑(0+1+1+1):Int))then
   pG (d+1) x4 x5 (x6.1,x6.2.1,x6.2.2.1,x6.2.2.2.1,true) pA gZ
    (IntKind.i64.wrap (dm+1))
   else none
else mY (d+1) x4 x6:=(aO tw [1,1,1,0,1,0,1,1,1,0,1,0] (by kernel_rfl) _).trans (by kernel_rfl)
theorem uL(d:Nat)(x4:PUnit×Bool×Bool×Bool×Bool)(x6:PUnit×Bool×Bool×Bool×Bool)(ct:PUnit×Bool×Bool×Bool×Bool)(bb:Int):b8 (d+1) x4 x6 ct bb =
 bif decide (bb<4)then
 (ae [ct.2.1,ct.2.2.1,ct.2.2.2.1,ct.2.2.2.2] bb).bind λy =>
 bif decide (bb=(↑0:Int))then
  bif x6.2.1 then
  bif decide (bb=(↑0:Int))then
   b8 (d+1) x4 (x6.1,true,x6.2.2) ct (IntKind.i64.wrap (bb+1))
  else
   bif decide (bb=(↑(0+1):Int))then
   b8 (d+1) x4 (x6.1,x6.2.1,true,x6.2.2.2) ct (IntKind.i64.wrap (bb+1))
   else
   bif decide (bb=(↑(0+1+1):Int))then
    b8 (d+1) x4 (x6.1,x6.2.1,x6.2.2.1,true,x6.2.2.2.2) ct
    (IntKind.i64.wrap (bb+1))
   else
    bif decide (bb=(↑(0+1+1+1):Int))then
    b8 (d+1) x4 (x6.1,x6.2.1,x6.2.2.1,x6.2.2.2.1,true) ct
     (IntKind.i64.wrap (bb+1))
    else none
  else
  bif decide (bb=(↑0:Int))then b8 (d+1) x4 (x6.1,y,x6.2.2) ct (IntKind.i64.wrap (bb+1))
  else
   bif decide (bb=(↑(0+1):Int))then
   b8 (d+1) x4 (x6.1,x6.2.1,y,x6.2.2.2) ct (IntKind.i64.wrap (bb+1))
   else
   bif decide (bb=(↑(0+1+1):Int))then
    b8 (d+1) x4 (x6.1,x6.2.1,x6.2.2.1,y,x6.2.2.2.2) ct
    (IntKind.i64.wrap (bb+1))
   else
    bif decide (bb=(↑(0+1+1+1):Int))then
    b8 (d+1) x4 (x6.1,x6.2.1,x6.2.2.1,x6.2.2.2.1,y) ct
     (IntKind.i64.wrap (bb+1))
    else none
 else
  bif decide (bb=(↑(0+1):Int))then
  bif x6.2.2.1 then
   bif decide (bb=(↑0:Int))then
   b8 (d+1) x4 (x6.1,true,x6.2.2) ct (IntKind.i64.wrap (bb+1))
   else
   bif decide (bb=(↑(0+1):Int))then
    b8 (d+1) x4 (x6.1,x6.2.1,true,x6.2.2.2) ct (IntKind.i64.wrap (bb+1))
   else
    bif decide (bb=(↑(0+1+1):Int))then
    b8 (d+1) x4 (x6.1,x6.2.1,x6.2.2.1,true,x6.2.2.2.2) ct
     (IntKind.i64.wrap (bb+1))
    else
    bif decide (bb=(↑(0+1+1+1):Int))then
     b8 (d+1) x4 (x6.1,x6.2.1,x6.2.2.1,x6.2.2.2.1,true) ct
     (IntKind.i64.wrap (bb+1))
    else none
  else
   bif decide (bb=(↑0:Int))then b8 (d+1) x4 (x6.1,y,x6.2.2) ct (IntKind.i64.wrap (bb+1))
   else
   bif decide (bb=(↑(0+1):Int))then
    b8 (d+1) x4 (x6.1,x6.2.1,y,x6.2.2.2) ct (IntKind.i64.wrap (bb+1))
   else
    bif decide (bb=(↑(0+1+1):Int))then
    b8 (d+1) x4 (x6.1,x6.2.1,x6.2.2.1,y,x6.2.2.2.2) ct
     (IntKind.i64.wrap (bb+1))
    else
    bif decide (bb=(↑(0+1+1+1):Int))then
     b8 (d+1) x4 (x6.1,x6.2.1,x6.2.2.1,x6.2.2.2.1,y) ct
     (IntKind.i64.wrap (bb+1))
    else none
  else
  bif decide (bb=(↑(0+1+1):Int))then
   bif x6.2.2.2.1 then
   bif decide (bb=(↑0:Int))then
    b8 (d+1) x4 (x6.1,true,x6.2.2) ct (IntKind.i64.wrap (bb+1))
   else
    bif decide (bb=(↑(0+1):Int))then
    b8 (d+1) x4 (x6.1,x6.2.1,true,x6.2.2.2) ct (IntKind.i64.wrap (bb+1))
    else
    bif decide (bb=(↑(0+1+1):Int))then
     b8 (d+1) x4 (x6.1,x6.2.1,x6.2.2.1,true,x6.2.2.2.2) ct
     (IntKind.i64.wrap (bb+1))
    else
     bif decide (bb=(↑(0+1+1+1):Int))then
     b8 (d+1) x4 (x6.1,x6.2.1,x6.2.2.1,x6.2.2.2.1,true) ct
      (IntKind.i64.wrap (bb+1))
     else none
   else
   bif decide (bb=(↑0:Int))then
    b8 (d+1) x4 (x6.1,y,x6.2.2) ct (IntKind.i64.wrap (bb+1))
   else
    bif decide (bb=(↑(0+1):Int))then
    b8 (d+1) x4 (x6.1,x6.2.1,y,x6.2.2.2) ct (IntKind.i64.wrap (bb+1))
    else
    bif decide (bb=(↑(0+1+1):Int))then
     b8 (d+1) x4 (x6.1,x6.2.1,x6.2.2.1,y,x6.2.2.2.2) ct
     (IntKind.i64.wrap (bb+1))
    else
     bif decide (bb=(↑(0+1+1+1):Int))then
     b8 (d+1) x4 (x6.1,x6.2.1,x6.2.2.1,x6.2.2.2.1,y) ct
      (IntKind.i64.wrap (bb+1))
     else none
  else
   bif decide (bb=(↑(0+1+1+1):Int))then
   bif x6.2.2.2.2 then
    bif decide (bb=(↑0:Int))then
    b8 (d+1) x4 (x6.1,true,x6.2.2) ct (IntKind.i64.wrap (bb+1))
    else
    bif decide (bb=(↑(0+1):Int))then
     b8 (d+1) x4 (x6.1,x6.2.1,true,x6.2.2.2) ct (IntKind.i64.wrap (bb+1))
    else
     bif decide (bb=(↑(0+1+1):Int))then
     b8 (d+1) x4 (x6.1,x6.2.1,x6.2.2.1,true,x6.2.2.2.2) ct
      (IntKind.i64.wrap (bb+1))
     else
     bif decide (bb=(↑(0+1+1+1):Int))then
      b8 (d+1) x4 (x6.1,x6.2.1,x6.2.2.1,x6.2.2.2.1,true) ct
      (IntKind.i64.wrap (bb+1))
     else none
   else
    bif decide (bb=(↑0:Int))then
    b8 (d+1) x4 (x6.1,y,x6.2.2) ct (IntKind.i64.wrap (bb+1))
    else
    bif decide (bb=(↑(0+1):Int))then
     b8 (d+1) x4 (x6.1,x6.2.1,y,x6.2.2.2) ct (IntKind.i64.wrap (bb+1))
    else
     bif decide (bb=(↑(0+1+1):Int))then
     b8 (d+1) x4 (x6.1,x6.2.1,x6.2.2.1,y,x6.2.2.2.2) ct
      (IntKind.i64.wrap (bb+1))
     else
     bif decide (bb=(↑(0+1+1+1):Int))then
      b8 (d+1) x4 (x6.1,x6.2.1,x6.2.2.1,x6.2.2.2.1,y) ct
      (IntKind.i64.wrap (bb+1))
     else none
   else none
else mY (d+1) x4 x6:=(aO tw [1,1,1,0,1,0,1,1,1,1,1,0,1,1,0] (by kernel_rfl) _).trans (by kernel_rfl)
theorem QQ(d:Nat)(x0:List ak)(x4:PUnit×Bool×Bool×Bool×Bool)(x5:Int×aa×ByteArray×ByteArray×List Int×Int×Int×Int)(x6:PUnit×Bool×Bool×Bool×Bool)(fx:Int)(El:Bool):rA (d+1) x0 x4 x5 x6 fx El =
 bif El then
 (nj d x0 x5.2.2.2.2.2.2.1).bind λy =>
 (nj d x0 x5.2.2.2.2.2.2.2).bind λay=>b8 (d+1) x4 y.1.1 ay.1.1 0
else
 bif fx==2 then (nj d x0 x5.2.2.2.2.2.2.1).bind λy=>mY (d+1) x4 y.1.1
 else
 (nj d x0 x5.2.2.2.2.2.2.1).bind λy =>
  bif decide (x5.2.2.2.2.2.1=(↑0:Int))then
  mY (d+1) x4 (y.1.1.1,false,y.1.1.2.2)
  else
  bif decide (x5.2.2.2.2.2.1=(↑(0+1):Int))then
   mY (d+1) x4 (y.1.1.1,y.1.1.2.1,false,y.1.1.2.2.2)
  else
   bif decide (x5.2.2.2.2.2.1=(↑(0+1+1):Int))then
   mY (d+1) x4
    (y.1.1.1,y.1.1.2.1,y.1.1.2.2.1,false,y.1.1.2.2.2.2)
   else
   bif decide (x5.2.2.2.2.2.1=(↑(0+1+1+1):Int))then
    mY (d+1) x4
    (y.1.1.1,y.1.1.2.1,y.1.1.2.2.1,y.1.1.2.2.2.1,false)
   else none:=(join_eq tw [1,1,1,0,1,0,1,1,1,1,1] _).trans (by kernel_rfl)
theorem ahK(d:Nat)(a0:List ak)(a1:Int):nj (d+1) a0 a1 =
 (ae a0 a1).bind λy =>
 bif y.1==0 then
 oD (d+1) (PUnit.unit,false,false,false,false) y (PUnit.unit,false,false,false,false) y.2.1.1
  (↑(List.length y.2.1.1):Int) 0
 else
 bif y.1==1 then
  pG (d+1) (PUnit.unit,false,false,false,false) y (PUnit.unit,false,false,false,false)
  y.2.2.2.2.1 (↑(List.length y.2.2.2.2.1):Int) 0
 else
  bif y.1==3 then
  rA (d+1) a0 (PUnit.unit,false,false,false,false) y (PUnit.unit,false,false,false,false) y.1
   true
  else
  rA (d+1) a0 (PUnit.unit,false,false,false,false) y (PUnit.unit,false,false,false,false) y.1
   (y.1==4):=(Eq.trans (by kernel_rfl:nj (d+1) a0 a1=az (ry (d+1)) (Tryz.f316.body.getD .skip) rD (aS 86 [(bS,Mode.ro),(al,Mode.ro)] (a0,a1,()))) (all_eq tw _)).trans (by kernel_rfl)
def MV:Env:=Fa.env C Bk.1 Tryz.f255
def QV:=Fa.out C
def pF(x6:List Int)(bT:PUnit×Bool×Bool×Bool×Bool)(fx:Int):Q2 (List Int) Bool:=aJ MV [1,1,1,0,1,0] (Tryz.f255.body.getD .skip) QV (dd 6 (V.d none (al.depth+1) (Ty.slice 3 al) x6::dd 11 (vd ep bT::vi fx::dd 10 ([]))))
def zO(a0:List Rel)(a1:List ak):Q2 (List Int) Bool:=Oe.an (a0,a1,())
def anO:List (Nat×List Nat):=[(1000005,[1,1,1,0,1,0])]
theorem YP:okB anO (Tryz.f255.body.getD .skip) []=true:=by kernel_rfl
theorem Sf(x6:List Int)(bT:PUnit×Bool×Bool×Bool×Bool)(fx:Int):pF x6 bT fx =
 bif decide (fx<4)then
 (ae [bT.2.1,bT.2.2.1,bT.2.2.2.1,bT.2.2.2.2] fx).bind λy =>
 bif y then
  bif decide ((x6.length+1)*8<=140737488355328)then pF (x6++[fx]) bT (IntKind.i64.wrap (fx+1))
  else none
 else pF x6 bT (IntKind.i64.wrap (fx+1))
else some ((x6,true,()),()):=(aO YP [1,1,1,0,1,0] (by kernel_rfl) _).trans (by kernel_rfl)
theorem ag1(a0:List Rel)(a1:List ak):zO a0 a1 =
 (u9 a0 a1).bind λy =>
 bif !y.1.1 then some (([],false,()),())
 else (nj fuel a1 (IntKind.i64.wrap ((↑a1.length:Int) - 1))).bind λy=>pF [] y.1.1 0:=(Eq.trans (by kernel_rfl:zO a0 a1=az MV (Tryz.f255.body.getD .skip) QV (aS 30 [(a6,Mode.ro),(bS,Mode.ro)] (a0,a1,()))) (all_eq YP _)).trans (by kernel_rfl)
def GJ(a0:List Rel)(a1:List ak):Q1 Bool:=Oq.an (a0,a1,())
theorem ahd(a0:List Rel)(a1:List ak):GJ a0 a1 =
 (zO a0 a1).bind λy =>
 bif y.1.2.1 then some (((↑(List.length y.1.1):Int)==0,()),())else some ((false,()),()):=by kernel_rfl
def U5(a0:List Int):Q1 (List Int):=OM.an (a0,())
theorem ahE(a0:List Int):U5 a0 =
 bif decide ((0+a0.length)*8<=140737488355328)then some ((a0,()),())else none:=by kernel_rfl
def vg(a0:aa):Q1 aa:=OK.an (a0,())
theorem ahC(a0:aa):vg a0 =
 (U5 a0.1).bind λy=>some (((y.1.1,a0.2.1,a0.2.2),()),()):=by kernel_rfl
def z7(a0:aa):Q1 Bool:=OS.an (a0,())
theorem ahL(a0:aa):z7 a0 =
 (ni a0.1).bind λy=>some ((y.1.1 != 0,()),()):=by kernel_rfl
def vj(a0:Int):Q1 ab:=OP.an (a0,())
theorem ahH(a0:Int):vj a0 =
 bif
 decide (0<=a0)&&decide (a0<=a0)&&decide (a0*(↑8:Int)<=140737488355328) &&
  decide (a0<=9223372036854775807)then
 some (((a0,[(List.replicate a0.toNat (0:Int),1,false)]),()),())
else none:=by kernel_rfl
def r3(a0:aa):Q1 Int:=ON.an (a0,())
theorem ahF(a0:aa):r3 a0 =
 (ni a0.1).bind λy=>bif y.1.1==0 then some ((1,()),())else some ((y.1.1,()),()):=by kernel_rfl
def Ae(a0:Int)(a1:Int):Q1 Int:=Pd.an (a0,a1,())
theorem aic(a0:Int)(a1:Int):Ae a0 a1 =
 bif decide (a0<a1)then some ((-1,()),())else bif decide (a0>a1)then some ((1,()),())else some ((0,()),()):=by kernel_rfl
def M8:Env:=Fs.env C Bt.1 Tryz.f357
def Q9:=Fs.out C
def yJ(x2:aa)(x3:aa)(x5:Int)(x6:Int)(lO:Int)(cb:Int):Q1 Int:=aJ M8 [1,1,0,1,0] (Tryz.f357.body.getD .skip) Q9 (dd 2 (V.box none 0 aK x2::V.box none 0 aK x3::V.dead::(vd al x5::vd al x6::dd 8 (vi lO::vi cb::dd 21 ([])))))
def vf(a0:aa)(a1:aa):Q1 Int:=OJ.an (a0,a1,())
def an3:List (Nat×List Nat):=[(1000003,[1,1,0,1,0])]
theorem Y1:okB an3 (Tryz.f357.body.getD .skip) []=true:=by kernel_rfl
theorem SC(x2:aa)(x3:aa)(x5:Int)(x6:Int)(lO:Int)(cb:Int):yJ x2 x3 x5 x6 lO cb =
 bif decide (cb<lO)then
 (ae x2.1 cb).bind λy =>
 bif x5 != 0 then
  (ae x3.1 cb).bind λay =>
  bif x6 != 0 then
   (Ae (IntKind.i64.wrap (y.tdiv x5)) (IntKind.i64.wrap (ay.tdiv x6))).bind λy =>
   bif y.1.1 != 0 then some ((y.1.1,()),())
   else yJ x2 x3 x5 x6 lO (IntKind.i64.wrap (cb+1))
  else none
 else none
else some ((0,()),()):=(aO Y1 [1,1,0,1,0] (by kernel_rfl) _).trans (by kernel_rfl)
theorem ahB(a0:aa)(a1:aa):vf a0 a1 =
 (r3 a0).bind λy =>
 (r3 a1).bind λay =>
 yJ a0 a1 y.1.1 ay.1.1 (↑(List.length a0.1):Int) 0:=(Eq.trans (by kernel_rfl:vf a0 a1=az M8 (Tryz.f357.body.getD .skip) Q9 (aS 38 [(aK,Mode.ro),(aK,Mode.ro)] (a0,a1,()))) (all_eq Y1 _)).trans (by kernel_rfl)
def UO(a0:aa)(a1:aa):Q1 Int:=yn.an (a0,a1,())
theorem agP(a0:aa)(a1:aa):UO a0 a1 =
 (kT a0).bind λy =>
 bif !y.1.1 then some ((2,()),())
 else
 (kT a1).bind λy =>
  bif !y.1.1 then some ((2,()),())
  else
  bif (↑(List.length a0.1):Int) != (↑(List.length a1.1):Int)then some ((2,()),())
  else
   (vf a0 a1).bind λy =>
   bif y.1.1 != 0 then some ((y.1.1,()),())
   else
    (r3 a1).bind λy =>
    (r3 a0).bind λay =>
     (Ae (IntKind.i64.wrap (a0.2.1*y.1.1)) (IntKind.i64.wrap (a1.2.1*ay.1.1))).bind
     λy =>
     bif y.1.1 != 0 then some ((y.1.1,()),())
     else
      bif a0.2.2==a1.2.2 then some ((0,()),())
      else bif a0.2.2 then some ((1,()),())else some ((-1,()),()):=by kernel_rfl
def VE(x0:(List ((List Int)×(Int×Bool))))(x1:Value):Option (Unit×(List ((List Int)×(Int×Bool)))×Unit):=EC.an (x0,(x1,()))
def Es:Env:=FB.env C B6.1 Tryz.f331
def EL:=FB.out C
def rH(x4:Int×List aa)(x5:Int×List aa)(x8:Int×List aa)(gZ:Int)(dm:Int):Q1 ab:=aJ Es [1,1,1,1,1,0,1,0] (Tryz.f331.body.getD .skip) EL (dd 4 (V.box none aw.depth aw x4::V.bP 0 1 ((Ty.int IntKind.i64).pair (Ty.slice 153 (bm.pair (al.pair av)).agg)) x5::dd 2 (V.box none aw.depth aw x8::dd 37 (V.same 5 (Ty.slice 153 (bm.pair (al.pair av)).agg)::vi gZ::vi dm::dd 27 ([])))))
def rI(x0:Int)(x1:List aa)(x4:Int×List aa)(x5:List aa)(cL:List aa)(er:Int)(eG:Int):Q1 ab:=aJ Es [1,1,0,1,0] (Tryz.f331.body.getD .skip) EL (vd al x0::vd dV x1::dd 2 (V.box none aw.depth aw x4::V.d none (aK.depth+1) (Ty.slice 153 aK) x5::dd 6 (vd dV cL::vi er::vi eG::dd 61 ([]))))
def pL(a0:Int)(a1:List aa):Q1 ab:=O5.an (a0,a1,())
def aod:List (Nat×List Nat):=[(1000003,[1,1,0,1,0]),(1000013,[1,1,1,1,1,0,1,0])]
theorem KU:okB aod (Tryz.f331.body.getD .skip) []=true:=by kernel_rfl
theorem SX(x4:Int×List aa)(x5:Int×List aa)(x8:Int×List aa)(gZ:Int)(dm:Int):rH x4 x5 x8 gZ dm =
 bif decide (dm<gZ)then
 (ae x5.2 dm).bind λy =>
 bif V.dead.idle&&decide (x5.1<=dm)then
  (ae x5.2 dm).bind λy =>
  bif decide (IntKind.i64.wrap (dm+1)<(↑(List.length x5.2):Int))then
   (ae x5.2 (IntKind.i64.wrap (dm+1))).bind λay =>
   bif decide (dm+1<=IntKind.i64.wrap (dm+1))then
    (ae x5.2 (IntKind.i64.wrap (dm+1))).bind λbM =>
    bif decide (dm+1<=IntKind.i64.wrap (dm+1))then
     (ae x5.2 (IntKind.i64.wrap (dm+1))).bind λcW =>
     (vf y cW).bind λjM =>
      bif jM.1.1==0 then rH x4 (dm+1,x5.2) x8 gZ (IntKind.i64.wrap (dm+1))
      else
      bif decide ((List.length x8.2+1)*40<=140737488355328)then
       rH x4 (dm+1,x5.2) (x8.1,x8.2++[y]) gZ (IntKind.i64.wrap (dm+1))
      else none
    else none
   else none
  else
   bif decide ((List.length x8.2+1)*40<=140737488355328)then
   rH x4 (dm+1,x5.2) (x8.1,x8.2++[y]) gZ (IntKind.i64.wrap (dm+1))
   else none
 else none
else some ((x8,()),()):=(aO KU [1,1,1,1,1,0,1,0] (by kernel_rfl) _).trans (by kernel_rfl)
theorem SZ(x0:Int)(x1:List aa)(x4:Int×List aa)(x5:List aa)(cL:List aa)(er:Int)(eG:Int):rI x0 x1 x4 x5 cL er eG =
 bif decide (eG<er)then
 (ae cL eG).bind λy =>
 (z7 y).bind λay =>
  bif !ay.1.1 then
  bif decide (y.2.1>0)then (vj x0).bind λy=>some ((y.1.1,()),())
  else
   bif y.2.1==0 then
   bif y.2.2 then (vj x0).bind λy=>some ((y.1.1,()),())
   else rI x0 x1 x4 x5 cL er (IntKind.i64.wrap (eG+1))
   else rI x0 x1 x4 x5 cL er (IntKind.i64.wrap (eG+1))
  else
  (vg y).bind λy =>
   bif decide ((x5.length+1)*40<=140737488355328)then
   rI x0 x1 x4 (x5++[y.1.1]) cL er (IntKind.i64.wrap (eG+1))
   else none
else
 Option.bind
 (Go.Proofs.YtbhogmdpmkpinaaGreat.P.It.VE x5
  (Value.func (Fn.func 356) #[] #[]))
 λy=>rH x4 (0,y.2.1) (x0,[]) (↑(List.length y.2.1):Int) 0:=(aO KU [1,1,0,1,0] (by kernel_rfl) _).trans (by kernel_rfl)
theorem ah1(a0:Int)(a1:List aa):pL a0 a1 =
 rI a0 a1 (0,[]) [] a1 (↑a1.length:Int) 0:=(Eq.trans (by kernel_rfl:pL a0 a1=az Es (Tryz.f331.body.getD .skip) EL (aS 76 [(al,Mode.ro),(dV,Mode.ro)] (a0,a1,()))) (all_eq KU _)).trans (by kernel_rfl)
def GM(a0:Int×List aa):Q2 ab Bool:=OB.an (a0,())
theorem U0(a0:Int×List aa):GM a0 =
 (kU a0).bind λy =>
 bif !y.1.1 then some (((0,[]),false,()),())
 else (pL a0.1 a0.2).bind λy=>some ((y.1.1,true,()),()):=by kernel_rfl
def Nc:Env:=Fx.env C Bb.1 Tryz.f220
def Re:=Fx.out C
def rG(x0:List Int)(x6:aa)(x8:Int)(x9:aa)(bO:List Int)(eH:Int)(cP:Int):Q2 aa Bool:=aJ Nc [1,1,1,1,0,1,0] (Tryz.f220.body.getD .skip) Re (vd bm x0::dd 5 (V.box none aK.depth aK x6::V.dead::(vi x8::V.box none aK.depth aK x9::dd 16 (vd bm bO::vi eH::vi cP::dd 17 ([])))))
def nk(a0:List Int)(a1:Int)(a2:Bool):Q2 aa Bool:=O0.an (a0,a1,a2,())
def an9:List (Nat×List Nat):=[(1000006,[1,1,1,1,0,1,0])]
theorem Y5:okB an9 (Tryz.f220.body.getD .skip) []=true:=by kernel_rfl
theorem SO(x0:List Int)(x6:aa)(x8:Int)(x9:aa)(bO:List Int)(eH:Int)(cP:Int):rG x0 x6 x8 x9 bO eH cP =
 bif decide (cP<eH)then
 (ae bO cP).bind λy =>
 bif x8 != 0 then
  (ae x9.1 cP).bind λay =>
  (ae x9.1 cP).bind λbM =>
   (ae x9.1 cP).bind λcW =>
   (some (List.set x9.1 cP.toNat (IntKind.i64.wrap (y.tdiv x8)))).bind λy =>
    rG x0 x6 x8 (y,x9.2) bO eH (IntKind.i64.wrap (cP+1))
 else none
else
 (kT x9).bind λy=>bif !y.1.1 then some ((([],0,false),false,()),())else some ((x9,true,()),()):=(aO Y5 [1,1,1,1,0,1,0] (by kernel_rfl) _).trans (by kernel_rfl)
theorem ahW(a0:List Int)(a1:Int)(a2:Bool):nk a0 a1 a2 =
 (ni a0).bind λy =>
 (pK y.1.1 a1).bind λy =>
 bif y.1.1==0 then
  bif
   decide (0<=(↑a0.length:Int))&&decide ((↑a0.length:Int)<=(↑a0.length:Int)) &&
    decide ((↑a0.length:Int)*(↑8:Int)<=140737488355328) &&
   decide ((↑a0.length:Int)<=9223372036854775807)then
  rG a0 ([],0,false) 1 (List.replicate a0.length (0:Int),IntKind.i64.wrap (a1.tdiv 1),a2) a0 (↑a0.length:Int)
   0
  else none
 else
  bif
   decide (0<=(↑a0.length:Int))&&decide ((↑a0.length:Int)<=(↑a0.length:Int)) &&
    decide ((↑a0.length:Int)*(↑8:Int)<=140737488355328) &&
   decide ((↑a0.length:Int)<=9223372036854775807)then
  bif y.1.1 != 0 then
   rG a0 ([],0,false) y.1.1 (List.replicate a0.length (0:Int),IntKind.i64.wrap (a1.tdiv y.1.1),a2) a0
   (↑a0.length:Int) 0
  else none
  else none:=(Eq.trans (by kernel_rfl:nk a0 a1 a2=az Nc (Tryz.f220.body.getD .skip) Re (aS 46 [(bm,Mode.ro),(al,Mode.ro),(av,Mode.ro)] (a0,a1,a2,()))) (all_eq Y5 _)).trans (by kernel_rfl)
def M4:Env:=Fl.env C Bn.1 Tryz.f370
def Q5:=Fl.out C
def uH(x1:Int)(x3:Int)(x4:aa)(x6:aa)(x8:aa)(a8:List Int)(fT:Int)(dW:Int):Q2 aa Bool:=aJ M4 [1,1,1,1,0,1,0] (Tryz.f370.body.getD .skip) Q5 (V.dead::(vd al x1::V.dead::(vd al x3::V.box none 0 aK x4::V.dead::(V.box none 0 aK x6::V.dead::(V.box none aK.depth aK x8::V.dead::(V.d none (al.depth+1) (Ty.slice 3 al) a8::dd 39 (vi fT::vi dW::dd 48 ([]))))))))
def zW(a0:aa)(a1:Int)(a2:aa)(a3:Int):Q2 aa Bool:=Ox.an (a0,a1,a2,a3,())
def anY:List (Nat×List Nat):=[(1000007,[1,1,1,1,0,1,0])]
theorem YX:okB anY (Tryz.f370.body.getD .skip) []=true:=by kernel_rfl
theorem Sw(x1:Int)(x3:Int)(x4:aa)(x6:aa)(x8:aa)(a8:List Int)(fT:Int)(dW:Int):uH x1 x3 x4 x6 x8 a8 fT dW =
 bif decide (dW<fT)then
 (ae x4.1 dW).bind λy =>
 (ae x6.1 dW).bind λay =>
  (ae a8 dW).bind λbM =>
  (ae a8 dW).bind λcW =>
   (ae a8 dW).bind λjM =>
   (some (a8.set dW.toNat (IntKind.i64.wrap (IntKind.i64.wrap (x1*y)+IntKind.i64.wrap (x3*ay))))).bind
    λy=>uH x1 x3 x4 x6 x8 y fT (IntKind.i64.wrap (dW+1))
else
 bif x4.2.2 then
 bif x1 != 0 then
  (nk a8 (IntKind.i64.wrap (IntKind.i64.wrap (x1*x4.2.1)+IntKind.i64.wrap (x3*x6.2.1)))
   true).bind
  λy=>some ((y.1.1,y.1.2.1,()),())
 else
  bif x6.2.2 then
  (nk a8 (IntKind.i64.wrap (IntKind.i64.wrap (x1*x4.2.1)+IntKind.i64.wrap (x3*x6.2.1)))
    (x3 != 0)).bind
   λy=>some ((y.1.1,y.1.2.1,()),())
  else
  (nk a8 (IntKind.i64.wrap (IntKind.i64.wrap (x1*x4.2.1)+IntKind.i64.wrap (x3*x6.2.1)))
    false).bind
   λy=>some ((y.1.1,y.1.2.1,()),())
 else
 bif x6.2.2 then
  (nk a8 (IntKind.i64.wrap (IntKind.i64.wrap (x1*x4.2.1)+IntKind.i64.wrap (x3*x6.2.1)))
   (x3 != 0)).bind
  λy=>some ((y.1.1,y.1.2.1,()),())
 else
  (nk a8 (IntKind.i64.wrap (IntKind.i64.wrap (x1*x4.2.1)+IntKind.i64.wrap (x3*x6.2.1)))
   false).bind
  λy=>some ((y.1.1,y.1.2.1,()),()):=(aO YX [1,1,1,1,0,1,0] (by kernel_rfl) _).trans (by kernel_rfl)
theorem ahl(a0:aa)(a1:Int)(a2:aa)(a3:Int):zW a0 a1 a2 a3 =
 (kT a0).bind λy =>
 bif !y.1.1 then some ((([],0,false),false,()),())
 else
 (kT a2).bind λy =>
  bif !y.1.1 then some ((([],0,false),false,()),())
  else
  bif (↑(List.length a0.1):Int) != (↑(List.length a2.1):Int)then some ((([],0,false),false,()),())
  else
   bif decide (a1<0)then some ((([],0,false),false,()),())
   else
   bif decide (a1>400000000)then some ((([],0,false),false,()),())
   else
    bif decide (a3<0)then some ((([],0,false),false,()),())
    else
    bif decide (a3>400000000)then some ((([],0,false),false,()),())
    else
     bif
      decide (0<=(↑(List.length a0.1):Int)) &&
       decide ((↑(List.length a0.1):Int)<=(↑(List.length a0.1):Int)) &&
       decide ((↑(List.length a0.1):Int)*(↑8:Int)<=140737488355328) &&
      decide ((↑(List.length a0.1):Int)<=9223372036854775807)then
     uH a1 a3 a0 a2 ([],0,false) (List.replicate (List.length a0.1) (0:Int))
      (↑(List.replicate (List.length a0.1) (0:Int)).length:Int) 0
     else none:=(Eq.trans (by kernel_rfl:zW a0 a1 a2 a3=az M4 (Tryz.f370.body.getD .skip) Q5 (aS 100 [(aK,Mode.ro),(al,Mode.ro),(aK,Mode.ro),(al,Mode.ro)] (a0,a1,a2,a3,()))) (all_eq YX _)).trans (by kernel_rfl)
def Aa(a0:Int)(a1:List aa):Q2 ab Bool:=OZ.an (a0,a1,())
theorem ahV(a0:Int)(a1:List aa):Aa a0 a1 =
 (pL a0 a1).bind λy =>
 bif decide ((↑(List.length y.1.1.2):Int)>16)then some (((0,[]),false,()),())
 else some ((y.1.1,true,()),()):=by kernel_rfl
def yj:Env:=E8.env C Bm.1 Tryz.f353
def yv:=E8.out C
def uy(x1:Int)(x2:Int×List aa)(x4:Int×List aa)(x6:List aa)(a8:aa)(jL:List aa)(fT:Int)(dW:Int)(uo:List aa)(uq:Int)(rh:Int):Q2 ab Bool:=aJ yj [1,1,1,1,0,1,0,0,1,1,0,0,1,1,1,0] (Tryz.f353.body.getD .skip) yv (V.dead::(vd al x1::V.box none 0 aw x2::V.dead::(V.box none aw.depth aw x4::V.dead::(V.d none 1 (Ty.slice 153 aK) x6::dd 3 (V.box none 0 aK a8::dd 38 (V.d none 0 (Ty.slice 153 aK) jL::vi fT::vi dW::dd 10 (V.d none 0 (Ty.slice 153 aK) uo::vi uq::vi rh::dd 41 ([]))))))))
def pE(x1:Int)(x2:Int×List aa)(x4:Int×List aa)(x6:List aa)(jL:List aa)(fT:Int)(dW:Int):Q2 ab Bool:=aJ yj [1,1,1,1,0,1,0] (Tryz.f353.body.getD .skip) yv (V.dead::(vd al x1::V.box none 0 aw x2::V.dead::(V.box none aw.depth aw x4::V.dead::(V.d none 1 (Ty.slice 153 aK) x6::dd 42 (V.d none 0 (Ty.slice 153 aK) jL::vi fT::vi dW::dd 54 ([]))))))
def uz(x1:Int)(x2:Int×List aa)(x4:Int×List aa)(x6:List aa)(iE:List aa)(iF:Int)(fy:Int):Q2 ab Bool:=aJ yj [1,1,1,0,1,0] (Tryz.f353.body.getD .skip) yv (V.dead::(vd al x1::V.box none 0 aw x2::V.dead::(V.box none aw.depth aw x4::V.dead::(V.d none 1 (Ty.slice 153 aK) x6::dd 24 (V.d none 0 (Ty.slice 153 aK) iE::vi iF::vi fy::dd 72 ([]))))))
def u6(a0:Int×List aa)(a1:Int):Q2 ab Bool:=Ob.an (a0,a1,())
def anM:List (Nat×List Nat):=[(1000005,[1,1,1,0,1,0]),(1000011,[1,1,1,1,0,1,0]),(1000015,[1,1,1,1,0,1,0,0,1,1,0,0,1,1,1,0])]
theorem Dk:okB anM (Tryz.f353.body.getD .skip) []=true:=by kernel_rfl
theorem Sb(x1:Int)(x2:Int×List aa)(x4:Int×List aa)(x6:List aa)(a8:aa)(jL:List aa)(fT:Int)(dW:Int)(uo:List aa)(uq:Int)(rh:Int):uy x1 x2 x4 x6 a8 jL fT dW uo uq rh =
 bif decide (rh<uq)then
 (ae uo rh).bind λy =>
 (ae y.1 x1).bind λay =>
  bif decide (ay>=0)then uy x1 x2 x4 x6 a8 jL fT dW uo uq (IntKind.i64.wrap (rh+1))
  else
  (ae y.1 x1).bind λbM =>
   (ae a8.1 x1).bind λcW =>
   (zW a8 (IntKind.i64.wrap (0 - bM)) y cW).bind λy =>
    bif !y.1.2.1 then some (((0,[]),false,()),())
    else
    bif decide ((x6.length+1)*40<=140737488355328)then
     uy x1 x2 x4 (x6++[y.1.1]) a8 jL fT dW uo uq (IntKind.i64.wrap (rh+1))
    else none
else pE x1 x2 x4 x6 jL fT (IntKind.i64.wrap (dW+1)):=(aO Dk [1,1,1,1,0,1,0,0,1,1,0,0,1,1,1,0] (by kernel_rfl) _).trans (by kernel_rfl)
theorem Sa(x1:Int)(x2:Int×List aa)(x4:Int×List aa)(x6:List aa)(jL:List aa)(fT:Int)(dW:Int):pE x1 x2 x4 x6 jL fT dW =
 bif decide (dW<fT)then
 (ae jL dW).bind λy =>
 (ae y.1 x1).bind λay =>
  bif decide (ay<=0)then pE x1 x2 x4 x6 jL fT (IntKind.i64.wrap (dW+1))
  else uy x1 x2 x4 x6 y jL fT dW x2.2 (↑(List.length x2.2):Int) 0
else (Aa x2.1 x6).bind λy=>some ((y.1.1,y.1.2.1,()),()):=(aO Dk [1,1,1,1,0,1,0] (by kernel_rfl) _).trans (by kernel_rfl)
theorem Sc(x1:Int)(x2:Int×List aa)(x4:Int×List aa)(x6:List aa)(iE:List aa)(iF:Int)(fy:Int):uz x1 x2 x4 x6 iE iF fy =
 bif decide (fy<iF)then
 (ae iE fy).bind λy =>
 (ae y.1 x1).bind λay =>
  bif ay==0 then
  bif decide ((x6.length+1)*40<=140737488355328)then
   uz x1 x2 x4 (x6++[y]) iE iF (IntKind.i64.wrap (fy+1))
  else none
  else uz x1 x2 x4 x6 iE iF (IntKind.i64.wrap (fy+1))
else pE x1 x2 x4 x6 x2.2 (↑(List.length x2.2):Int) 0:=(aO Dk [1,1,1,0,1,0] (by kernel_rfl) _).trans (by kernel_rfl)
theorem agX(a0:Int×List aa)(a1:Int):u6 a0 a1 =
 (kU a0).bind λy =>
 bif !y.1.1 then some (((0,[]),false,()),())
 else
 bif decide (a1<0)then some (((0,[]),false,()),())
 else
  bif decide (a1>=a0.1)then some (((0,[]),false,()),())
  else uz a1 a0 (0,[]) [] a0.2 (↑(List.length a0.2):Int) 0:=(Eq.trans (by kernel_rfl:u6 a0 a1=az yj (Tryz.f353.body.getD .skip) yv (aS 106 [(aw,Mode.ro),(al,Mode.ro)] (a0,a1,()))) (all_eq Dk _)).trans (by kernel_rfl)
def Nh:Env:=FC.env C A1.1 Tryz.f327
def Ri:=FC.out C
def pH(x4:List ab)(x5:Int):Q2 (List ab) Bool:=aJ Nh [1,1,1,1,0,1,0] (Tryz.f327.body.getD .skip) Ri (dd 4 (V.d none (aw.depth+1) (Ty.slice 45 aw) x4::vi x5::dd 42 ([])))
def G1(a0:Int×List aa):Q2 (List ab) Bool:=O8.an (a0,())
def aoe:List (Nat×List Nat):=[(1000006,[1,1,1,1,0,1,0])]
theorem Y9:okB aoe (Tryz.f327.body.getD .skip) []=true:=by kernel_rfl
theorem S4(x4:List ab)(x5:Int):pH x4 x5 =
 bif decide (x5>=0)then
 (ae x4 (IntKind.i64.wrap (x5+1))).bind λy =>
 (ae x4 (IntKind.i64.wrap (x5+1))).bind λy =>
  (ae x4 (IntKind.i64.wrap (x5+1))).bind λy =>
  (u6 y x5).bind λy =>
   bif !y.1.2.1 then some (([],false,()),())
   else
   (ae x4 x5).bind λay =>
    (ae x4 x5).bind λbM =>
    (ae x4 x5).bind λcW =>
     (some (x4.set x5.toNat y.1.1)).bind λy=>pH y (IntKind.i64.wrap (x5 - 1))
else some ((x4,true,()),()):=(aO Y9 [1,1,1,1,0,1,0] (by kernel_rfl) _).trans (by kernel_rfl)
theorem ah6(a0:Int×List aa):G1 a0 =
 (kU a0).bind λy =>
 bif !y.1.1 then some (([],false,()),())
 else
 bif
  decide (0<=IntKind.i64.wrap (a0.1+1)) &&
    decide (IntKind.i64.wrap (a0.1+1)<=IntKind.i64.wrap (a0.1+1)) &&
   decide (IntKind.i64.wrap (a0.1+1)*(↑32:Int)<=140737488355328) &&
   decide (IntKind.i64.wrap (a0.1+1)<=9223372036854775807)then
  (pL a0.1 a0.2).bind λy =>
  (ae (List.replicate (IntKind.i64.wrap (a0.1+1)).toNat ((0,[]):ab)) a0.1).bind λay =>
   (ae (List.replicate (IntKind.i64.wrap (a0.1+1)).toNat ((0,[]):ab)) a0.1).bind λbM =>
   (ae (List.replicate (IntKind.i64.wrap (a0.1+1)).toNat ((0,[]):ab)) a0.1).bind λcW =>
    (some ((List.replicate (IntKind.i64.wrap (a0.1+1)).toNat ((0,[]):ab)).set (Int.toNat a0.1) y.1.1)).bind
    λy=>pH y (IntKind.i64.wrap (a0.1 - 1))
 else none:=(Eq.trans (by kernel_rfl:G1 a0=az Nh (Tryz.f327.body.getD .skip) Ri (aS 48 [(aw,Mode.ro)] (a0,()))) (all_eq Y9 _)).trans (by kernel_rfl)
def zP(a0:Int×List aa):Q2 Bool Bool:=Oj.an (a0,())
theorem ag8(a0:Int×List aa):zP a0 =
 (G1 a0).bind λy =>
 bif !y.1.2.1 then some ((false,false,()),())
 else
 (ae y.1.1 0).bind λay =>
  (ae y.1.1 0).bind λbM =>
  (ae y.1.1 0).bind λy=>some ((decide ((↑(List.length y.2):Int)>0),true,()),()):=by kernel_rfl
def Hi(a0:Option PUnit)(a1:Int):Q1 (List aa):=P9.an (a0,a1,())
theorem ajp(a0:Option PUnit)(a1:Int):Hi a0 a1 =
 bif decide (a1<0)then none
else
 bif decide (IntKind.i64.wrap (a1 - IntKind.i64.wrap (0 - 0))>0)then
 bif
  decide (0<IntKind.i64.wrap (a1 - IntKind.i64.wrap (0 - 0)))&&decide (aK.sz≠0) &&
   decide (IntKind.i64.wrap (a1 - IntKind.i64.wrap (0 - 0))*(↑40:(Ty.int IntKind.i64).den)<=140737488355328) &&
   decide (IntKind.i64.wrap (a1 - IntKind.i64.wrap (0 - 0))<=140737488355328)then
  some (([],()),())
 else none
 else some (([],()),()):=by kernel_rfl
def EA:Env:=Gg.env C B5.1 Tryz.f296
def ET:=Gg.out C
def zf(x0:List (List aa))(x6:List aa)(dB:List (List aa))(bO:Int)(eH:Int):Q1 (List aa):=aJ EA [1,1,1,1,0,1,0] (Tryz.f296.body.getD .skip) ET (vd q8 x0::dd 5 (V.d none 1 dV x6::dd 18 (vd q8 dB::vi bO::vi eH::dd 8 ([]))))
def zg(x0:List (List aa))(x3:Int)(x9:List (List aa))(a8:Int)(cn:Int):Q1 (List aa):=aJ EA [1,1,0,1,0] (Tryz.f296.body.getD .skip) ET (vd q8 x0::dd 2 (vi x3::dd 5 (vd q8 x9::vi a8::vi cn::dd 24 ([]))))
def vy(a0:List (List aa)):Q1 (List aa):=P8.an (a0,())
def aoQ:List (Nat×List Nat):=[(1000003,[1,1,0,1,0]),(1000011,[1,1,1,1,0,1,0])]
theorem K2:okB aoQ (Tryz.f296.body.getD .skip) []=true:=by kernel_rfl
theorem E4(x0:List (List aa))(x6:List aa)(dB:List (List aa))(bO:Int)(eH:Int):zf x0 x6 dB bO eH =
 bif decide (eH<bO)then
 (ae dB eH).bind λy =>
 bif decide ((x6.length+y.length)*40<=140737488355328)then
  zf x0 (x6++y) dB bO
  (IntKind.i64.wrap (eH+1))
 else none
else some ((x6,()),()):=(aO K2 [1,1,1,1,0,1,0] (by kernel_rfl) _).trans (by kernel_rfl)
theorem E5(x0:List (List aa))(x3:Int)(x9:List (List aa))(a8:Int)(cn:Int):zg x0 x3 x9 a8 cn =
 bif decide (cn<a8)then
 (ae x9 cn).bind λy =>
 bif decide (IntKind.i64.wrap (x3+(↑y.length:Int))<0)then none
 else
  zg x0
  (IntKind.i64.wrap (x3+(↑y.length:Int))) x9 a8 (IntKind.i64.wrap (cn+1))
else
 (Hi none x3).bind λy =>
 zf x0 y.1.1 x0 (↑x0.length:Int) 0:=(aO K2 [1,1,0,1,0] (by kernel_rfl) _).trans (by kernel_rfl)
theorem ajo(a0:List (List aa)):vy a0 =
 zg a0 0 a0 (↑a0.length:Int) 0:=(Eq.trans (by kernel_rfl:vy a0=az EA (Tryz.f296.body.getD .skip) ET (aS 36 [(q8,Mode.ro)] (a0,()))) (all_eq K2 _)).trans (by kernel_rfl)
def M5:Env:=Fm.env C B4.1 Tryz.f282
def Q6:=Fm.out C
def yF(x1:aa)(x2:aa)(x4:aa)(lP:List Int)(eu:Int)(dB:Int):Q2 aa Bool:=aJ M5 [1,1,1,0,1,0] (Tryz.f282.body.getD .skip) Q6 (V.dead::(V.box none 0 aK x1::V.box none aK.depth aK x2::V.dead::(V.box none aK.depth aK x4::dd 18 (vd bm lP::vi eu::vi dB::dd 12 ([])))))
def ve(a0:aa):Q2 aa Bool:=OA.an (a0,())
def anZ:List (Nat×List Nat):=[(1000005,[1,1,1,0,1,0])]
theorem YY:okB anZ (Tryz.f282.body.getD .skip) []=true:=by kernel_rfl
theorem Sx(x1:aa)(x2:aa)(x4:aa)(lP:List Int)(eu:Int)(dB:Int):yF x1 x2 x4 lP eu dB =
 bif decide (dB<eu)then
 (ae lP dB).bind λy =>
 (ae x4.1 dB).bind λay =>
  (ae x4.1 dB).bind λbM =>
  (ae x4.1 dB).bind λcW =>
   (some (List.set x4.1 dB.toNat (IntKind.i64.wrap (0 - y)))).bind λy =>
   yF x1 x2 (y,x4.2) lP eu (IntKind.i64.wrap (dB+1))
else some ((x4,true,()),()):=(aO YY [1,1,1,0,1,0] (by kernel_rfl) _).trans (by kernel_rfl)
theorem ahp(a0:aa):ve a0 =
 (kT a0).bind λy =>
 bif !y.1.1 then some ((([],0,false),false,()),())
 else
 bif
  decide (0<=(↑(List.length a0.1):Int)) &&
    decide ((↑(List.length a0.1):Int)<=(↑(List.length a0.1):Int)) &&
   decide ((↑(List.length a0.1):Int)*(↑8:Int)<=140737488355328) &&
   decide ((↑(List.length a0.1):Int)<=9223372036854775807)then
  yF a0 ([],0,false)
  (List.replicate (List.length a0.1) (0:Int),IntKind.i64.wrap (0 - a0.2.1),!a0.2.2) a0.1
  (↑(List.length a0.1):Int) 0
 else none:=(Eq.trans (by kernel_rfl:ve a0=az M5 (Tryz.f282.body.getD .skip) Q6 (aS 38 [(aK,Mode.ro)] (a0,()))) (all_eq YY _)).trans (by kernel_rfl)
def rX(a0:Int×List aa)(a1:Int×List aa):Q2 ab Bool:=Ou.an (a0,a1,())
theorem ahh(a0:Int×List aa)(a1:Int×List aa):rX a0 a1 =
 (kU a0).bind λy =>
 bif !y.1.1 then some (((0,[]),false,()),())
 else
 (kU a1).bind λy =>
  bif !y.1.1 then some (((0,[]),false,()),())
  else
  bif a0.1 != a1.1 then some (((0,[]),false,()),())
  else
   (vy [a0.2,a1.2]).bind λy =>
   (Aa a0.1 y.1.1).bind λy=>some ((y.1.1,y.1.2.1,()),()):=by kernel_rfl
def GI(a0:Int×List aa)(a1:aa):Q2 Bool Bool:=Of.an (a0,a1,())
theorem ag3(a0:Int×List aa)(a1:aa):GI a0 a1 =
 (ve a1).bind λy =>
 bif !y.1.2.1 then some ((false,false,()),())
 else
 (rX a0 ((↑(List.length y.1.1.1):Int),[y.1.1])).bind λy =>
  bif !y.1.2.1 then some ((false,false,()),())
  else (zP y.1.1).bind λy=>some ((y.1.1,y.1.2.1,()),()):=by kernel_rfl
def M3:Env:=Fk.env C A3.1 Tryz.f221
def Q4:=Fk.out C
def uG(x1:Int×List aa)(x2:Int×List aa)(x4:Int×List aa)(x7:Int):Q2 ab Bool:=aJ M3 [1,1,1,1,1,1,0,1,0] (Tryz.f221.body.getD .skip) Q4 (V.dead::(V.box none 0 aw x1::V.box none 0 aw x2::V.dead::(V.box none 0 aw x4::dd 2 (vi x7::dd 60 ([])))))
def vb(a0:Int×List aa):Q2 ab Bool:=Ow.an (a0,())
def anX:List (Nat×List Nat):=[(1000010,[1,1,1,1,1,1,0,1,0])]
theorem YW:okB anX (Tryz.f221.body.getD .skip) []=true:=by kernel_rfl
theorem Sv(x1:Int×List aa)(x2:Int×List aa)(x4:Int×List aa)(x7:Int):uG x1 x2 x4 x7 =
 bif decide (x7<(↑(List.length x4.2):Int))then
 bif decide (0<=0)&&decide (0<=x7)&&decide (x7<=(↑(List.length x4.2):Int))then
 bif
  decide (0<=IntKind.i64.wrap (x7+1))&&decide (IntKind.i64.wrap (x7+1)<=(↑(List.length x4.2):Int)) &&
   decide ((↑(List.length x4.2):Int)<=(↑(List.length x4.2):Int))then
  (vy
   [List.drop (Int.toNat 0) (List.take x7.toNat x4.2),
    List.drop (IntKind.i64.wrap (x7+1)).toNat (List.take (List.length x4.2) x4.2)]).bind
  λy =>
  (ae x4.2 x7).bind λay =>
   (GI (x1.1,y.1.1) ay).bind λbM =>
   bif !bM.1.2.1 then some (((0,[]),false,()),())
   else
    bif bM.1.1 then uG x1 x2 (x1.1,y.1.1) x7
    else uG x1 x2 x4 (IntKind.i64.wrap (x7+1))
 else none
 else none
else some ((x4,true,()),()):=(aO YW [1,1,1,1,1,1,0,1,0] (by kernel_rfl) _).trans (by kernel_rfl)
theorem ahk(a0:Int×List aa):vb a0 =
 (GM a0).bind λy =>
 bif !y.1.2.1 then some (((0,[]),false,()),())
 else
 (zP y.1.1).bind λay =>
  bif !ay.1.2.1 then some (((0,[]),false,()),())
  else
  bif ay.1.1 then (vj a0.1).bind λy=>some ((y.1.1,true,()),())
  else uG a0 (0,[]) y.1.1 0:=(Eq.trans (by kernel_rfl:vb a0=az M3 (Tryz.f221.body.getD .skip) Q4 (aS 68 [(aw,Mode.ro)] (a0,()))) (all_eq YW _)).trans (by kernel_rfl)
def GS(a0:Int×List aa):Q1 Bool:=OT.an (a0,())
theorem ahM(a0:Int×List aa):GS a0 =
 bif (↑(List.length a0.2):Int)==1 then
 (ae a0.2 0).bind λy =>
 (z7 y).bind λy =>
  bif !y.1.1 then
  (ae a0.2 0).bind λy =>
   bif y.2.1==1 then (ae a0.2 0).bind λy=>some ((!y.2.2,()),())else some ((false,()),())
  else some ((false,()),())
else some ((false,()),()):=by kernel_rfl
def nh(a0:Int×List ab)(a1:Int×List aa):Option ((Bool×PUnit)×aX×PUnit):=OG.an (a0,a1,())
theorem ahy(a0:Int×List ab)(a1:Int×List aa):nh a0 a1 =
 (vb a1).bind λy =>
 bif !y.1.2.1 then some ((false,()),a0,())
 else
 (GS y.1.1).bind λay =>
  bif ay.1.1 then some ((true,()),a0,())
  else
  bif decide ((↑(List.length a0.2):Int)>=12)then some ((false,()),a0,())
  else
   bif decide ((List.length a0.2+1)*32<=140737488355328)then
   some ((true,()),(a0.1,a0.2++[y.1.1]),())
   else none:=by kernel_rfl
def M9:Env:=Ft.env C Bf.1 Tryz.f95
def Ra:=Ft.out C
def uJ(x1:Int×List aa)(x2:Int×List aa)(x3:Int×List aa)(eG:List aa)(lO:Int)(cb:Int):Q1 ab:=aJ M9 [1,1,0,1,0] (Tryz.f95.body.getD .skip) Ra (V.dead::(V.box none 0 aw x1::V.box none aw.depth aw x2::V.box none aw.depth aw x3::dd 10 (V.d none 0 (Ty.slice 153 aK) eG::vi lO::vi cb::dd 12 ([]))))
def vh(a0:Int×List aa):Q1 ab:=OL.an (a0,())
def an4:List (Nat×List Nat):=[(1000003,[1,1,0,1,0])]
theorem Y2:okB an4 (Tryz.f95.body.getD .skip) []=true:=by kernel_rfl
theorem SE(x1:Int×List aa)(x2:Int×List aa)(x3:Int×List aa)(eG:List aa)(lO:Int)(cb:Int):uJ x1 x2 x3 eG lO cb =
 bif decide (cb<lO)then
 (ae eG cb).bind λy =>
 (vg y).bind λy =>
  bif decide ((List.length x3.2+1)*40<=140737488355328)then
  uJ x1 x2 (x3.1,x3.2++[y.1.1]) eG lO (IntKind.i64.wrap (cb+1))
  else none
else some ((x3,()),()):=(aO Y2 [1,1,0,1,0] (by kernel_rfl) _).trans (by kernel_rfl)
theorem ahD(a0:Int×List aa):vh a0 =
 bif
 decide (0<=0)&&decide (0<=(↑(List.length a0.2):Int)) &&
  decide ((↑(List.length a0.2):Int)*(↑40:Int)<=140737488355328) &&
  decide ((↑(List.length a0.2):Int)<=9223372036854775807)then
 uJ a0 (0,[]) (a0.1,List.replicate (Int.toNat 0) ([],0,false)) a0.2 (↑(List.length a0.2):Int) 0
else none:=(Eq.trans (by kernel_rfl:vh a0=az M9 (Tryz.f95.body.getD .skip) Ra (aS 29 [(aw,Mode.ro)] (a0,()))) (all_eq Y2 _)).trans (by kernel_rfl)
def MS:Env:=E6.env C Bi.1 Tryz.f362
def QS:=E6.out C
def rE(x1:ByteArray)(x2:ByteArray×Int×List Rw)(x4:Int×List ab)(x6:Int×List ab)(bT:List Rw)(fx:Int)(cD:Int):Q2 aX Bool:=aJ MS [1,1,1,0,1,0] (Tryz.f362.body.getD .skip) QS (V.dead::(vd bX x1::V.box none 0 fS x2::V.dead::(V.box none aF.depth aF x4::V.dead::(V.box none aF.depth aF x6::dd 11 (V.d none 0 (Ty.slice 304 oy) bT::vi fx::vi cD::dd 21 ([]))))))
def zJ(a0:ByteArray×Int×List Rw)(a1:ByteArray):Q2 aX Bool:=N5.an (a0,a1,())
def anK:List (Nat×List Nat):=[(1000005,[1,1,1,0,1,0])]
theorem YM:okB anK (Tryz.f362.body.getD .skip) []=true:=by kernel_rfl
theorem R7(x1:ByteArray)(x2:ByteArray×Int×List Rw)(x4:Int×List ab)(x6:Int×List ab)(bT:List Rw)(fx:Int)(cD:Int):rE x1 x2 x4 x6 bT fx cD =
 bif decide (cD<fx)then
 (ae bT cD).bind λy =>
 bif x1.toList==(ByteArray.mk #[]).toList then
  (vh y.2).bind λy =>
  bif decide ((List.length x6.2+1)*32<=140737488355328)then
   rE x1 x2 x4 (x6.1,x6.2++[y.1.1]) bT fx (IntKind.i64.wrap (cD+1))
  else none
 else
  bif ByteArray.toList y.1==x1.toList then
  (vh y.2).bind λy =>
   bif decide ((List.length x6.2+1)*32<=140737488355328)then
   rE x1 x2 x4 (x6.1,x6.2++[y.1.1]) bT fx (IntKind.i64.wrap (cD+1))
   else none
  else rE x1 x2 x4 x6 bT fx (IntKind.i64.wrap (cD+1))
else some ((x6,true,()),()):=(aO YM [1,1,1,0,1,0] (by kernel_rfl) _).trans (by kernel_rfl)
theorem agN(a0:ByteArray×Int×List Rw)(a1:ByteArray):zJ a0 a1 =
 (va a0).bind λy =>
 bif !y.1.1 then some (((0,[]),false,()),())
 else rE a1 a0 (0,[]) (a0.2.1,[]) a0.2.2 (↑(List.length a0.2.2):Int) 0:=(Eq.trans (by kernel_rfl:zJ a0 a1=az MS (Tryz.f362.body.getD .skip) QS (aS 42 [(fS,Mode.ro),(bX,Mode.ro)] (a0,a1,()))) (all_eq YM _)).trans (by kernel_rfl)
def Er:Env:=Fo.env C AX.1 Tryz.f365
def EK:=Fo.out C
def uI(x1:List Int)(x2:Int×List aa)(x4:Int×List aa)(x6:Int×List aa)(x8:aa)(x9:List Int)(cP:List aa)(eT:Int)(kQ:Int)(fz:List Int)(fb:Int)(jK:Int):Q2 ab Bool:=aJ Er [1,1,1,0,1,0,0,1,1,0,0,1,1,0,1,0] (Tryz.f365.body.getD .skip) EK (V.dead::(vd bm x1::V.box none 0 aw x2::V.dead::(V.box none aw.depth aw x4::V.dead::(V.box none aw.depth aw x6::V.dead::(V.box none 0 aK x8::V.d none (al.depth+1) (Ty.slice 3 al) x9::dd 18 (V.d none 0 (Ty.slice 153 aK) cP::vi eT::vi kQ::dd 4 (vd bm fz::vi fb::vi jK::dd 40 ([]))))))))
def yG(x1:List Int)(x2:Int×List aa)(x4:Int×List aa)(x6:Int×List aa)(cP:List aa)(eT:Int)(kQ:Int):Q2 ab Bool:=aJ Er [1,1,1,0,1,0] (Tryz.f365.body.getD .skip) EK (V.dead::(vd bm x1::V.box none 0 aw x2::V.dead::(V.box none aw.depth aw x4::V.dead::(V.box none aw.depth aw x6::dd 21 (V.d none 0 (Ty.slice 153 aK) cP::vi eT::vi kQ::dd 47 ([]))))))
def zX(a0:Int×List aa)(a1:List Int):Q2 ab Bool:=OC.an (a0,a1,())
def an0:List (Nat×List Nat):=[(1000005,[1,1,1,0,1,0]),(1000009,[1,1,1,0,1,0,0,1,1,0,0,1,1,0,1,0])]
theorem KT:okB an0 (Tryz.f365.body.getD .skip) []=true:=by kernel_rfl
theorem Sz(x1:List Int)(x2:Int×List aa)(x4:Int×List aa)(x6:Int×List aa)(x8:aa)(x9:List Int)(cP:List aa)(eT:Int)(kQ:Int)(fz:List Int)(fb:Int)(jK:Int):uI x1 x2 x4 x6 x8 x9 cP eT kQ fz fb jK =
 bif decide (jK<fb)then
 (ae fz jK).bind λy =>
 (vk y).bind λay =>
  bif !ay.1.1 then some (((0,[]),false,()),())
  else
  (ae x9 y).bind λbM =>
   (ae x9 y).bind λcW =>
   (ae x8.1 jK).bind λjM =>
    (ae x9 y).bind λuv =>
    (ae x9 y).bind λyf =>
     (ae x9 y).bind λyg =>
     (some (x9.set y.toNat (IntKind.i64.wrap (cW+jM)))).bind λy =>
      uI x1 x2 x4 x6 x8 y cP eT kQ fz fb (IntKind.i64.wrap (jK+1))
else
 (nk x9 x8.2.1 x8.2.2).bind λy =>
 bif !y.1.2.1 then some (((0,[]),false,()),())
 else
  bif decide ((List.length x6.2+1)*40<=140737488355328)then
  yG x1 x2 x4 (x6.1,x6.2++[y.1.1]) cP eT (IntKind.i64.wrap (kQ+1))
  else none:=(aO KT [1,1,1,0,1,0,0,1,1,0,0,1,1,0,1,0] (by kernel_rfl) _).trans (by kernel_rfl)
theorem Sy(x1:List Int)(x2:Int×List aa)(x4:Int×List aa)(x6:Int×List aa)(cP:List aa)(eT:Int)(kQ:Int):yG x1 x2 x4 x6 cP eT kQ =
 bif decide (kQ<eT)then
 (ae cP kQ).bind λy =>
 uI x1 x2 x4 x6 y (List.replicate (Int.toNat 4) (0:Int)) cP eT kQ x1 (↑x1.length:Int) 0
else some ((x6,true,()),()):=(aO KT [1,1,1,0,1,0] (by kernel_rfl) _).trans (by kernel_rfl)
theorem ahq(a0:Int×List aa)(a1:List Int):zX a0 a1 =
 (kU a0).bind λy =>
 bif !y.1.1 then some (((0,[]),false,()),())
 else
 bif (↑a1.length:Int) != a0.1 then some (((0,[]),false,()),())
 else yG a1 a0 (0,[]) (4,[]) a0.2 (↑(List.length a0.2):Int) 0:=(Eq.trans (by kernel_rfl:zX a0 a1=az Er (Tryz.f365.body.getD .skip) EK (aS 78 [(aw,Mode.ro),(bm,Mode.ro)] (a0,a1,()))) (all_eq KT _)).trans (by kernel_rfl)
def Vh(a0:Int×List aa)(a1:Option ak):Q2 ab Bool:=Pb.an (a0,a1,())
theorem ah8(a0:Int×List aa)(a1:Option ak):Vh a0 a1 =
 a1.bind λy=>(zX a0 y.2.2.2.2.1).bind λy=>some ((y.1.1,y.1.2.1,()),()):=by kernel_rfl
def Ng:Env:=FA.env C Br.1 Tryz.f363
def Rh:=FA.out C
def uN(x1:Option (Option ak×PUnit))(x2:Int×List ab)(x4:Int×List ab)(x6:Int×List ab)(cb:List ab)(dz:Int)(bT:Int):Q2 aX Bool:=aJ Ng [1,1,0,1,0] (Tryz.f363.body.getD .skip) Rh (V.dead::(V.d none 0 (Ty.cap (some 364) ((Ty.cap none de).pair Ty.unit)) x1::V.box none 0 aF x2::V.dead::(V.box none 1 aF x4::V.dead::(V.box none 1 aF x6::dd 9 (V.d none 0 (Ty.slice 45 aw) cb::vi dz::vi bT::dd 19 ([]))))))
def GZ(a0:Int×List ab)(a1:Option (Option ak×PUnit)):Q2 aX Bool:=O3.an (a0,a1,())
def aoc:List (Nat×List Nat):=[(1000003,[1,1,0,1,0])]
theorem Y8:okB aoc (Tryz.f363.body.getD .skip) []=true:=by kernel_rfl
theorem SR(x1:Option (Option ak×PUnit))(x2:Int×List ab)(x4:Int×List ab)(x6:Int×List ab)(cb:List ab)(dz:Int)(bT:Int):uN x1 x2 x4 x6 cb dz bT =
 bif decide (bT<dz)then
 (ae cb bT).bind λy =>
 x1.bind λay =>
  (Vh y ay.1).bind λy =>
  bif !y.1.2.1 then some (((0,[]),false,()),())
  else
   (nh x6 y.1.1).bind λy =>
   bif !y.1.1 then some (((0,[]),false,()),())
   else uN x1 x2 x4 y.2.1 cb dz (IntKind.i64.wrap (bT+1))
else some ((x6,true,()),()):=(aO Y8 [1,1,0,1,0] (by kernel_rfl) _).trans (by kernel_rfl)
theorem ahZ(a0:Int×List ab)(a1:Option (Option ak×PUnit)):GZ a0 a1 =
 uN a1 a0 (0,[]) (a0.1,[]) a0.2 (↑(List.length a0.2):Int) 0:=(Eq.trans (by kernel_rfl:GZ a0 a1=az Ng (Tryz.f363.body.getD .skip) Rh (aS 38 [(aF,Mode.ro),(Ty.cap (some 364) ((Ty.cap none de).pair Ty.unit),Mode.ro)] (a0,a1,()))) (all_eq Y8 _)).trans (by kernel_rfl)
def Vg(a0:List Rel)(a1:Int×aa×ByteArray×ByteArray×List Int×Int×Int×Int):Q2 aX Bool:=Pa.an (a0,a1,())
theorem ah9(a0:List Rel)(a1:Int×aa×ByteArray×ByteArray×List Int×Int×Int×Int):Vg a0 a1 =
 (rW a0 a1.2.2.1).bind λy =>
 (ae a0 y.1.1).bind λy =>
 (zJ y a1.2.2.2.1).bind λy =>
  bif !y.1.2.1 then some (((0,[]),false,()),())
  else
  (GZ (4,y.1.1.2) (some (some a1,()))).bind λy =>
   some ((y.1.1,y.1.2.1,()),()):=by kernel_rfl
def MZ:Env:=Fg.env C Bq.1 Tryz.f133
def QZ:=Fg.out C
def uD(x1:Int×List ab)(cD:List ab)(dA:Int)(cE:Int):Q1 Bool:=aJ MZ [1,1,0,1,0] (Tryz.f133.body.getD .skip) QZ (V.dead::(V.box none 0 aF x1::dd 18 (V.d none 0 (Ty.slice 45 aw) cD::vi dA::vi cE::dd 14 ([]))))
def jS(a0:Int×List ab):Q1 Bool:=On.an (a0,())
def anT:List (Nat×List Nat):=[(1000004,[1,1,0,1,0])]
theorem YT:okB anT (Tryz.f133.body.getD .skip) []=true:=by kernel_rfl
theorem Sm(x1:Int×List ab)(cD:List ab)(dA:Int)(cE:Int):uD x1 cD dA cE =
 bif decide (cE<dA)then
 (ae cD cE).bind λy =>
 (kU y).bind λay =>
  bif !ay.1.1 then some ((false,()),())
  else bif y.1 != x1.1 then some ((false,()),())else uD x1 cD dA (IntKind.i64.wrap (cE+1))
else some ((true,()),()):=(aO YT [1,1,0,1,0] (by kernel_rfl) _).trans (by kernel_rfl)
theorem ahb(a0:Int×List ab):jS a0 =
 bif decide (a0.1<0)then some ((false,()),())
else
 bif decide (a0.1>4)then some ((false,()),())
 else
 bif decide ((↑(List.length a0.2):Int)>12)then some ((false,()),())
 else uD a0 a0.2 (↑(List.length a0.2):Int) 0:=(Eq.trans (by kernel_rfl:jS a0=az MZ (Tryz.f133.body.getD .skip) QZ (aS 37 [(aF,Mode.ro)] (a0,()))) (all_eq YT _)).trans (by kernel_rfl)
def Vf(a0:Int×List aa):Q1 aX:=O6.an (a0,())
theorem ah3(a0:Int×List aa):Vf a0 =
 some (((a0.1,[a0]),()),()):=by kernel_rfl
def UY(a0:Int×List aa):Q2 ab Bool:=Oz.an (a0,())
theorem ahn(a0:Int×List aa):UY a0 =
 some ((a0,true,()),()):=by kernel_rfl
def Nf:Env:=Fz.env C Ba.1 Tryz.f363
def Rg:=Fz.out C
def yN(x1:Option PUnit)(x2:Int×List ab)(x4:Int×List ab)(x6:Int×List ab)(cb:List ab)(dz:Int)(bT:Int):Q2 aX Bool:=aJ Nf [1,1,0,1,0] (Tryz.f363.body.getD .skip) Rg (V.dead::(V.d none 0 (Ty.cap (some 377) Ty.unit) x1::V.box none 0 aF x2::V.dead::(V.box none 1 aF x4::V.dead::(V.box none 1 aF x6::dd 9 (V.d none 0 (Ty.slice 45 aw) cb::vi dz::vi bT::dd 19 ([]))))))
def GY(a0:Int×List ab)(a1:Option PUnit):Q2 aX Bool:=O2.an (a0,a1,())
def aob:List (Nat×List Nat):=[(1000003,[1,1,0,1,0])]
theorem Y7:okB aob (Tryz.f363.body.getD .skip) []=true:=by kernel_rfl
theorem SQ(x1:Option PUnit)(x2:Int×List ab)(x4:Int×List ab)(x6:Int×List ab)(cb:List ab)(dz:Int)(bT:Int):yN x1 x2 x4 x6 cb dz bT =
 bif decide (bT<dz)then
 (ae cb bT).bind λy =>
 x1.bind λay =>
  (UY y).bind λy =>
  bif !y.1.2.1 then some (((0,[]),false,()),())
  else
   (nh x6 y.1.1).bind λy =>
   bif !y.1.1 then some (((0,[]),false,()),())
   else yN x1 x2 x4 y.2.1 cb dz (IntKind.i64.wrap (bT+1))
else some ((x6,true,()),()):=(aO Y7 [1,1,0,1,0] (by kernel_rfl) _).trans (by kernel_rfl)
theorem ahY(a0:Int×List ab)(a1:Option PUnit):GY a0 a1 =
 yN a1 a0 (0,[]) (a0.1,[]) a0.2 (↑(List.length a0.2):Int) 0:=(Eq.trans (by kernel_rfl:GY a0 a1=az Nf (Tryz.f363.body.getD .skip) Rg (aS 38 [(aF,Mode.ro),(Ty.cap (some 377) Ty.unit,Mode.ro)] (a0,a1,()))) (all_eq Y7 _)).trans (by kernel_rfl)
def vc(a0:Int×List ab):Q2 aX Bool:=Oy.an (a0,())
theorem aho(a0:Int×List ab):vc a0 =
 (jS a0).bind λy =>
 bif !y.1.1 then some (((0,[]),false,()),())
 else (GY a0 (some ())).bind λy=>some ((y.1.1,y.1.2.1,()),()):=by kernel_rfl
def Et:Env:=FF.env C A9.1 Tryz.f376
def EM:=FF.out C
def rJ(x2:Int×List ab)(x3:Int×List aa)(x4:Int×List ab)(x6:Int×List ab)(x8:Int×List aa)(cD:List ab)(dA:Int)(cE:Int)(eH:List aa)(cP:Int)(eT:Int):Q2 aX Bool:=aJ Et [1,1,0,1,0,0,1,1,0,0,1,1,0] (Tryz.f376.body.getD .skip) EM (dd 2 (V.box none 0 aF x2::V.box none 0 aw x3::V.box none 1 aF x4::V.dead::(V.box none 1 aF x6::V.dead::(V.box none 0 aw x8::dd 11 (V.d none 0 (Ty.slice 45 aw) cD::vi dA::vi cE::dd 4 (V.d none 0 (Ty.slice 153 aK) eH::vi cP::vi eT::dd 41 ([])))))))
def uP(x2:Int×List ab)(x3:Int×List aa)(x4:Int×List ab)(x6:Int×List ab)(cD:List ab)(dA:Int)(cE:Int):Q2 aX Bool:=aJ Et [1,1,0,1,0] (Tryz.f376.body.getD .skip) EM (dd 2 (V.box none 0 aF x2::V.box none 0 aw x3::V.box none 1 aF x4::V.dead::(V.box none 1 aF x6::dd 13 (V.d none 0 (Ty.slice 45 aw) cD::vi dA::vi cE::dd 48 ([])))))
def Af(a0:Int×List ab)(a1:Int×List aa):Q2 aX Bool:=Pe.an (a0,a1,())
def aoh:List (Nat×List Nat):=[(1000003,[1,1,0,1,0]),(1000006,[1,1,0,1,0,0,1,1,0,0,1,1,0])]
theorem KV:okB aoh (Tryz.f376.body.getD .skip) []=true:=by kernel_rfl
theorem Ta(x2:Int×List ab)(x3:Int×List aa)(x4:Int×List ab)(x6:Int×List ab)(x8:Int×List aa)(cD:List ab)(dA:Int)(cE:Int)(eH:List aa)(cP:Int)(eT:Int):rJ x2 x3 x4 x6 x8 cD dA cE eH cP eT =
 bif decide (eT<cP)then
 (ae eH eT).bind λy =>
 (ve y).bind λy =>
  bif !y.1.2.1 then some (((0,[]),false,()),())
  else
  bif decide (0<=0)&&decide (0<=eT)&&decide (eT<=(↑(List.length x3.2):Int))then
   bif decide ((0+(List.drop (Int.toNat 0) (List.take eT.toNat x3.2)).length)*40<=140737488355328)then
   bif decide (((List.drop (Int.toNat 0) (List.take eT.toNat x3.2)).length+1)*40<=140737488355328)then
    (rX x8 (x2.1,List.drop (Int.toNat 0) (List.take eT.toNat x3.2)++[y.1.1])).bind λy =>
    bif !y.1.2.1 then some (((0,[]),false,()),())
    else
     (nh x6 y.1.1).bind λy =>
     bif !y.1.1 then some (((0,[]),false,()),())
     else rJ x2 x3 x4 y.2.1 x8 cD dA cE eH cP (IntKind.i64.wrap (eT+1))
   else none
   else none
  else none
else uP x2 x3 x4 x6 cD dA (IntKind.i64.wrap (cE+1)):=(aO KV [1,1,0,1,0,0,1,1,0,0,1,1,0] (by kernel_rfl) _).trans (by kernel_rfl)
theorem S9(x2:Int×List ab)(x3:Int×List aa)(x4:Int×List ab)(x6:Int×List ab)(cD:List ab)(dA:Int)(cE:Int):uP x2 x3 x4 x6 cD dA cE =
 bif decide (cE<dA)then
 (ae cD cE).bind λy=>rJ x2 x3 x4 x6 y cD dA cE x3.2 (↑(List.length x3.2):Int) 0
else some ((x6,true,()),()):=(aO KV [1,1,0,1,0] (by kernel_rfl) _).trans (by kernel_rfl)
theorem aid(a0:Int×List ab)(a1:Int×List aa):Af a0 a1 =
 uP a0 a1 (0,[]) (a0.1,[]) a0.2 (↑(List.length a0.2):Int) 0:=(Eq.trans (by kernel_rfl:Af a0 a1=az Et (Tryz.f376.body.getD .skip) EM (aS 71 [(aF,Mode.ro),(aw,Mode.ro)] (a0,a1,()))) (all_eq KV _)).trans (by kernel_rfl)
def MT:Env:=E7.env C Bu.1 Tryz.f366
def QT:=E7.out C
def yA(x3:Int×List ab)(x4:Int×List ab)(x6:Int×List ab)(jK:List ab)(ya:Int)(uk:Int):Q2 aX Bool:=aJ MT [1,1,1,1,0,1,0] (Tryz.f366.body.getD .skip) QT (dd 3 (V.box none 0 aF x3::V.box none 0 aF x4::V.dead::(V.box none 0 aF x6::dd 30 (V.d none 0 (Ty.slice 45 aw) jK::vi ya::vi uk::dd 22 ([])))))
def zK(a0:Int×List ab)(a1:Int×List ab):Q2 aX Bool:=N8.an (a0,a1,())
def anL:List (Nat×List Nat):=[(1000007,[1,1,1,1,0,1,0])]
theorem YN:okB anL (Tryz.f366.body.getD .skip) []=true:=by kernel_rfl
theorem R9(x3:Int×List ab)(x4:Int×List ab)(x6:Int×List ab)(jK:List ab)(ya:Int)(uk:Int):yA x3 x4 x6 jK ya uk =
 bif decide (uk<ya)then
 (ae jK uk).bind λy =>
 (vb y).bind λy =>
  bif !y.1.2.1 then some (((0,[]),false,()),())
  else
  (Af x6 y.1.1).bind λy =>
   bif !y.1.2.1 then some (((0,[]),false,()),())
   else yA x3 x4 y.1.1 jK ya (IntKind.i64.wrap (uk+1))
else some ((x6,true,()),()):=(aO YN [1,1,1,1,0,1,0] (by kernel_rfl) _).trans (by kernel_rfl)
theorem agS(a0:Int×List ab)(a1:Int×List ab):zK a0 a1 =
 (jS a0).bind λy =>
 bif !y.1.1 then some (((0,[]),false,()),())
 else
 (jS a1).bind λy =>
  bif !y.1.1 then some (((0,[]),false,()),())
  else
  bif a0.1 != a1.1 then some (((0,[]),false,()),())
  else
   (vc a0).bind λy =>
   bif !y.1.2.1 then some (((0,[]),false,()),())
   else yA a1 (0,[]) y.1.1 a1.2 (↑(List.length a1.2):Int) 0:=(Eq.trans (by kernel_rfl:zK a0 a1=az MT (Tryz.f366.body.getD .skip) QT (aS 62 [(aF,Mode.ro),(aF,Mode.ro)] (a0,a1,()))) (all_eq YN _)).trans (by kernel_rfl)
def u5(a0:Int×List ab):Q2 aX Bool:=N7.an (a0,())
theorem agR(a0:Int×List ab):u5 a0 =
 (jS a0).bind λy =>
 bif !y.1.1 then some (((0,[]),false,()),())
 else
 (Vf (a0.1,[])).bind λy =>
  (zK y.1.1 a0).bind λy=>some ((y.1.1,y.1.2.1,()),()):=by kernel_rfl
def Ep:Env:=Fj.env C AY.1 Tryz.f344
def EJ:=Fj.out C
def yE(x2:Int×List ab)(x3:Int×List ab)(x4:Int×List ab)(x6:Int×List ab)(x8:Int×List aa)(iG:List ab)(fz:Int)(fb:Int)(yb:List ab)(yc:Int)(um:Int):Q2 aX Bool:=aJ Ep [1,1,1,0,1,0,0,1,1,0,0,1,1,0] (Tryz.f344.body.getD .skip) EJ (dd 2 (V.box none 0 aF x2::V.box none 0 aF x3::V.box none 1 aF x4::V.dead::(V.box none 1 aF x6::V.dead::(V.box none 0 aw x8::dd 25 (V.d none 0 (Ty.slice 45 aw) iG::vi fz::vi fb::dd 4 (V.d none 0 (Ty.slice 45 aw) yb::vi yc::vi um::dd 20 ([])))))))
def uF(x2:Int×List ab)(x3:Int×List ab)(x4:Int×List ab)(x6:Int×List ab)(iG:List ab)(fz:Int)(fb:Int):Q2 aX Bool:=aJ Ep [1,1,1,0,1,0] (Tryz.f344.body.getD .skip) EJ (dd 2 (V.box none 0 aF x2::V.box none 0 aF x3::V.box none 1 aF x4::V.dead::(V.box none 1 aF x6::dd 27 (V.d none 0 (Ty.slice 45 aw) iG::vi fz::vi fb::dd 27 ([])))))
def zV(a0:Int×List ab)(a1:Int×List ab):Q2 aX Bool:=Ov.an (a0,a1,())
def anW:List (Nat×List Nat):=[(1000005,[1,1,1,0,1,0]),(1000008,[1,1,1,0,1,0,0,1,1,0,0,1,1,0])]
theorem KS:okB anW (Tryz.f344.body.getD .skip) []=true:=by kernel_rfl
theorem Su(x2:Int×List ab)(x3:Int×List ab)(x4:Int×List ab)(x6:Int×List ab)(x8:Int×List aa)(iG:List ab)(fz:Int)(fb:Int)(yb:List ab)(yc:Int)(um:Int):yE x2 x3 x4 x6 x8 iG fz fb yb yc um =
 bif decide (um<yc)then
 (ae yb um).bind λy =>
 (rX x8 y).bind λy =>
  bif !y.1.2.1 then some (((0,[]),false,()),())
  else
  (nh x6 y.1.1).bind λy =>
   bif !y.1.1 then some (((0,[]),false,()),())
   else yE x2 x3 x4 y.2.1 x8 iG fz fb yb yc (IntKind.i64.wrap (um+1))
else uF x2 x3 x4 x6 iG fz (IntKind.i64.wrap (fb+1)):=(aO KS [1,1,1,0,1,0,0,1,1,0,0,1,1,0] (by kernel_rfl) _).trans (by kernel_rfl)
theorem Ss(x2:Int×List ab)(x3:Int×List ab)(x4:Int×List ab)(x6:Int×List ab)(iG:List ab)(fz:Int)(fb:Int):uF x2 x3 x4 x6 iG fz fb =
 bif decide (fb<fz)then
 (ae iG fb).bind λy=>yE x2 x3 x4 x6 y iG fz fb x3.2 (↑(List.length x3.2):Int) 0
else some ((x6,true,()),()):=(aO KS [1,1,1,0,1,0] (by kernel_rfl) _).trans (by kernel_rfl)
theorem ahi(a0:Int×List ab)(a1:Int×List ab):zV a0 a1 =
 (jS a0).bind λy =>
 bif !y.1.1 then some (((0,[]),false,()),())
 else
 (jS a1).bind λy =>
  bif !y.1.1 then some (((0,[]),false,()),())
  else
  bif a0.1 != a1.1 then some (((0,[]),false,()),())
  else uF a0 a1 (0,[]) (a0.1,[]) a0.2 (↑(List.length a0.2):Int) 0:=(Eq.trans (by kernel_rfl:zV a0 a1=az Ep (Tryz.f344.body.getD .skip) EJ (aS 64 [(aF,Mode.ro),(aF,Mode.ro)] (a0,a1,()))) (all_eq KS _)).trans (by kernel_rfl)
def GO(a0:Int×List ab)(a1:Int×List ab):Q2 aX Bool:=OE.an (a0,a1,())
theorem ahu(a0:Int×List ab)(a1:Int×List ab):GO a0 a1 =
 (jS a0).bind λy =>
 bif !y.1.1 then some (((0,[]),false,()),())
 else
 (jS a1).bind λy =>
  bif !y.1.1 then some (((0,[]),false,()),())
  else
  bif a0.1 != a1.1 then some (((0,[]),false,()),())
  else
   (vc a0).bind λy =>
   bif !y.1.2.1 then some (((0,[]),false,()),())
   else
    (vc a1).bind λay =>
    bif !ay.1.2.1 then some (((0,[]),false,()),())
    else
     bif
      decide
      (IntKind.i64.wrap ((↑(List.length y.1.1.2):Int)+(↑(List.length ay.1.1.2):Int))>12)then
     some (((0,[]),false,()),())
     else
     bif decide ((List.length y.1.1.2+List.length ay.1.1.2)*32<=140737488355328)then
      some (((y.1.1.1,y.1.1.2++ay.1.1.2),true,()),())
     else none:=by kernel_rfl
def GF(a0:Int×List aa)(a1:Option Int):Q2 ab Bool:=Oa.an (a0,a1,())
theorem agV(a0:Int×List aa)(a1:Option Int):GF a0 a1 =
 (GM a0).bind λy =>
 bif !y.1.2.1 then some (((0,[]),false,()),())
 else a1.bind λay=>(u6 y.1.1 ay).bind λy=>some ((y.1.1,y.1.2.1,()),()):=by kernel_rfl
def Nd:Env:=Fy.env C AZ.1 Tryz.f363
def Rf:=Fy.out C
def yM(x1:Option (Option Int×PUnit))(x2:Int×List ab)(x4:Int×List ab)(x6:Int×List ab)(cb:List ab)(dz:Int)(bT:Int):Q2 aX Bool:=aJ Nd [1,1,0,1,0] (Tryz.f363.body.getD .skip) Rf (V.dead::(V.d none 0 (Ty.cap (some 369) ((Ty.cap none al).pair Ty.unit)) x1::V.box none 0 aF x2::V.dead::(V.box none 1 aF x4::V.dead::(V.box none 1 aF x6::dd 9 (V.d none 0 (Ty.slice 45 aw) cb::vi dz::vi bT::dd 19 ([]))))))
def GX(a0:Int×List ab)(a1:Option (Option Int×PUnit)):Q2 aX Bool:=O1.an (a0,a1,())
def aoa:List (Nat×List Nat):=[(1000003,[1,1,0,1,0])]
theorem Y6:okB aoa (Tryz.f363.body.getD .skip) []=true:=by kernel_rfl
theorem SP(x1:Option (Option Int×PUnit))(x2:Int×List ab)(x4:Int×List ab)(x6:Int×List ab)(cb:List ab)(dz:Int)(bT:Int):yM x1 x2 x4 x6 cb dz bT =
 bif decide (bT<dz)then
 (ae cb bT).bind λy =>
 x1.bind λay =>
  (GF y ay.1).bind λy =>
  bif !y.1.2.1 then some (((0,[]),false,()),())
  else
   (nh x6 y.1.1).bind λy =>
   bif !y.1.1 then some (((0,[]),false,()),())
   else yM x1 x2 x4 y.2.1 cb dz (IntKind.i64.wrap (bT+1))
else some ((x6,true,()),()):=(aO Y6 [1,1,0,1,0] (by kernel_rfl) _).trans (by kernel_rfl)
theorem ahX(a0:Int×List ab)(a1:Option (Option Int×PUnit)):GX a0 a1 =
 yM a1 a0 (0,[]) (a0.1,[]) a0.2 (↑(List.length a0.2):Int) 0:=(Eq.trans (by kernel_rfl:GX a0 a1=az Nd (Tryz.f363.body.getD .skip) Rf (aS 38 [(aF,Mode.ro),(Ty.cap (some 369) ((Ty.cap none al).pair Ty.unit),Mode.ro)] (a0,a1,()))) (all_eq Y6 _)).trans (by kernel_rfl)
def zM(a0:Int×List ab)(a1:Int):Q2 aX Bool:=N9.an (a0,a1,())
theorem agW(a0:Int×List ab)(a1:Int):zM a0 a1 =
 (jS a0).bind λy =>
 bif !y.1.1 then some (((0,[]),false,()),())
 else
 bif decide (a1<0)then some (((0,[]),false,()),())
 else
  bif decide (a1>=a0.1)then some (((0,[]),false,()),())
  else (GX a0 (some (some a1,()))).bind λy=>some ((y.1.1,y.1.2.1,()),()):=by kernel_rfl
def Ab(a0:List Rel)(a1:Int×aa×ByteArray×ByteArray×List Int×Int×Int×Int)(a2:List aX):Option ((aX×Bool×PUnit) ×
 List aX×PUnit):=O4.an (a0,a1,a2,())
theorem ah0(a0:List Rel)(a1:Int×aa×ByteArray×ByteArray×List Int×Int×Int×Int)(a2:List aX):Ab a0 a1 a2 =
 bif a1.1==0 then
 (vg a1.2.1).bind λy =>
 (nh (4,[]) (4,[y.1.1])).bind λy=>some ((y.2.1,y.1.1,()),a2,())
else
 bif a1.1==1 then (Vg a0 a1).bind λy=>some ((y.1.1,y.1.2.1,()),a2,())
 else
 bif a1.1==2 then
  (ae a2 a1.2.2.2.2.2.2.1).bind λy =>
  (ae a2 a1.2.2.2.2.2.2.1).bind λy =>
   (u5 y).bind λy=>some ((y.1.1,y.1.2.1,()),a2,())
 else
  bif a1.1==3 then
  (ae a2 a1.2.2.2.2.2.2.1).bind λy =>
   (ae a2 a1.2.2.2.2.2.2.1).bind λy =>
   (ae a2 a1.2.2.2.2.2.2.2).bind λay =>
    (ae a2 a1.2.2.2.2.2.2.2).bind λbM =>
    (zV y bM).bind λy=>some ((y.1.1,y.1.2.1,()),a2,())
  else
  bif a1.1==4 then
   (ae a2 a1.2.2.2.2.2.2.1).bind λy =>
   (ae a2 a1.2.2.2.2.2.2.1).bind λy =>
    (ae a2 a1.2.2.2.2.2.2.2).bind λay =>
    (ae a2 a1.2.2.2.2.2.2.2).bind λbM =>
     (GO y bM).bind λy=>some ((y.1.1,y.1.2.1,()),a2,())
  else
   bif a1.1==5 then
   (ae a2 a1.2.2.2.2.2.2.1).bind λy =>
    (ae a2 a1.2.2.2.2.2.2.1).bind λy =>
    (zM y a1.2.2.2.2.2.1).bind λy=>some ((y.1.1,y.1.2.1,()),a2,())
   else
   (ae a2 a1.2.2.2.2.2.2.1).bind λy =>
    (ae a2 a1.2.2.2.2.2.2.1).bind λy =>
    (u5 y).bind λy =>
     bif !y.1.2.1 then some (((0,[]),false,()),a2,())
     else
     (zM y.1.1 a1.2.2.2.2.2.1).bind λy =>
      bif !y.1.2.1 then some (((0,[]),false,()),a2,())
      else (u5 y.1.1).bind λy=>some ((y.1.1,y.1.2.1,()),a2,()):=by kernel_rfl
def Ni:Env:=FD.env C Bo.1 Tryz.f256
def Rj:=FD.out C
def uO(x0:List Rel)(x1:List ak)(x6:List aX)(cb:List ak)(dz:Int)(bT:Int):Q2 (List aX) Bool:=aJ Ni [1,1,1,0,1,0] (Tryz.f256.body.getD .skip) Rj (vd a6 x0::vd bS x1::dd 4 (V.d none 1 (Ty.slice 37 aF) x6::dd 9 (vd bS cb::vi dz::vi bT::dd 18 ([]))))
def G2(a0:List Rel)(a1:List ak):Q2 (List aX) Bool:=O9.an (a0,a1,())
def aof:List (Nat×List Nat):=[(1000005,[1,1,1,0,1,0])]
theorem Za:okB aof (Tryz.f256.body.getD .skip) []=true:=by kernel_rfl
theorem S5(x0:List Rel)(x1:List ak)(x6:List aX)(cb:List ak)(dz:Int)(bT:Int):uO x0 x1 x6 cb dz bT =
 bif decide (bT<dz)then
 (ae cb bT).bind λy =>
 (Ab x0 y x6).bind λy =>
  bif !y.1.2.1 then some (([],false,()),())
  else
  bif decide ((List.length y.2.1+1)*32<=140737488355328)then
   uO x0 x1 (y.2.1++[y.1.1]) cb dz (IntKind.i64.wrap (bT+1))
  else none
else some ((x6,true,()),()):=(aO Za [1,1,1,0,1,0] (by kernel_rfl) _).trans (by kernel_rfl)
theorem ah7(a0:List Rel)(a1:List ak):G2 a0 a1 =
 (u9 a0 a1).bind λy =>
 bif !y.1.1 then some (([],false,()),())else uO a0 a1 [] a1 (↑a1.length:Int) 0:=(Eq.trans (by kernel_rfl:G2 a0 a1=az Ni (Tryz.f256.body.getD .skip) Rj (aS 37 [(a6,Mode.ro),(bS,Mode.ro)] (a0,a1,()))) (all_eq Za _)).trans (by kernel_rfl)
def GG(a0:List Rel)(a1:List ak):Q2 aX Bool:=Oc.an (a0,a1,())
theorem agY(a0:List Rel)(a1:List ak):GG a0 a1 =
 (G2 a0 a1).bind λy =>
 bif !y.1.2.1 then some (((0,[]),false,()),())
 else (ae y.1.1 (IntKind.i64.wrap ((↑(List.length y.1.1):Int) - 1))).bind λy=>some ((y,true,()),()):=by kernel_rfl
def GN(a0:List Rel)(a1:List ak):Q2 Bool Bool:=OD.an (a0,a1,())
theorem ahs(a0:List Rel)(a1:List ak):GN a0 a1 =
 (GJ a0 a1).bind λy =>
 bif !y.1.1 then some ((false,false,()),())
 else
 (GG a0 a1).bind λy =>
  bif y.1.2.1 then some ((decide ((↑(List.length y.1.1.2):Int)>0),y.1.2.1,()),())
  else some ((false,y.1.2.1,()),()):=by kernel_rfl
def NM:Env:=Gi.env C A8.1 Tryz.f64
def RM:=Gi.out C
def zi(x0:List Int)(x1:List Int)(x5:Int):Q1 Bool:=aJ NM [1,1,0,1,0] (Tryz.f64.body.getD .skip) RM (vd bm x0::vd bm x1::dd 3 (vi x5::dd 20 ([])))
def vA(a0:List Int)(a1:List Int):Q1 Bool:=Qd.an (a0,a1,())
def aoS:List (Nat×List Nat):=[(1000004,[1,1,0,1,0])]
theorem ZC:okB aoS (Tryz.f64.body.getD .skip) []=true:=by kernel_rfl
theorem Us(x0:List Int)(x1:List Int)(x5:Int):zi x0 x1 x5 =
 bif decide (x5<(↑x0.length:Int))then
 (ae x0 x5).bind λy =>
 (ae x1 x5).bind λay =>
  bif y != ay then some ((false,()),())else zi x0 x1 (IntKind.i64.wrap (x5+1))
else some ((true,()),()):=(aO ZC [1,1,0,1,0] (by kernel_rfl) _).trans (by kernel_rfl)
theorem ajw(a0:List Int)(a1:List Int):vA a0 a1 =
 bif (↑a0.length:Int) != (↑a1.length:Int)then some ((false,()),())else zi a0 a1 0:=(Eq.trans (by kernel_rfl:vA a0 a1=az NM (Tryz.f64.body.getD .skip) RM (aS 26 [(bm,Mode.ro),(bm,Mode.ro)] (a0,a1,()))) (all_eq ZC _)).trans (by kernel_rfl)
def AA(a0:aa)(a1:aa):Q1 Bool:=Qa.an (a0,a1,())
theorem ajt(a0:aa)(a1:aa):AA a0 a1 =
 (vA a0.1 a1.1).bind λy =>
 bif !y.1.1 then some ((false,()),())
 else
 bif a0.2.1 != a1.2.1 then some ((false,()),())
 else bif !a0.2.2==a1.2.2 then some ((false,()),())else some ((true,()),()):=by kernel_rfl
def NL:Env:=Gh.env C B9.1 Tryz.f298
def RL:=Gh.out C
def zh(x0:List aa)(x1:List aa)(x5:Int):Q1 Bool:=aJ NL [1,1,0,1,0] (Tryz.f298.body.getD .skip) RL (vd dV x0::vd dV x1::dd 3 (vi x5::dd 21 ([])))
def AB(a0:List aa)(a1:List aa):Q1 Bool:=Qb.an (a0,a1,())
def aoR:List (Nat×List Nat):=[(1000004,[1,1,0,1,0])]
theorem ZB:okB aoR (Tryz.f298.body.getD .skip) []=true:=by kernel_rfl
theorem Ur(x0:List aa)(x1:List aa)(x5:Int):zh x0 x1 x5 =
 bif decide (x5<(↑x0.length:Int))then
 (ae x0 x5).bind λy =>
 (ae x1 x5).bind λay =>
  (AA y ay).bind λy =>
  bif !y.1.1 then some ((false,()),())else zh x0 x1 (IntKind.i64.wrap (x5+1))
else some ((true,()),()):=(aO ZB [1,1,0,1,0] (by kernel_rfl) _).trans (by kernel_rfl)
theorem ajr(a0:List aa)(a1:List aa):AB a0 a1 =
 bif (↑a0.length:Int) != (↑a1.length:Int)then some ((false,()),())else zh a0 a1 0:=(Eq.trans (by kernel_rfl:AB a0 a1=az NL (Tryz.f298.body.getD .skip) RL (aS 27 [(dV,Mode.ro),(dV,Mode.ro)] (a0,a1,()))) (all_eq ZB _)).trans (by kernel_rfl)
def Hk(a0:Int×List aa)(a1:Int×List aa):Q1 Bool:=Qc.an (a0,a1,())
theorem aju(a0:Int×List aa)(a1:Int×List aa):Hk a0 a1 =
 bif a0.1 != a1.1 then some ((false,()),())
else (AB a0.2 a1.2).bind λy=>bif !y.1.1 then some ((false,()),())else some ((true,()),()):=by kernel_rfl
def Hn(a0:ByteArray×Int×List aa)(a1:ByteArray×Int×List aa):Q1 Bool:=Qk.an (a0,a1,())
theorem ajL(a0:ByteArray×Int×List aa)(a1:ByteArray×Int×List aa):Hn a0 a1 =
 bif !ByteArray.toList a0.1==ByteArray.toList a1.1 then some ((false,()),())
else (Hk a0.2 a1.2).bind λy=>bif !y.1.1 then some ((false,()),())else some ((true,()),()):=by kernel_rfl
def NR:Env:=Gn.env C Cc.1 Tryz.f245
def RR:=Gn.out C
def zn(x0:List Rw)(x1:List Rw)(x5:Int):Q1 Bool:=aJ NR [1,1,0,1,0] (Tryz.f245.body.getD .skip) RR (vd mU x0::vd mU x1::dd 3 (vi x5::dd 21 ([])))
def AH(a0:List Rw)(a1:List Rw):Q1 Bool:=Ql.an (a0,a1,())
def aoX:List (Nat×List Nat):=[(1000004,[1,1,0,1,0])]
theorem ZH:okB aoX (Tryz.f245.body.getD .skip) []=true:=by kernel_rfl
theorem Ux(x0:List Rw)(x1:List Rw)(x5:Int):zn x0 x1 x5 =
 bif decide (x5<(↑x0.length:Int))then
 (ae x0 x5).bind λy =>
 (ae x1 x5).bind λay =>
  (Hn y ay).bind λy =>
  bif !y.1.1 then some ((false,()),())else zn x0 x1 (IntKind.i64.wrap (x5+1))
else some ((true,()),()):=(aO ZH [1,1,0,1,0] (by kernel_rfl) _).trans (by kernel_rfl)
theorem ajJ(a0:List Rw)(a1:List Rw):AH a0 a1 =
 bif (↑a0.length:Int) != (↑a1.length:Int)then some ((false,()),())else zn a0 a1 0:=(Eq.trans (by kernel_rfl:AH a0 a1=az NR (Tryz.f245.body.getD .skip) RR (aS 27 [(mU,Mode.ro),(mU,Mode.ro)] (a0,a1,()))) (all_eq ZH _)).trans (by kernel_rfl)
def Hm(a0:ByteArray×Int×List Rw)(a1:ByteArray×Int×List Rw):Q1 Bool:=Qh.an (a0,a1,())
theorem ajH(a0:ByteArray×Int×List Rw)(a1:ByteArray×Int×List Rw):Hm a0 a1 =
 bif !ByteArray.toList a0.1==ByteArray.toList a1.1 then some ((false,()),())
else
 bif a0.2.1 != a1.2.1 then some ((false,()),())
 else
 (AH a0.2.2 a1.2.2).bind λy=>bif !y.1.1 then some ((false,()),())else some ((true,()),()):=by kernel_rfl
def NP:Env:=Gl.env C Ca.1 Tryz.f48
def RP:=Gl.out C
def zm(x0:List Rel)(x1:List Rel)(x5:Int):Q1 Bool:=aJ NP [1,1,0,1,0] (Tryz.f48.body.getD .skip) RP (vd a6 x0::vd a6 x1::dd 3 (vi x5::dd 21 ([])))
def AF(a0:List Rel)(a1:List Rel):Q1 Bool:=Qi.an (a0,a1,())
def aoV:List (Nat×List Nat):=[(1000004,[1,1,0,1,0])]
theorem ZG:okB aoV (Tryz.f48.body.getD .skip) []=true:=by kernel_rfl
theorem Uw(x0:List Rel)(x1:List Rel)(x5:Int):zm x0 x1 x5 =
 bif decide (x5<(↑x0.length:Int))then
 (ae x0 x5).bind λy =>
 (ae x1 x5).bind λay =>
  (Hm y ay).bind λy =>
  bif !y.1.1 then some ((false,()),())else zm x0 x1 (IntKind.i64.wrap (x5+1))
else some ((true,()),()):=(aO ZG [1,1,0,1,0] (by kernel_rfl) _).trans (by kernel_rfl)
theorem ajF(a0:List Rel)(a1:List Rel):AF a0 a1 =
 bif (↑a0.length:Int) != (↑a1.length:Int)then some ((false,()),())else zm a0 a1 0:=(Eq.trans (by kernel_rfl:AF a0 a1=az NP (Tryz.f48.body.getD .skip) RP (aS 27 [(a6,Mode.ro),(a6,Mode.ro)] (a0,a1,()))) (all_eq ZG _)).trans (by kernel_rfl)
def Hl(a0:Int×aa×ByteArray×ByteArray×List Int×Int×Int×Int)(a1:Int×aa×ByteArray×ByteArray×List Int×Int×Int×Int):Q1 Bool:=Qe.an (a0,a1,())
theorem ajB(a0:Int×aa×ByteArray×ByteArray×List Int×Int×Int×Int)(a1:Int×aa×ByteArray×ByteArray×List Int×Int×Int×Int):Hl a0 a1 =
 bif a0.1 != a1.1 then some ((false,()),())
else
 (AA a0.2.1 a1.2.1).bind λy =>
 bif !y.1.1 then some ((false,()),())
 else
  bif !ByteArray.toList a0.2.2.1==ByteArray.toList a1.2.2.1 then some ((false,()),())
  else
  bif !ByteArray.toList a0.2.2.2.1==ByteArray.toList a1.2.2.2.1 then some ((false,()),())
  else
   (vA a0.2.2.2.2.1 a1.2.2.2.2.1).bind λy =>
   bif !y.1.1 then some ((false,()),())
   else
    bif a0.2.2.2.2.2.1 != a1.2.2.2.2.2.1 then some ((false,()),())
    else
    bif a0.2.2.2.2.2.2.1 != a1.2.2.2.2.2.2.1 then some ((false,()),())
    else
     bif a0.2.2.2.2.2.2.2 != a1.2.2.2.2.2.2.2 then some ((false,()),())
     else some ((true,()),()):=by kernel_rfl
def NN:Env:=Gj.env C B7.1 Tryz.f56
def RN:=Gj.out C
def zk(x0:List ak)(x1:List ak)(x5:Int):Q1 Bool:=aJ NN [1,1,0,1,0] (Tryz.f56.body.getD .skip) RN (vd bS x0::vd bS x1::dd 3 (vi x5::dd 21 ([])))
def AD(a0:List ak)(a1:List ak):Q1 Bool:=Qf.an (a0,a1,())
def aoT:List (Nat×List Nat):=[(1000004,[1,1,0,1,0])]
theorem ZE:okB aoT (Tryz.f56.body.getD .skip) []=true:=by kernel_rfl
theorem Uu(x0:List ak)(x1:List ak)(x5:Int):zk x0 x1 x5 =
 bif decide (x5<(↑x0.length:Int))then
 (ae x0 x5).bind λy =>
 (ae x1 x5).bind λay =>
  (Hl y ay).bind λy =>
  bif !y.1.1 then some ((false,()),())else zk x0 x1 (IntKind.i64.wrap (x5+1))
else some ((true,()),()):=(aO ZE [1,1,0,1,0] (by kernel_rfl) _).trans (by kernel_rfl)
theorem ajz(a0:List ak)(a1:List ak):AD a0 a1 =
 bif (↑a0.length:Int) != (↑a1.length:Int)then some ((false,()),())else zk a0 a1 0:=(Eq.trans (by kernel_rfl:AD a0 a1=az NN (Tryz.f56.body.getD .skip) RN (aS 27 [(bS,Mode.ro),(bS,Mode.ro)] (a0,a1,()))) (all_eq ZE _)).trans (by kernel_rfl)
def NU:Env:=Gr.env C Ce.1 Tryz.f156
def RU:=Gr.out C
def zp(x0:List (List ak))(x1:Int)(x5:Int):Q1 Int:=aJ NU [1,1,1,0,1,0] (Tryz.f156.body.getD .skip) RU (vd oz x0::vi x1::dd 3 (vi x5::dd 21 ([])))
def AL(a0:List (List ak))(a1:Int):Q1 Int:=Qu.an (a0,a1,())
def ao0:List (Nat×List Nat):=[(1000005,[1,1,1,0,1,0])]
theorem ZJ:okB ao0 (Tryz.f156.body.getD .skip) []=true:=by kernel_rfl
theorem Uz(x0:List (List ak))(x1:Int)(x5:Int):zp x0 x1 x5 =
 bif decide (x5<(↑x0.length:Int))then
 (ae x0 x5).bind λy =>
 (vC y x1).bind λy =>
  bif decide (y.1.1<0)then some ((-1,()),())else zp x0 y.1.1 (IntKind.i64.wrap (x5+1))
else some ((x1,()),()):=(aO ZJ [1,1,1,0,1,0] (by kernel_rfl) _).trans (by kernel_rfl)
theorem ajV(a0:List (List ak))(a1:Int):AL a0 a1 =
 bif decide (IntKind.i64.wrap (a1 - (↑a0.length:Int))<0)then some ((-1,()),())
else zp a0 (IntKind.i64.wrap (a1 - (↑a0.length:Int))) 0:=(Eq.trans (by kernel_rfl:AL a0 a1=az NU (Tryz.f156.body.getD .skip) RU (aS 27 [(oz,Mode.ro),(al,Mode.ro)] (a0,a1,()))) (all_eq ZJ _)).trans (by kernel_rfl)
def NW:Env:=Gt.env C Ch.1 Tryz.f157
def RX:=Gt.out C
def zr(x0:List (List Rel))(x1:Int)(x5:Int):Q1 Int:=aJ NW [1,1,1,0,1,0] (Tryz.f157.body.getD .skip) RX (vd oA x0::vi x1::dd 3 (vi x5::dd 21 ([])))
def AN(a0:List (List Rel))(a1:Int):Q1 Int:=Qx.an (a0,a1,())
def ao2:List (Nat×List Nat):=[(1000005,[1,1,1,0,1,0])]
theorem ZL:okB ao2 (Tryz.f157.body.getD .skip) []=true:=by kernel_rfl
theorem UB(x0:List (List Rel))(x1:Int)(x5:Int):zr x0 x1 x5 =
 bif decide (x5<(↑x0.length:Int))then
 (ae x0 x5).bind λy =>
 (vD y x1).bind λy =>
  bif decide (y.1.1<0)then some ((-1,()),())else zr x0 y.1.1 (IntKind.i64.wrap (x5+1))
else some ((x1,()),()):=(aO ZL [1,1,1,0,1,0] (by kernel_rfl) _).trans (by kernel_rfl)
theorem aj1(a0:List (List Rel))(a1:Int):AN a0 a1 =
 bif decide (IntKind.i64.wrap (a1 - (↑a0.length:Int))<0)then some ((-1,()),())
else zr a0 (IntKind.i64.wrap (a1 - (↑a0.length:Int))) 0:=(Eq.trans (by kernel_rfl:AN a0 a1=az NW (Tryz.f157.body.getD .skip) RX (aS 27 [(oA,Mode.ro),(al,Mode.ro)] (a0,a1,()))) (all_eq ZL _)).trans (by kernel_rfl)
def Hq(a0:dn)(a1:Int):Q1 Int:=QA.an (a0,a1,())
theorem akb(a0:dn)(a1:Int):Hq a0 a1 =
 (AL a0.1 a1).bind λy =>
 bif decide (y.1.1<0)then some ((-1,()),())
 else
 (AN a0.2 y.1.1).bind λy =>
  bif decide (y.1.1<0)then some ((-1,()),())else some ((y.1.1,()),()):=by kernel_rfl
def N1:Env:=Gy.env C Cl.1 Tryz.f161
def R2:=Gy.out C
def zx(x0:List (List ak))(x3:List (List ak))(x4:Int):Q1 (List (List ak)):=aJ N1 [1,1,0,1,0] (Tryz.f161.body.getD .skip) R2 (vd oz x0::dd 2 (V.d none (bS.depth+1) (Ty.slice 25 bS) x3::vi x4::dd 18 ([])))
def AS(a0:List (List ak)):Q1 (List (List ak)):=QH.an (a0,())
def ao7:List (Nat×List Nat):=[(1000003,[1,1,0,1,0])]
theorem ZQ:okB ao7 (Tryz.f161.body.getD .skip) []=true:=by kernel_rfl
theorem UG(x0:List (List ak))(x3:List (List ak))(x4:Int):zx x0 x3 x4 =
 bif decide (x4<(↑x0.length:Int))then
 (ae x0 x4).bind λy =>
 (vG y).bind λy =>
  (ae x3 x4).bind λay =>
  (ae x3 x4).bind λbM =>
   (ae x3 x4).bind λcW =>
   (some (x3.set x4.toNat y.1.1)).bind λy=>zx x0 y (IntKind.i64.wrap (x4+1))
else some ((x3,()),()):=(aO ZQ [1,1,0,1,0] (by kernel_rfl) _).trans (by kernel_rfl)
theorem akj(a0:List (List ak)):AS a0 =
 bif
 decide (0<=(↑a0.length:Int))&&decide ((↑a0.length:Int)<=(↑a0.length:Int)) &&
  decide ((↑a0.length:Int)*(↑24:Int)<=140737488355328) &&
  decide ((↑a0.length:Int)<=9223372036854775807)then
 zx a0 (List.replicate a0.length []) 0
else none:=(Eq.trans (by kernel_rfl:AS a0=az N1 (Tryz.f161.body.getD .skip) R2 (aS 23 [(oz,Mode.ro)] (a0,()))) (all_eq ZQ _)).trans (by kernel_rfl)
def N3:Env:=GA.env C Co.1 Tryz.f162
def R4:=GA.out C
def zD(x0:List (List Rel))(x3:List (List Rel))(x4:Int):Q1 (List (List Rel)):=aJ N3 [1,1,0,1,0] (Tryz.f162.body.getD .skip) R4 (vd oA x0::dd 2 (V.d none (a6.depth+1) (Ty.slice 24 a6) x3::vi x4::dd 18 ([])))
def AU(a0:List (List Rel)):Q1 (List (List Rel)):=QK.an (a0,())
def ao9:List (Nat×List Nat):=[(1000003,[1,1,0,1,0])]
theorem ZS:okB ao9 (Tryz.f162.body.getD .skip) []=true:=by kernel_rfl
theorem UI(x0:List (List Rel))(x3:List (List Rel))(x4:Int):zD x0 x3 x4 =
 bif decide (x4<(↑x0.length:Int))then
 (ae x0 x4).bind λy =>
 (vH y).bind λy =>
  (ae x3 x4).bind λay =>
  (ae x3 x4).bind λbM =>
   (ae x3 x4).bind λcW =>
   (some (x3.set x4.toNat y.1.1)).bind λy=>zD x0 y (IntKind.i64.wrap (x4+1))
else some ((x3,()),()):=(aO ZS [1,1,0,1,0] (by kernel_rfl) _).trans (by kernel_rfl)
theorem akp(a0:List (List Rel)):AU a0 =
 bif
 decide (0<=(↑a0.length:Int))&&decide ((↑a0.length:Int)<=(↑a0.length:Int)) &&
  decide ((↑a0.length:Int)*(↑24:Int)<=140737488355328) &&
  decide ((↑a0.length:Int)<=9223372036854775807)then
 zD a0 (List.replicate a0.length []) 0
else none:=(Eq.trans (by kernel_rfl:AU a0=az N3 (Tryz.f162.body.getD .skip) R4 (aS 23 [(oA,Mode.ro)] (a0,()))) (all_eq ZS _)).trans (by kernel_rfl)
def vI(a0:dn):Option ((dn ×
 PUnit) ×
 PUnit):=QN.an (a0,())
theorem akz(a0:dn):vI a0 =
 (AS a0.1).bind λy=>(AU a0.2).bind λay=>some (((y.1.1,ay.1.1),()),()):=by kernel_rfl
def NJ:Env:=Ge.env C BB.1 Tryz.f159
def RJ:=Ge.out C
def zd(x0:List Rel)(x1:List Rel)(x5:Int):Q1 Bool:=aJ NJ [1,0,1,0] (Tryz.f159.body.getD .skip) RJ (vd a6 x0::vd a6 x1::dd 3 (vi x5::dd 41 ([])))
def Ay(a0:List Rel)(a1:List Rel):Q1 Bool:=P6.an (a0,a1,())
def aoO:List (Nat×List Nat):=[(1000002,[1,0,1,0])]
theorem Zz:okB aoO (Tryz.f159.body.getD .skip) []=true:=by kernel_rfl
theorem Um(x0:List Rel)(x1:List Rel)(x5:Int):zd x0 x1 x5 =
 bif decide (x5<(↑x0.length:Int))then
 bif decide (x5<(↑x1.length:Int))then
 (ae x0 x5).bind λy =>
  (ae x1 x5).bind λay =>
  bif !ByteArray.toList y.1==ByteArray.toList ay.1 then some ((false,()),())
  else
   (ae x0 x5).bind λy =>
   (ae x1 x5).bind λbM =>
    bif y.2.1 != bM.2.1 then some ((false,()),())else zd x0 x1 (IntKind.i64.wrap (x5+1))
 else some (((↑x0.length:Int)==(↑x1.length:Int),()),())
else some (((↑x0.length:Int)==(↑x1.length:Int),()),()):=(aO Zz [1,0,1,0] (by kernel_rfl) _).trans (by kernel_rfl)
theorem ajk(a0:List Rel)(a1:List Rel):Ay a0 a1 =
 zd a0 a1 0:=(Eq.trans (by kernel_rfl:Ay a0 a1=az NJ (Tryz.f159.body.getD .skip) RJ (aS 47 [(a6,Mode.ro),(a6,Mode.ro)] (a0,a1,()))) (all_eq Zz _)).trans (by kernel_rfl)
def NK:Env:=Gf.env C BK.1 Tryz.f160
def RK:=Gf.out C
def ze(x0:List Rel)(x1:List (List ak))(x5:Int):Q1 Bool:=aJ NK [1,0,1,0] (Tryz.f160.body.getD .skip) RK (vd a6 x0::vd gF x1::dd 3 (vi x5::dd 23 ([])))
def Az(a0:List Rel)(a1:List (List ak)):Q1 Bool:=P7.an (a0,a1,())
def aoP:List (Nat×List Nat):=[(1000002,[1,0,1,0])]
theorem ZA:okB aoP (Tryz.f160.body.getD .skip) []=true:=by kernel_rfl
theorem Un(x0:List Rel)(x1:List (List ak))(x5:Int):ze x0 x1 x5 =
 bif decide (x5<(↑x1.length:Int))then
 (ae x1 x5).bind λy =>
 (Hb x0 y).bind λy =>
  bif !y.1.2.1 then some ((false,()),())
  else bif !y.1.1 then some ((false,()),())else ze x0 x1 (IntKind.i64.wrap (x5+1))
else some ((true,()),()):=(aO ZA [1,0,1,0] (by kernel_rfl) _).trans (by kernel_rfl)
theorem ajm(a0:List Rel)(a1:List (List ak)):Az a0 a1 =
 ze a0 a1 0:=(Eq.trans (by kernel_rfl:Az a0 a1=az NK (Tryz.f160.body.getD .skip) RK (aS 29 [(a6,Mode.ro),(gF,Mode.ro)] (a0,a1,()))) (all_eq ZA _)).trans (by kernel_rfl)
def Eu:Env:=FU.env C B3.1 Tryz.f58
def EN:=FU.out C
def yV(x1:dn)(x4:Int):Q1 Bool:=aJ Eu [1,1,1,0,1,0] (Tryz.f58.body.getD .skip) EN (V.dead::(V.box none 0 jI x1::dd 2 (vi x4::dd 54 ([]))))
def uQ(x1:dn)(x3:Int):Q1 Bool:=aJ Eu [1,0,1,0] (Tryz.f58.body.getD .skip) EN (V.dead::(V.box none 0 jI x1::V.dead::(vi x3::dd 55 ([]))))
def Ak(a0:dn):Q1 Bool:=Px.an (a0,())
def aou:List (Nat×List Nat):=[(1000002,[1,0,1,0]),(1000009,[1,1,1,0,1,0])]
theorem KW:okB aou (Tryz.f58.body.getD .skip) []=true:=by kernel_rfl
theorem TD(x1:dn)(x4:Int):yV x1 x4 =
 bif decide (x4<(↑(List.length x1.2):Int))then
 (ae x1.2 x4).bind λy =>
 (Az y x1.1).bind λy =>
  bif !y.1.1 then some ((false,()),())else yV x1 (IntKind.i64.wrap (x4+1))
else some ((true,()),()):=(aO KW [1,1,1,0,1,0] (by kernel_rfl) _).trans (by kernel_rfl)
theorem TC(x1:dn)(x3:Int):uQ x1 x3 =
 bif decide (x3<(↑(List.length x1.2):Int))then
 (ae x1.2 x3).bind λy =>
 (vn y).bind λy =>
  bif !y.1.1 then some ((false,()),())
  else
  (ae x1.2 0).bind λy =>
   (ae x1.2 x3).bind λay =>
   (Ay y ay).bind λy =>
    bif !y.1.1 then some ((false,()),())else uQ x1 (IntKind.i64.wrap (x3+1))
else
 (gJ (↑(List.length x1.2):Int) 1 10).bind λy =>
 bif !y.1.1 then some ((false,()),())
 else bif decide ((↑(List.length x1.1):Int)>4)then some ((false,()),())else yV x1 0:=(aO KW [1,0,1,0] (by kernel_rfl) _).trans (by kernel_rfl)
theorem aiB(a0:dn):Ak a0 =
 uQ a0 0:=(Eq.trans (by kernel_rfl:Ak a0=az Eu (Tryz.f58.body.getD .skip) EN (aS 59 [(jI,Mode.ro)] (a0,()))) (all_eq KW _)).trans (by kernel_rfl)
def Nj:Env:=FE.env C A6.1 Tryz.f164
def Rk:=FE.out C
def yO(x0:List Rel)(x1:List Rel)(cL:Int)(er:Int):Q1 Bool:=aJ Nj [1,1,0,1,0] (Tryz.f164.body.getD .skip) Rk (vd a6 x0::vd a6 x1::dd 10 (vi cL::vi er::dd 27 ([])))
def Ad(a0:List Rel)(a1:List Rel):Q1 Bool:=Pc.an (a0,a1,())
def aog:List (Nat×List Nat):=[(1000004,[1,1,0,1,0])]
theorem Zb:okB aog (Tryz.f164.body.getD .skip) []=true:=by kernel_rfl
theorem S7(x0:List Rel)(x1:List Rel)(cL:Int)(er:Int):yO x0 x1 cL er =
 bif decide (er<cL)then
 (ae x0 er).bind λy =>
 (ae x1 er).bind λay =>
  bif !ByteArray.toList y.1==ByteArray.toList ay.1 then some ((false,()),())
  else
  (ae x0 er).bind λy =>
   (ae x1 er).bind λbM =>
   bif y.2.1 != bM.2.1 then some ((false,()),())
   else yO x0 x1 cL (IntKind.i64.wrap (er+1))
else some ((true,()),()):=(aO Zb [1,1,0,1,0] (by kernel_rfl) _).trans (by kernel_rfl)
theorem aia(a0:List Rel)(a1:List Rel):Ad a0 a1 =
 bif (↑a0.length:Int) != (↑a1.length:Int)then some ((false,()),())else yO a0 a1 (↑a0.length:Int) 0:=(Eq.trans (by kernel_rfl:Ad a0 a1=az Nj (Tryz.f164.body.getD .skip) Rk (aS 41 [(a6,Mode.ro),(a6,Mode.ro)] (a0,a1,()))) (all_eq Zb _)).trans (by kernel_rfl)
def M6:Env:=Fp.env C Bc.1 Tryz.f165
def Q7:=Fp.out C
def yH(x0:List Rel)(x1:List (List ak))(x9:List (List ak))(a8:Int)(cn:Int):Q1 Bool:=aJ M6 [1,0,1,0] (Tryz.f165.body.getD .skip) Q7 (vd a6 x0::vd gF x1::dd 7 (vd gF x9::vi a8::vi cn::dd 16 ([])))
def zY(a0:List Rel)(a1:List (List ak)):Q1 Bool:=OH.an (a0,a1,())
def an1:List (Nat×List Nat):=[(1000002,[1,0,1,0])]
theorem YZ:okB an1 (Tryz.f165.body.getD .skip) []=true:=by kernel_rfl
theorem SB(x0:List Rel)(x1:List (List ak))(x9:List (List ak))(a8:Int)(cn:Int):yH x0 x1 x9 a8 cn =
 bif decide (cn<a8)then
 (ae x9 cn).bind λy =>
 (GN x0 y).bind λy =>
  bif !y.1.1 then some ((false,()),())
  else bif !y.1.2.1 then some ((false,()),())else yH x0 x1 x9 a8 (IntKind.i64.wrap (cn+1))
else some ((true,()),()):=(aO YZ [1,0,1,0] (by kernel_rfl) _).trans (by kernel_rfl)
theorem ahz(a0:List Rel)(a1:List (List ak)):zY a0 a1 =
 yH a0 a1 a1 (↑a1.length:Int) 0:=(Eq.trans (by kernel_rfl:zY a0 a1=az M6 (Tryz.f165.body.getD .skip) Q7 (aS 28 [(a6,Mode.ro),(gF,Mode.ro)] (a0,a1,()))) (all_eq YZ _)).trans (by kernel_rfl)
def M1:Env:=Fi.env C Bg.1 Tryz.f60
def Q3:=Fi.out C
def yD(x1:dn)(cE:List (List Rel))(lP:Int)(eu:Int):Q1 Bool:=aJ M1 [1,1,0,1,0] (Tryz.f60.body.getD .skip) Q3 (V.dead::(V.box none 0 jI x1::dd 20 (V.d none 0 (Ty.slice 24 a6) cE::vi lP::vi eu::dd 23 ([]))))
def zU(a0:dn):Q1 Bool:=Ot.an (a0,())
def anV:List (Nat×List Nat):=[(1000004,[1,1,0,1,0])]
theorem YV:okB anV (Tryz.f60.body.getD .skip) []=true:=by kernel_rfl
theorem Sp(x1:dn)(cE:List (List Rel))(lP:Int)(eu:Int):yD x1 cE lP eu =
 bif decide (eu<lP)then
 (ae cE eu).bind λy =>
 (u7 y).bind λay =>
  bif !ay.1.1 then some ((false,()),())
  else
  (ae x1.2 0).bind λbM =>
   (Ad y bM).bind λcW =>
   bif !cW.1.1 then some ((false,()),())
   else
    (zY y x1.1).bind λy =>
    bif !y.1.1 then some ((false,()),())else yD x1 cE lP (IntKind.i64.wrap (eu+1))
else some ((true,()),()):=(aO YV [1,1,0,1,0] (by kernel_rfl) _).trans (by kernel_rfl)
theorem ahf(a0:dn):zU a0 =
 bif decide ((↑(List.length a0.2):Int)<1)then some ((false,()),())
else
 bif decide ((↑(List.length a0.2):Int)>10)then some ((false,()),())
 else
 bif decide ((↑(List.length a0.1):Int)>4)then some ((false,()),())
 else yD a0 a0.2 (↑(List.length a0.2):Int) 0:=(Eq.trans (by kernel_rfl:zU a0=az M1 (Tryz.f60.body.getD .skip) Q3 (aS 48 [(jI,Mode.ro)] (a0,()))) (all_eq YV _)).trans (by kernel_rfl)
def NO:Env:=Gk.env C B8.1 Tryz.f166
def RO:=Gk.out C
def zj(x0:List (List ak))(x1:List (List ak))(x5:Int):Q1 Bool:=aJ NO [1,1,0,1,0] (Tryz.f166.body.getD .skip) RO (vd gF x0::vd gF x1::dd 3 (vi x5::dd 21 ([])))
def AE(a0:List (List ak))(a1:List (List ak)):Q1 Bool:=Qg.an (a0,a1,())
def aoU:List (Nat×List Nat):=[(1000004,[1,1,0,1,0])]
theorem ZD:okB aoU (Tryz.f166.body.getD .skip) []=true:=by kernel_rfl
theorem Ut(x0:List (List ak))(x1:List (List ak))(x5:Int):zj x0 x1 x5 =
 bif decide (x5<(↑x0.length:Int))then
 (ae x0 x5).bind λy =>
 (ae x1 x5).bind λay =>
  (AD y ay).bind λy =>
  bif !y.1.1 then some ((false,()),())else zj x0 x1 (IntKind.i64.wrap (x5+1))
else some ((true,()),()):=(aO ZD [1,1,0,1,0] (by kernel_rfl) _).trans (by kernel_rfl)
theorem ajx(a0:List (List ak))(a1:List (List ak)):AE a0 a1 =
 bif (↑a0.length:Int) != (↑a1.length:Int)then some ((false,()),())else zj a0 a1 0:=(Eq.trans (by kernel_rfl:AE a0 a1=az NO (Tryz.f166.body.getD .skip) RO (aS 27 [(gF,Mode.ro),(gF,Mode.ro)] (a0,a1,()))) (all_eq ZD _)).trans (by kernel_rfl)
def NQ:Env:=Gm.env C Cb.1 Tryz.f167
def RQ:=Gm.out C
def zl(x0:List (List Rel))(x1:List (List Rel))(x5:Int):Q1 Bool:=aJ NQ [1,1,0,1,0] (Tryz.f167.body.getD .skip) RQ (vd mT x0::vd mT x1::dd 3 (vi x5::dd 21 ([])))
def AG(a0:List (List Rel))(a1:List (List Rel)):Q1 Bool:=Qj.an (a0,a1,())
def aoW:List (Nat×List Nat):=[(1000004,[1,1,0,1,0])]
theorem ZF:okB aoW (Tryz.f167.body.getD .skip) []=true:=by kernel_rfl
theorem Uv(x0:List (List Rel))(x1:List (List Rel))(x5:Int):zl x0 x1 x5 =
 bif decide (x5<(↑x0.length:Int))then
 (ae x0 x5).bind λy =>
 (ae x1 x5).bind λay =>
  (AF y ay).bind λy =>
  bif !y.1.1 then some ((false,()),())else zl x0 x1 (IntKind.i64.wrap (x5+1))
else some ((true,()),()):=(aO ZF [1,1,0,1,0] (by kernel_rfl) _).trans (by kernel_rfl)
theorem ajD(a0:List (List Rel))(a1:List (List Rel)):AG a0 a1 =
 bif (↑a0.length:Int) != (↑a1.length:Int)then some ((false,()),())else zl a0 a1 0:=(Eq.trans (by kernel_rfl:AG a0 a1=az NQ (Tryz.f167.body.getD .skip) RQ (aS 27 [(mT,Mode.ro),(mT,Mode.ro)] (a0,a1,()))) (all_eq ZF _)).trans (by kernel_rfl)
def Ho(a0:dn)(a1:dn):Q1 Bool:=Qm.an (a0,a1,())
theorem ajN(a0:dn)(a1:dn):Ho a0 a1 =
 (AE a0.1 a1.1).bind λy =>
 bif !y.1.1 then some ((false,()),())
 else
 (AG a0.2 a1.2).bind λy=>bif !y.1.1 then some ((false,()),())else some ((true,()),()):=by kernel_rfl
def Hj(a0:dn):Q1 Bool:=ED.an (a0,())
theorem ajq(a0:dn):Hj a0 =
 (Hq a0 1048576).bind λy =>
 bif decide (y.1.1<0)then some ((true,()),())
 else
 (vI a0).bind λy =>
  (Ak y.1.1).bind λy =>
  (vI a0).bind λay =>
   (zU ay.1.1).bind λbM =>
   bif !bM.1.1==y.1.1 then some ((false,()),())
   else
    (vI a0).bind λy =>
    (Ho ay.1.1 y.1.1).bind λy =>
     bif !y.1.1 then some ((false,()),())else some ((true,()),()):=by kernel_rfl
end
end Go.Proofs.YtbhogmdpmkpinaaGreat.P.It
