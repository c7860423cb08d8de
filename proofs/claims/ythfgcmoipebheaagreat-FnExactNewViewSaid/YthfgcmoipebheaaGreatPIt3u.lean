/- A part of the proof: It3u. No conditions. -/
import Derived.Test.YthfgcmoipebheaaGreatPIt2u
import Derived.Test.YthfgcmoipebheaaGreatPG8
import Derived.Test.YthfgcmoipebheaaGreatChecked
import Derived.KernelRfl
set_option linter.unusedVariables false
set_option maxRecDepth 100000
namespace Go.Proofs.YthfgcmoipebheaaGreat.P.It
open Am
noncomputable section
def Aa(a0:List Int)(a1:Int):Option ((Int×PUnit)×PUnit):=OY.ao (a0,a1,())
theorem ago(a0:List Int)(a1:Int):Aa a0 a1 =
 bif decide (IntKind.i64.wrap (a1 - (↑a0.length:Int))<0)then some ((-1,()),())
else some ((IntKind.i64.wrap (a1 - (↑a0.length:Int)),()),()):=by kernel_rfl
def uC(a0:aa)(a1:Int):Option ((Int×PUnit)×PUnit):=OV.ao (a0,a1,())
theorem agl(a0:aa)(a1:Int):uC a0 a1 =
 (Aa a0.fst a1).bind λy=>bif decide (y.fst.fst<0)then some ((-1,()),())else some ((y.fst.fst,()),()):=by kernel_rfl
def MC:Env:=FG.env C BG.1 Tryz.f145
def Qi:=FG.out C
def yE(x0:List aa)(x1:Int)(x5:Int):Option ((Int×PUnit)×PUnit):=aL MC [1,1,1,0,1,0] (Tryz.f145.body.getD .skip) Qi (V.d none 0 nG x0::V.d none 0 (Ty.int IntKind.i64) x1::dd 3 (V.d none 0 (Ty.int IntKind.i64) x5::dd 21 ([])))
def z8(a0:List aa)(a1:Int):Option ((Int×PUnit)×PUnit):=OW.ao (a0,a1,())
def ak7:List (Nat×List Nat):=[(1000005,[1,1,1,0,1,0])]
theorem Xf:okB ak7 (Tryz.f145.body.getD .skip) []=true:=by kernel_rfl
theorem Sb(x0:List aa)(x1:Int)(x5:Int):yE x0 x1 x5 =
 bif decide (x5<(↑x0.length:Int))then
 (ab x0 x5).bind λy =>
 (uC y x1).bind λy =>
  bif decide (y.fst.fst<0)then some ((-1,()),())else yE x0 y.fst.fst (IntKind.i64.wrap (x5+1))
else some ((x1,()),()):=(aP Xf [1,1,1,0,1,0] (by kernel_rfl) _).trans (by kernel_rfl)
theorem agj(a0:List aa)(a1:Int):z8 a0 a1 =
 bif decide (IntKind.i64.wrap (a1 - (↑a0.length:Int))<0)then some ((-1,()),())
else yE a0 (IntKind.i64.wrap (a1 - (↑a0.length:Int))) 0:=(Eq.trans (by kernel_rfl:z8 a0 a1=ax MC (Tryz.f145.body.getD .skip) Qi (aU 27 [(nG,Mode.ro),(ak,Mode.ro)] (a0,a1,()))) (all_eq Xf _)).trans (by kernel_rfl)
def Gr(a0:Int×List aa)(a1:Int):Option ((Int×PUnit)×PUnit):=OX.ao (a0,a1,())
theorem agm(a0:Int×List aa)(a1:Int):Gr a0 a1 =
 (z8 a0.snd a1).bind λy=>bif decide (y.fst.fst<0)then some ((-1,()),())else some ((y.fst.fst,()),()):=by kernel_rfl
def Af(a0:ByteArray×Int×List aa)(a1:Int):Option ((Int×PUnit)×PUnit):=O3.ao (a0,a1,())
theorem agz(a0:ByteArray×Int×List aa)(a1:Int):Af a0 a1 =
 bif decide (IntKind.i64.wrap (a1 - (↑(ByteArray.size a0.fst):Int))<0)then some ((-1,()),())
else
 (Gr a0.snd (IntKind.i64.wrap (a1 - (↑(ByteArray.size a0.fst):Int)))).bind λy =>
 bif decide (y.fst.fst<0)then some ((-1,()),())else some ((y.fst.fst,()),()):=by kernel_rfl
def MG:Env:=FJ.env C BK.1 Tryz.f64
def Ql:=FJ.out C
def yH(x0:List Rw)(x1:Int)(x5:Int):Option ((Int×PUnit)×PUnit):=aL MG [1,1,1,0,1,0] (Tryz.f64.body.getD .skip) Ql (V.d none 0 nH x0::V.d none 0 (Ty.int IntKind.i64) x1::dd 3 (V.d none 0 (Ty.int IntKind.i64) x5::dd 21 ([])))
def Ag(a0:List Rw)(a1:Int):Option ((Int×PUnit)×PUnit):=O4.ao (a0,a1,())
def ala:List (Nat×List Nat):=[(1000005,[1,1,1,0,1,0])]
theorem Xi:okB ala (Tryz.f64.body.getD .skip) []=true:=by kernel_rfl
theorem Se(x0:List Rw)(x1:Int)(x5:Int):yH x0 x1 x5 =
 bif decide (x5<(↑x0.length:Int))then
 (ab x0 x5).bind λy =>
 (Af y x1).bind λy =>
  bif decide (y.fst.fst<0)then some ((-1,()),())else yH x0 y.fst.fst (IntKind.i64.wrap (x5+1))
else some ((x1,()),()):=(aP Xi [1,1,1,0,1,0] (by kernel_rfl) _).trans (by kernel_rfl)
theorem agx(a0:List Rw)(a1:Int):Ag a0 a1 =
 bif decide (IntKind.i64.wrap (a1 - (↑a0.length:Int))<0)then some ((-1,()),())
else yH a0 (IntKind.i64.wrap (a1 - (↑a0.length:Int))) 0:=(Eq.trans (by kernel_rfl:Ag a0 a1=ax MG (Tryz.f64.body.getD .skip) Ql (aU 27 [(nH,Mode.ro),(ak,Mode.ro)] (a0,a1,()))) (all_eq Xi _)).trans (by kernel_rfl)
def Ad(a0:ByteArray×Int×List Rw)(a1:Int):Option ((Int×PUnit)×PUnit):=O1.ao (a0,a1,())
theorem agv(a0:ByteArray×Int×List Rw)(a1:Int):Ad a0 a1 =
 bif decide (IntKind.i64.wrap (a1 - (↑(ByteArray.size a0.fst):Int))<0)then some ((-1,()),())
else
 (Ag a0.snd.snd (IntKind.i64.wrap (a1 - (↑(ByteArray.size a0.fst):Int)))).bind λy =>
 bif decide (y.fst.fst<0)then some ((-1,()),())else some ((y.fst.fst,()),()):=by kernel_rfl
def ME:Env:=FI.env C BJ.1 Tryz.f6
def Qk:=FI.out C
def yG(x0:List Rel)(x1:Int)(x5:Int):Option ((Int×PUnit)×PUnit):=aL ME [1,1,1,0,1,0] (Tryz.f6.body.getD .skip) Qk (V.d none 0 jf x0::V.d none 0 (Ty.int IntKind.i64) x1::dd 3 (V.d none 0 (Ty.int IntKind.i64) x5::dd 21 ([])))
def Ae(a0:List Rel)(a1:Int):Option ((Int×PUnit)×PUnit):=O2.ao (a0,a1,())
def ak9:List (Nat×List Nat):=[(1000005,[1,1,1,0,1,0])]
theorem Xh:okB ak9 (Tryz.f6.body.getD .skip) []=true:=by kernel_rfl
theorem Sd(x0:List Rel)(x1:Int)(x5:Int):yG x0 x1 x5 =
 bif decide (x5<(↑x0.length:Int))then
 (ab x0 x5).bind λy =>
 (Ad y x1).bind λy =>
  bif decide (y.fst.fst<0)then some ((-1,()),())else yG x0 y.fst.fst (IntKind.i64.wrap (x5+1))
else some ((x1,()),()):=(aP Xh [1,1,1,0,1,0] (by kernel_rfl) _).trans (by kernel_rfl)
theorem agt(a0:List Rel)(a1:Int):Ae a0 a1 =
 bif decide (IntKind.i64.wrap (a1 - (↑a0.length:Int))<0)then some ((-1,()),())
else yG a0 (IntKind.i64.wrap (a1 - (↑a0.length:Int))) 0:=(Eq.trans (by kernel_rfl:Ae a0 a1=ax ME (Tryz.f6.body.getD .skip) Qk (aU 27 [(jf,Mode.ro),(ak,Mode.ro)] (a0,a1,()))) (all_eq Xh _)).trans (by kernel_rfl)
def Ab(a0:Int×aa×ByteArray×ByteArray×List Int×Int×Int×Int)(a1:Int):Option ((Int×PUnit)×PUnit):=OZ.ao (a0,a1,())
theorem agr(a0:Int×aa×ByteArray×ByteArray×List Int×Int×Int×Int)(a1:Int):Ab a0 a1 =
 (uC a0.snd.fst a1).bind λy =>
 bif decide (y.fst.fst<0)then some ((-1,()),())
 else
 bif decide (IntKind.i64.wrap (y.fst.fst - (↑(ByteArray.size a0.snd.snd.fst):Int))<0)then some ((-1,()),())
 else
  bif
   decide
   (IntKind.i64.wrap
    (IntKind.i64.wrap (y.fst.fst - (↑(ByteArray.size a0.snd.snd.fst):Int)) -
     (↑(ByteArray.size a0.snd.snd.snd.fst):Int)) <
    0)then
  some ((-1,()),())
  else
  (Aa a0.snd.snd.snd.snd.fst
    (IntKind.i64.wrap
    (IntKind.i64.wrap (y.fst.fst - (↑(ByteArray.size a0.snd.snd.fst):Int)) -
     (↑(ByteArray.size a0.snd.snd.snd.fst):Int)))).bind
   λy=>bif decide (y.fst.fst<0)then some ((-1,()),())else some ((y.fst.fst,()),()):=by kernel_rfl
def MD:Env:=FH.env C BH.1 Tryz.f7
def Qj:=FH.out C
def yF(x0:List al)(x1:Int)(x5:Int):Option ((Int×PUnit)×PUnit):=aL MD [1,1,1,0,1,0] (Tryz.f7.body.getD .skip) Qj (V.d none 0 gS x0::V.d none 0 (Ty.int IntKind.i64) x1::dd 3 (V.d none 0 (Ty.int IntKind.i64) x5::dd 21 ([])))
def Ac(a0:List al)(a1:Int):Option ((Int×PUnit)×PUnit):=O0.ao (a0,a1,())
def ak8:List (Nat×List Nat):=[(1000005,[1,1,1,0,1,0])]
theorem Xg:okB ak8 (Tryz.f7.body.getD .skip) []=true:=by kernel_rfl
theorem Sc(x0:List al)(x1:Int)(x5:Int):yF x0 x1 x5 =
 bif decide (x5<(↑x0.length:Int))then
 (ab x0 x5).bind λy =>
 (Ab y x1).bind λy =>
  bif decide (y.fst.fst<0)then some ((-1,()),())else yF x0 y.fst.fst (IntKind.i64.wrap (x5+1))
else some ((x1,()),()):=(aP Xg [1,1,1,0,1,0] (by kernel_rfl) _).trans (by kernel_rfl)
theorem agp(a0:List al)(a1:Int):Ac a0 a1 =
 bif decide (IntKind.i64.wrap (a1 - (↑a0.length:Int))<0)then some ((-1,()),())
else yF a0 (IntKind.i64.wrap (a1 - (↑a0.length:Int))) 0:=(Eq.trans (by kernel_rfl:Ac a0 a1=ax MD (Tryz.f7.body.getD .skip) Qj (aU 27 [(gS,Mode.ro),(ak,Mode.ro)] (a0,a1,()))) (all_eq Xg _)).trans (by kernel_rfl)
def MI:Env:=FL.env C BI.1 Tryz.f76
def Qn:=FL.out C
def yJ(x0:List Int)(x3:List Int)(x4:Int):Option ((List Int×PUnit)×PUnit):=aL MI [1,1,0,1,0] (Tryz.f76.body.getD .skip) Qn (V.d none 0 ba x0::dd 2 (V.d none (ak.depth+1) (Ty.slice 3 ak) x3::V.d none 0 (Ty.int IntKind.i64) x4::dd 17 ([])))
def uE(a0:List Int):Option ((List Int×PUnit)×PUnit):=O8.ao (a0,())
def alc:List (Nat×List Nat):=[(1000003,[1,1,0,1,0])]
theorem Xk:okB alc (Tryz.f76.body.getD .skip) []=true:=by kernel_rfl
theorem Sg(x0:List Int)(x3:List Int)(x4:Int):yJ x0 x3 x4 =
 bif decide (x4<(↑x0.length:Int))then
 (ab x0 x4).bind λy =>
 (ab x3 x4).bind λaw =>
  (ab x3 x4).bind λa7 =>
  (ab x3 x4).bind λbG=>(some (x3.set x4.toNat y)).bind λy=>yJ x0 y (IntKind.i64.wrap (x4+1))
else some ((x3,()),()):=(aP Xk [1,1,0,1,0] (by kernel_rfl) _).trans (by kernel_rfl)
theorem agG(a0:List Int):uE a0 =
 bif
 decide (0<=(↑a0.length:Int))&&decide ((↑a0.length:Int)<=(↑a0.length:Int)) &&
  decide ((↑a0.length:Int)*(↑8:Int)<=140737488355328) &&
  decide ((↑a0.length:Int)<=9223372036854775807)then
 yJ a0 (List.replicate a0.length (0:Int)) 0
else none:=(Eq.trans (by kernel_rfl:uE a0=ax MI (Tryz.f76.body.getD .skip) Qn (aU 22 [(ba,Mode.ro)] (a0,()))) (all_eq Xk _)).trans (by kernel_rfl)
def uD(a0:aa):Option ((aa×PUnit)×PUnit):=O5.ao (a0,())
theorem agD(a0:aa):uD a0 =
 (uE a0.fst).bind λy=>some (((y.fst.fst,a0.snd.fst,a0.snd.snd),()),()):=by kernel_rfl
def MH:Env:=FK.env C BL.1 Tryz.f147
def Qm:=FK.out C
def yI(x0:List aa)(x3:List aa)(x4:Int):Option ((List aa×PUnit)×PUnit):=aL MH [1,1,0,1,0] (Tryz.f147.body.getD .skip) Qm (V.d none 0 nG x0::dd 2 (V.d none (aH.depth+1) (Ty.slice 66 aH) x3::V.d none 0 (Ty.int IntKind.i64) x4::dd 18 ([])))
def Ah(a0:List aa):Option ((List aa×PUnit)×PUnit):=O6.ao (a0,())
def alb:List (Nat×List Nat):=[(1000003,[1,1,0,1,0])]
theorem Xj:okB alb (Tryz.f147.body.getD .skip) []=true:=by kernel_rfl
theorem Sf(x0:List aa)(x3:List aa)(x4:Int):yI x0 x3 x4 =
 bif decide (x4<(↑x0.length:Int))then
 (ab x0 x4).bind λy =>
 (uD y).bind λy =>
  (ab x3 x4).bind λaw =>
  (ab x3 x4).bind λa7 =>
   (ab x3 x4).bind λbG =>
   (some (x3.set x4.toNat y.fst.fst)).bind λy=>yI x0 y (IntKind.i64.wrap (x4+1))
else some ((x3,()),()):=(aP Xj [1,1,0,1,0] (by kernel_rfl) _).trans (by kernel_rfl)
theorem agB(a0:List aa):Ah a0 =
 bif
 decide (0<=(↑a0.length:Int))&&decide ((↑a0.length:Int)<=(↑a0.length:Int)) &&
  decide ((↑a0.length:Int)*(↑40:Int)<=140737488355328) &&
  decide ((↑a0.length:Int)<=9223372036854775807)then
 yI a0 (List.replicate a0.length ([],0,false)) 0
else none:=(Eq.trans (by kernel_rfl:Ah a0=ax MH (Tryz.f147.body.getD .skip) Qm (aU 23 [(nG,Mode.ro)] (a0,()))) (all_eq Xj _)).trans (by kernel_rfl)
def Gs(a0:Int×List aa):Option ((aB×PUnit)×PUnit):=O7.ao (a0,())
theorem agE(a0:Int×List aa):Gs a0 =
 (Ah a0.snd).bind λy=>some (((a0.fst,y.fst.fst),()),()):=by kernel_rfl
def Ak(a0:ByteArray×Int×List aa):Option ((Rw×PUnit)×PUnit):=Pd.ao (a0,())
theorem agR(a0:ByteArray×Int×List aa):Ak a0 =
 (Gs a0.snd).bind λy=>some (((a0.fst,y.fst.fst),()),()):=by kernel_rfl
def ML:Env:=FO.env C BO.1 Tryz.f74
def Qq:=FO.out C
def yM(x0:List Rw)(x3:List Rw)(x4:Int):Option ((List Rw×PUnit)×PUnit):=aL ML [1,1,0,1,0] (Tryz.f74.body.getD .skip) Qq (V.d none 0 nH x0::dd 2 (V.d none (nF.depth+1) (Ty.slice 105 nF) x3::V.d none 0 (Ty.int IntKind.i64) x4::dd 18 ([])))
def Al(a0:List Rw):Option ((List Rw×PUnit)×PUnit):=Pe.ao (a0,())
def alf:List (Nat×List Nat):=[(1000003,[1,1,0,1,0])]
theorem Xn:okB alf (Tryz.f74.body.getD .skip) []=true:=by kernel_rfl
theorem Sj(x0:List Rw)(x3:List Rw)(x4:Int):yM x0 x3 x4 =
 bif decide (x4<(↑x0.length:Int))then
 (ab x0 x4).bind λy =>
 (Ak y).bind λy =>
  (ab x3 x4).bind λaw =>
  (ab x3 x4).bind λa7 =>
   (ab x3 x4).bind λbG =>
   (some (x3.set x4.toNat y.fst.fst)).bind λy=>yM x0 y (IntKind.i64.wrap (x4+1))
else some ((x3,()),()):=(aP Xn [1,1,0,1,0] (by kernel_rfl) _).trans (by kernel_rfl)
theorem agP(a0:List Rw):Al a0 =
 bif
 decide (0<=(↑a0.length:Int))&&decide ((↑a0.length:Int)<=(↑a0.length:Int)) &&
  decide ((↑a0.length:Int)*(↑48:Int)<=140737488355328) &&
  decide ((↑a0.length:Int)<=9223372036854775807)then
 yM a0 (List.replicate a0.length (ByteArray.empty,0,[])) 0
else none:=(Eq.trans (by kernel_rfl:Al a0=ax ML (Tryz.f74.body.getD .skip) Qq (aU 23 [(nH,Mode.ro)] (a0,()))) (all_eq Xn _)).trans (by kernel_rfl)
def Aj(a0:ByteArray×Int×List Rw):Option ((Rel×PUnit)×PUnit):=Pb.ao (a0,())
theorem agN(a0:ByteArray×Int×List Rw):Aj a0 =
 (Al a0.snd.snd).bind λy=>some (((a0.fst,a0.snd.fst,y.fst.fst),()),()):=by kernel_rfl
def MK:Env:=FN.env C BN.1 Tryz.f9
def Qp:=FN.out C
def yL(x0:List Rel)(x3:List Rel)(x4:Int):Option ((List Rel×PUnit)×PUnit):=aL MK [1,1,0,1,0] (Tryz.f9.body.getD .skip) Qp (V.d none 0 jf x0::dd 2 (V.d none (ji.depth+1) (Ty.slice 72 ji) x3::V.d none 0 (Ty.int IntKind.i64) x4::dd 18 ([])))
def oX(a0:List Rel):Option ((List Rel×PUnit)×PUnit):=Pc.ao (a0,())
def ale:List (Nat×List Nat):=[(1000003,[1,1,0,1,0])]
theorem Xm:okB ale (Tryz.f9.body.getD .skip) []=true:=by kernel_rfl
theorem Si(x0:List Rel)(x3:List Rel)(x4:Int):yL x0 x3 x4 =
 bif decide (x4<(↑x0.length:Int))then
 (ab x0 x4).bind λy =>
 (Aj y).bind λy =>
  (ab x3 x4).bind λaw =>
  (ab x3 x4).bind λa7 =>
   (ab x3 x4).bind λbG =>
   (some (x3.set x4.toNat y.fst.fst)).bind λy=>yL x0 y (IntKind.i64.wrap (x4+1))
else some ((x3,()),()):=(aP Xm [1,1,0,1,0] (by kernel_rfl) _).trans (by kernel_rfl)
theorem agL(a0:List Rel):oX a0 =
 bif
 decide (0<=(↑a0.length:Int))&&decide ((↑a0.length:Int)<=(↑a0.length:Int)) &&
  decide ((↑a0.length:Int)*(↑48:Int)<=140737488355328) &&
  decide ((↑a0.length:Int)<=9223372036854775807)then
 yL a0 (List.replicate a0.length (ByteArray.empty,0,[])) 0
else none:=(Eq.trans (by kernel_rfl:oX a0=ax MK (Tryz.f9.body.getD .skip) Qp (aU 23 [(jf,Mode.ro)] (a0,()))) (all_eq Xm _)).trans (by kernel_rfl)
def Ai(a0:Int×aa×ByteArray×ByteArray×List Int×Int×Int×Int):Option ((al×PUnit)×PUnit):=O9.ao (a0,())
theorem agJ(a0:Int×aa×ByteArray×ByteArray×List Int×Int×Int×Int):Ai a0 =
 (uD a0.snd.fst).bind λy =>
 (uE a0.snd.snd.snd.snd.fst).bind λaw =>
 some
  (((a0.fst,y.fst.fst,a0.snd.snd.fst,a0.snd.snd.snd.fst,aw.fst.fst,a0.snd.snd.snd.snd.snd.fst,
   a0.snd.snd.snd.snd.snd.snd.fst,a0.snd.snd.snd.snd.snd.snd.snd),
   ()),
  ()):=by kernel_rfl
def MJ:Env:=FM.env C BM.1 Tryz.f10
def Qo:=FM.out C
def yK(x0:List al)(x3:List al)(x4:Int):Option ((List al×PUnit)×PUnit):=aL MJ [1,1,0,1,0] (Tryz.f10.body.getD .skip) Qo (V.d none 0 gS x0::dd 2 (V.d none (cM.depth+1) (Ty.slice 68 cM) x3::V.d none 0 (Ty.int IntKind.i64) x4::dd 18 ([])))
def oW(a0:List al):Option ((List al×PUnit)×PUnit):=Pa.ao (a0,())
def ald:List (Nat×List Nat):=[(1000003,[1,1,0,1,0])]
theorem Xl:okB ald (Tryz.f10.body.getD .skip) []=true:=by kernel_rfl
theorem Sh(x0:List al)(x3:List al)(x4:Int):yK x0 x3 x4 =
 bif decide (x4<(↑x0.length:Int))then
 (ab x0 x4).bind λy =>
 (Ai y).bind λy =>
  (ab x3 x4).bind λaw =>
  (ab x3 x4).bind λa7 =>
   (ab x3 x4).bind λbG =>
   (some (x3.set x4.toNat y.fst.fst)).bind λy=>yK x0 y (IntKind.i64.wrap (x4+1))
else some ((x3,()),()):=(aP Xl [1,1,0,1,0] (by kernel_rfl) _).trans (by kernel_rfl)
theorem agH(a0:List al):oW a0 =
 bif
 decide (0<=(↑a0.length:Int))&&decide ((↑a0.length:Int)<=(↑a0.length:Int)) &&
  decide ((↑a0.length:Int)*(↑128:Int)<=140737488355328) &&
  decide ((↑a0.length:Int)<=9223372036854775807)then
 yK a0 (List.replicate a0.length (0,([],0,false),ByteArray.empty,ByteArray.empty,[],0,0,0)) 0
else none:=(Eq.trans (by kernel_rfl:oW a0=ax MJ (Tryz.f10.body.getD .skip) Qo (aU 23 [(gS,Mode.ro)] (a0,()))) (all_eq Xl _)).trans (by kernel_rfl)
def iG(a0:Int)(a1:Int)(a2:Int):Option ((Bool×PUnit)×PUnit):=N3.ao (a0,a1,a2,())
theorem ae3(a0:Int)(a1:Int)(a2:Int):iG a0 a1 a2 =
 bif decide (a0>=a1)then some ((decide (a0<=a2),()),())else some ((false,()),()):=by kernel_rfl
def Mh:Env:=Fi.env C A7.1 Tryz.f123
def PX:=Fi.out C
def tX(x0:ByteArray)(x1:Int)(x2:Int)(x7:Int):Option ((Bool×PUnit)×PUnit):=aL Mh [1,0,1,0] (Tryz.f123.body.getD .skip) PX (V.d none 0 cV x0::V.d none 0 iC x1::V.d none 0 iC x2::dd 4 (V.d none 0 (Ty.int IntKind.i64) x7::dd 21 ([])))
def ru(a0:ByteArray)(a1:Int)(a2:Int):Option ((Bool×PUnit)×PUnit):=Om.ao (a0,a1,a2,())
def akL:List (Nat×List Nat):=[(1000002,[1,0,1,0])]
theorem WU:okB akL (Tryz.f123.body.getD .skip) []=true:=by kernel_rfl
theorem RL(x0:ByteArray)(x1:Int)(x2:Int)(x7:Int):tX x0 x1 x2 x7 =
 bif decide (x7<(↑x0.size:Int))then
 (my x0 x7).bind λy =>
 bif decide (y<x1)then some ((false,()),())
 else
  (my x0 x7).bind λy =>
  bif decide (y>x2)then some ((false,()),())else tX x0 x1 x2 (IntKind.i64.wrap (x7+1))
else (iG (↑x0.size:Int) 1 6).bind λy=>some ((y.fst.fst,()),()):=(aP WU [1,0,1,0] (by kernel_rfl) _).trans (by kernel_rfl)
theorem afs(a0:ByteArray)(a1:Int)(a2:Int):ru a0 a1 a2 =
 tX a0 a1 a2 0:=(Eq.trans (by kernel_rfl:ru a0 a1 a2=ax Mh (Tryz.f123.body.getD .skip) PX (aU 29 [(cV,Mode.ro),(iC,Mode.ro),(iC,Mode.ro)] (a0,a1,a2,()))) (all_eq WU _)).trans (by kernel_rfl)
def zg(a0:Int):Option ((Bool×PUnit)×PUnit):=NP.ao (a0,())
theorem aeK(a0:Int):zg a0 =
 (iG a0 (-400000000) 400000000).bind λy=>some ((y.fst.fst,()),()):=by kernel_rfl
def uq(a0:Int):Option ((Int×PUnit)×PUnit):=N2.ao (a0,())
theorem SR(a0:Int):uq a0 =
 some
 ((bif true then if a0<IntKind.i64.wrap (0 - a0)then IntKind.i64.wrap (0 - a0)else a0
  else if IntKind.i64.wrap (0 - a0)<a0 then IntKind.i64.wrap (0 - a0)else a0,
  ()),
 ()):=by kernel_rfl
def DP:Env:=E8.env C A6.1 Tryz.f136
def D4:=E8.out C
def yb(x0:List Int)(x5:Int)(x6:Int)(x7:Int):Option ((Int×PUnit)×PUnit):=aL DP [1,1,0,1,0,0,1,0,0,1,0] (Tryz.f136.body.getD .skip) D4 (V.d none 0 ba x0::dd 4 (V.d none 0 ak x5::V.d none 0 (Ty.int IntKind.i64) x6::V.d none 0 ak x7::dd 20 ([])))
def qX(x0:List Int)(x5:Int)(x6:Int):Option ((Int×PUnit)×PUnit):=aL DP [1,1,0,1,0] (Tryz.f136.body.getD .skip) D4 (V.d none 0 ba x0::dd 4 (V.d none 0 ak x5::V.d none 0 (Ty.int IntKind.i64) x6::dd 21 ([])))
def oS(a0:List Int)(a1:Int):Option ((Int×PUnit)×PUnit):=N6.ao (a0,a1,())
def akC:List (Nat×List Nat):=[(1000003,[1,1,0,1,0]),(1000006,[1,1,0,1,0,0,1,0,0,1,0])]
theorem JM:okB akC (Tryz.f136.body.getD .skip) []=true:=by kernel_rfl
theorem aci(x0:List Int)(x5:Int)(x6:Int)(x7:Int):yb x0 x5 x6 x7 =
 bif x7 != 0 then bif x7 != 0 then yb x0 x7 x6 (x5.tmod x7)else none
else qX x0 x5 (IntKind.i64.wrap (x6+1)):=(aP JM [1,1,0,1,0,0,1,0,0,1,0] (by kernel_rfl) _).trans (by kernel_rfl)
theorem ya(x0:List Int)(x5:Int)(x6:Int):qX x0 x5 x6 =
 bif decide (x6<(↑x0.length:Int))then
 (ab x0 x6).bind λy=>(uq y).bind λy=>yb x0 x5 x6 y.fst.fst
else some ((x5,()),()):=(aP JM [1,1,0,1,0] (by kernel_rfl) _).trans (by kernel_rfl)
theorem SX(a0:List Int)(a1:Int):oS a0 a1 =
 (uq a1).bind λy=>qX a0 y.fst.fst 0:=(Eq.trans (by kernel_rfl:oS a0 a1=ax DP (Tryz.f136.body.getD .skip) D4 (aU 28 [(ba,Mode.ro),(ak,Mode.ro)] (a0,a1,()))) (all_eq JM _)).trans (by kernel_rfl)
def LR:Env:=ES.env C A9.1 Tryz.f124
def PD:=ES.out C
def qS(x1:aa)(x3:Int):Option ((Bool×PUnit)×PUnit):=aL LR [1,1,0,1,0] (Tryz.f124.body.getD .skip) PD (V.dead::(V.box none 0 aH x1::V.dead::(V.d none 0 (Ty.int IntKind.i64) x3::dd 30 ([]))))
def mb(a0:aa):Option ((Bool×PUnit)×PUnit):=NK.ao (a0,())
def akm:List (Nat×List Nat):=[(1000004,[1,1,0,1,0])]
theorem Wz:okB akm (Tryz.f124.body.getD .skip) []=true:=by kernel_rfl
theorem Rc(x1:aa)(x3:Int):qS x1 x3 =
 bif decide (x3<(↑(List.length x1.fst):Int))then
 (ab x1.fst x3).bind λy =>
 (zg y).bind λy =>
  bif !y.fst.fst then some ((false,()),())else qS x1 (IntKind.i64.wrap (x3+1))
else (oS x1.fst x1.snd.fst).bind λy=>some ((decide (y.fst.fst<=1),()),()):=(aP Wz [1,1,0,1,0] (by kernel_rfl) _).trans (by kernel_rfl)
theorem aeD(a0:aa):mb a0 =
 bif decide ((↑(List.length a0.fst):Int)>4)then some ((false,()),())
else (zg a0.snd.fst).bind λy=>bif !y.fst.fst then some ((false,()),())else qS a0 0:=(Eq.trans (by kernel_rfl:mb a0=ax LR (Tryz.f124.body.getD .skip) PD (aU 34 [(aH,Mode.ro)] (a0,()))) (all_eq Wz _)).trans (by kernel_rfl)
def LS:Env:=ET.env C AR.1 Tryz.f94
def PE:=ET.out C
def qT(x1:Int×List aa)(x3:Int):Option ((Bool×PUnit)×PUnit):=aL LS [1,0,1,0] (Tryz.f94.body.getD .skip) PE (V.dead::(V.box none 0 aA x1::V.dead::(V.d none 0 (Ty.int IntKind.i64) x3::dd 35 ([]))))
def nL(a0:Int×List aa):Option ((Bool×PUnit)×PUnit):=NL.ao (a0,())
def akn:List (Nat×List Nat):=[(1000002,[1,0,1,0])]
theorem WA:okB akn (Tryz.f94.body.getD .skip) []=true:=by kernel_rfl
theorem Re(x1:Int×List aa)(x3:Int):qT x1 x3 =
 bif decide (x3<(↑(List.length x1.snd):Int))then
 (ab x1.snd x3).bind λy =>
 (mb y).bind λy =>
  bif !y.fst.fst then some ((false,()),())
  else
  (ab x1.snd x3).bind λy =>
   bif (↑(List.length y.fst):Int) != x1.fst then some ((false,()),())
   else qT x1 (IntKind.i64.wrap (x3+1))
else
 (iG x1.fst 0 4).bind λy =>
 bif y.fst.fst then some ((decide ((↑(List.length x1.snd):Int)<=16),()),())else some ((false,()),()):=(aP WA [1,0,1,0] (by kernel_rfl) _).trans (by kernel_rfl)
theorem aeE(a0:Int×List aa):nL a0 =
 qT a0 0:=(Eq.trans (by kernel_rfl:nL a0=ax LS (Tryz.f94.body.getD .skip) PE (aU 39 [(aA,Mode.ro)] (a0,()))) (all_eq WA _)).trans (by kernel_rfl)
def LX:Env:=EY.env C AS.1 Tryz.f92
def PI:=EY.out C
def qW(x1:ByteArray×Int×List Rw)(x3:Int):Option ((Bool×PUnit)×PUnit):=aL LX [1,0,1,0] (Tryz.f92.body.getD .skip) PI (V.dead::(V.box none 0 ji x1::V.dead::(V.d none 0 (Ty.int IntKind.i64) x3::dd 51 ([]))))
def zi(a0:ByteArray×Int×List Rw):Option ((Bool×PUnit)×PUnit):=NR.ao (a0,())
def aks:List (Nat×List Nat):=[(1000002,[1,0,1,0])]
theorem WE:okB aks (Tryz.f92.body.getD .skip) []=true:=by kernel_rfl
theorem Rl(x1:ByteArray×Int×List Rw)(x3:Int):qW x1 x3 =
 bif decide (x3<(↑(List.length x1.snd.snd):Int))then
 (ab x1.snd.snd x3).bind λy =>
 (ru y.fst 97 122).bind λy =>
  bif !y.fst.fst then some ((false,()),())
  else
  (ab x1.snd.snd x3).bind λy =>
   (nL y.snd).bind λy =>
   bif !y.fst.fst then some ((false,()),())
   else
    (ab x1.snd.snd x3).bind λy =>
    bif y.snd.fst != x1.snd.fst then some ((false,()),())else qW x1 (IntKind.i64.wrap (x3+1))
else
 (ru x1.fst 65 90).bind λy =>
 bif y.fst.fst then
  (iG x1.snd.fst 0 4).bind λy =>
  bif y.fst.fst then some ((decide ((↑(List.length x1.snd.snd):Int)<=8),()),())else some ((false,()),())
 else some ((false,()),()):=(aP WE [1,0,1,0] (by kernel_rfl) _).trans (by kernel_rfl)
theorem aeN(a0:ByteArray×Int×List Rw):zi a0 =
 qW a0 0:=(Eq.trans (by kernel_rfl:zi a0=ax LX (Tryz.f92.body.getD .skip) PI (aU 55 [(ji,Mode.ro)] (a0,()))) (all_eq WE _)).trans (by kernel_rfl)
def LQ:Env:=ER.env C AW.1 Tryz.f56
def PC:=ER.out C
def xS(x0:List Rel)(x1:ByteArray)(x5:Int):Option ((Int×PUnit)×PUnit):=aL LQ [1,0,1,0] (Tryz.f56.body.getD .skip) PC (V.d none 0 bq x0::V.d none 0 cV x1::dd 3 (V.d none 0 (Ty.int IntKind.i64) x5::dd 14 ([])))
def oP(a0:List Rel)(a1:ByteArray):Option ((Int×PUnit)×PUnit):=NI.ao (a0,a1,())
def akl:List (Nat×List Nat):=[(1000002,[1,0,1,0])]
theorem Wy:okB akl (Tryz.f56.body.getD .skip) []=true:=by kernel_rfl
theorem Rb(x0:List Rel)(x1:ByteArray)(x5:Int):xS x0 x1 x5 =
 bif decide (x5<(↑x0.length:Int))then
 (ab x0 x5).bind λy =>
 bif ByteArray.toList y.fst==x1.toList then some ((x5,()),())
 else xS x0 x1 (IntKind.i64.wrap (x5+1))
else some ((-1,()),()):=(aP Wy [1,0,1,0] (by kernel_rfl) _).trans (by kernel_rfl)
theorem aeA(a0:List Rel)(a1:ByteArray):oP a0 a1 =
 xS a0 a1 0:=(Eq.trans (by kernel_rfl:oP a0 a1=ax LQ (Tryz.f56.body.getD .skip) PC (aU 20 [(bq,Mode.ro),(cV,Mode.ro)] (a0,a1,()))) (all_eq Wy _)).trans (by kernel_rfl)
def LU:Env:=EU.env C AP.1 Tryz.f52
def PF:=EU.out C
def qU(x0:List Rel)(x3:Int):Option ((Bool×PUnit)×PUnit):=aL LU [1,0,1,0] (Tryz.f52.body.getD .skip) PF (V.d none 0 bq x0::dd 2 (V.d none 0 (Ty.int IntKind.i64) x3::dd 27 ([])))
def zd(a0:List Rel):Option ((Bool×PUnit)×PUnit):=NM.ao (a0,())
def ako:List (Nat×List Nat):=[(1000002,[1,0,1,0])]
theorem WB:okB ako (Tryz.f52.body.getD .skip) []=true:=by kernel_rfl
theorem Rf(x0:List Rel)(x3:Int):qU x0 x3 =
 bif decide (x3<(↑x0.length:Int))then
 (ab x0 x3).bind λy =>
 (zi y).bind λy =>
  bif !y.fst.fst then some ((false,()),())
  else
  bif decide (0<=0)&&decide (0<=x3)&&decide (x3<=(↑x0.length:Int))then
   (ab x0 x3).bind λy =>
   (oP (List.drop (Int.toNat 0) (List.take x3.toNat x0)) y.fst).bind λy =>
    bif decide (y.fst.fst>=0)then some ((false,()),())else qU x0 (IntKind.i64.wrap (x3+1))
  else none
else some ((decide ((↑x0.length:Int)<=6),()),()):=(aP WB [1,0,1,0] (by kernel_rfl) _).trans (by kernel_rfl)
theorem aeF(a0:List Rel):zd a0 =
 qU a0 0:=(Eq.trans (by kernel_rfl:zd a0=ax LU (Tryz.f52.body.getD .skip) PF (aU 31 [(bq,Mode.ro)] (a0,()))) (all_eq WB _)).trans (by kernel_rfl)
def Gg(a0:aa):Option ((Bool×PUnit)×PUnit):=Oj.ao (a0,())
theorem afo(a0:aa):Gg a0 =
 bif (↑(List.length a0.fst):Int)==0 then
 bif a0.snd.fst==0 then some ((!a0.snd.snd,()),())else some ((false,()),())
else some ((false,()),()):=by kernel_rfl
def xq:Env:=Fh.env C Bh.1 Tryz.f102
def xB:=Fh.out C
def q5(x0:List Rel)(x3:Int×aa×ByteArray×ByteArray×List Int×Int×Int×Int)(x5:Int)(x6:Int):Option ((Bool×PUnit)×PUnit):=aL xq [1,1,1,0,1,0,1,1,1,0,1,0,1,0] (Tryz.f102.body.getD .skip) xB (V.d none 0 bq x0::dd 2 (V.box none 0 cM x3::V.dead::(V.d none 0 ak x5::V.d none 0 (Ty.int IntKind.i64) x6::dd 133 ([]))))
def eY(x0:List Rel)(x3:Int×aa×ByteArray×ByteArray×List Int×Int×Int×Int):Option ((Bool×PUnit)×PUnit):=gN xq [1,1,1] (Tryz.f102.body.getD .skip) xB (V.d none 0 bq x0::dd 2 (V.box none 0 cM x3::dd 136 ([])))
def qK(x0:List Rel)(x3:Int×aa×ByteArray×ByteArray×List Int×Int×Int×Int):Option ((Bool×PUnit)×PUnit):=gN xq [1,1] (Tryz.f102.body.getD .skip) xB (V.d none 0 bq x0::dd 2 (V.box none 0 cM x3::dd 136 ([])))
def zw(a0:List Rel)(a1:Int×aa×ByteArray×ByteArray×List Int×Int×Int×Int):Option ((Bool×PUnit)×PUnit):=Ol.ao (a0,a1,())
def akK:List (Nat×List Nat):=[(2000003,[1,1]),(2000005,[1,1,1]),(1000011,[1,1,1,0,1,0,1,1,1,0,1,0,1,0])]
theorem CL:okB akK (Tryz.f102.body.getD .skip) []=true:=by kernel_rfl
theorem RK(x0:List Rel)(x3:Int×aa×ByteArray×ByteArray×List Int×Int×Int×Int)(x5:Int)(x6:Int):q5 x0 x3 x5 x6 =
 bif decide (x6<(↑(List.length x3.snd.snd.snd.snd.fst):Int))then
 (ab x3.snd.snd.snd.snd.fst x6).bind λy =>
 (iG y 0 3).bind λy =>
  bif !y.fst.fst then some ((false,()),())else q5 x0 x3 x5 (IntKind.i64.wrap (x6+1))
else
 bif decide (x5>=0)then
 (ab x0 x5).bind λy =>
  bif y.snd.fst==(↑(List.length x3.snd.snd.snd.snd.fst):Int)then
  bif ByteArray.toList x3.snd.snd.snd.fst==(ByteArray.mk #[]).toList then some ((true,()),())
  else (ru x3.snd.snd.snd.fst 97 122).bind λy=>some ((y.fst.fst,()),())
  else some ((false,()),())
 else some ((false,()),()):=(aP CL [1,1,1,0,1,0,1,1,1,0,1,0,1,0] (by kernel_rfl) _).trans (by kernel_rfl)
theorem ab9(x0:List Rel)(x3:Int×aa×ByteArray×ByteArray×List Int×Int×Int×Int):eY x0 x3 =
 bif x3.fst==0 then
 (mb x3.snd.fst).bind λy =>
 bif y.fst.fst then some (((↑(List.length x3.snd.fst.fst):Int)==4,()),())else some ((false,()),())
else
 bif x3.fst==1 then (oP x0 x3.snd.snd.fst).bind λy=>q5 x0 x3 y.fst.fst 0
 else
 (iG x3.fst 2 6).bind λy =>
  bif y.fst.fst then (iG x3.snd.snd.snd.snd.snd.fst 0 3).bind λy=>some ((y.fst.fst,()),())
  else some ((false,()),()):=(join_eq CL [1,1,1] _).trans (by kernel_rfl)
theorem ab7(x0:List Rel)(x3:Int×aa×ByteArray×ByteArray×List Int×Int×Int×Int):qK x0 x3 =
 bif x3.fst != 5 then
 bif x3.fst != 6 then
 bif x3.snd.snd.snd.snd.snd.fst != 0 then some ((false,()),())
 else
  bif x3.fst != 3 then
  bif x3.fst != 4 then
   bif x3.snd.snd.snd.snd.snd.snd.snd != 0 then some ((false,()),())
   else
   bif decide (x3.fst<=1)then
    bif x3.snd.snd.snd.snd.snd.snd.fst != 0 then some ((false,()),())else eY x0 x3
   else eY x0 x3
  else
   bif decide (x3.fst<=1)then
   bif x3.snd.snd.snd.snd.snd.snd.fst != 0 then some ((false,()),())else eY x0 x3
   else eY x0 x3
  else
  bif decide (x3.fst<=1)then
   bif x3.snd.snd.snd.snd.snd.snd.fst != 0 then some ((false,()),())else eY x0 x3
  else eY x0 x3
 else
 bif x3.fst != 3 then
  bif x3.fst != 4 then
  bif x3.snd.snd.snd.snd.snd.snd.snd != 0 then some ((false,()),())
  else
   bif decide (x3.fst<=1)then
   bif x3.snd.snd.snd.snd.snd.snd.fst != 0 then some ((false,()),())else eY x0 x3
   else eY x0 x3
  else
  bif decide (x3.fst<=1)then
   bif x3.snd.snd.snd.snd.snd.snd.fst != 0 then some ((false,()),())else eY x0 x3
  else eY x0 x3
 else
  bif decide (x3.fst<=1)then
  bif x3.snd.snd.snd.snd.snd.snd.fst != 0 then some ((false,()),())else eY x0 x3
  else eY x0 x3
else
 bif x3.fst != 3 then
 bif x3.fst != 4 then
  bif x3.snd.snd.snd.snd.snd.snd.snd != 0 then some ((false,()),())
  else
  bif decide (x3.fst<=1)then
   bif x3.snd.snd.snd.snd.snd.snd.fst != 0 then some ((false,()),())else eY x0 x3
  else eY x0 x3
 else
  bif decide (x3.fst<=1)then
  bif x3.snd.snd.snd.snd.snd.snd.fst != 0 then some ((false,()),())else eY x0 x3
  else eY x0 x3
 else
 bif decide (x3.fst<=1)then
  bif x3.snd.snd.snd.snd.snd.snd.fst != 0 then some ((false,()),())else eY x0 x3
 else eY x0 x3:=(join_eq CL [1,1] _).trans (by kernel_rfl)
theorem afq(a0:List Rel)(a1:Int×aa×ByteArray×ByteArray×List Int×Int×Int×Int):zw a0 a1 =
 bif a1.fst != 0 then
 (Gg a1.snd.fst).bind λy =>
 bif !y.fst.fst then some ((false,()),())
 else
  bif a1.fst != 1 then
  bif !ByteArray.toList a1.snd.snd.fst==(ByteArray.mk #[]).toList then some ((false,()),())
  else
   bif !ByteArray.toList a1.snd.snd.snd.fst==(ByteArray.mk #[]).toList then some ((false,()),())
   else
   bif decide ((↑(List.length a1.snd.snd.snd.snd.fst):Int)>0)then some ((false,()),())else qK a0 a1
  else qK a0 a1
else
 bif a1.fst != 1 then
 bif !ByteArray.toList a1.snd.snd.fst==(ByteArray.mk #[]).toList then some ((false,()),())
 else
  bif !ByteArray.toList a1.snd.snd.snd.fst==(ByteArray.mk #[]).toList then some ((false,()),())
  else
  bif decide ((↑(List.length a1.snd.snd.snd.snd.fst):Int)>0)then some ((false,()),())else qK a0 a1
 else qK a0 a1:=(Eq.trans (by kernel_rfl:zw a0 a1=ax xq (Tryz.f102.body.getD .skip) xB (aU 140 [(bq,Mode.ro),(cM,Mode.ro)] (a0,a1,()))) (all_eq CL _)).trans (by kernel_rfl)
def xo:Env:=EW.env C Bi.1 Tryz.f67
def xz:=EW.out C
def nI(x0:List Rel)(x1:List al)(x5:List Int)(x6:Int)(x7:Int)(x8:Int):Option ((Bool×PUnit)×PUnit):=gN xo [1,1,1,0,1,0,0,1,0,0,1,1,1,1,1] (Tryz.f67.body.getD .skip) xz (V.d none 0 bq x0::V.d none 0 bM x1::dd 3 (V.d none (ak.depth+1) (Ty.slice 3 ak) x5::V.d none 0 (Ty.int IntKind.i64) x6::V.d none 0 (Ty.int IntKind.i64) x7::V.d none 0 (Ty.int IntKind.i64) x8::dd 108 ([])))
def kd(x0:List Rel)(x1:List al)(x5:List Int)(x6:Int)(x7:Int):Option ((Bool×PUnit)×PUnit):=gN xo [1,1,1,0,1,0,0,1,0,0,1,1,1] (Tryz.f67.body.getD .skip) xz (V.d none 0 bq x0::V.d none 0 bM x1::dd 3 (V.d none (ak.depth+1) (Ty.slice 3 ak) x5::V.d none 0 (Ty.int IntKind.i64) x6::V.d none 0 (Ty.int IntKind.i64) x7::dd 109 ([])))
def qV(x0:List Rel)(x1:List al)(x5:List Int)(x6:Int):Option ((Bool×PUnit)×PUnit):=aL xo [1,1,1,0,1,0] (Tryz.f67.body.getD .skip) xz (V.d none 0 bq x0::V.d none 0 bM x1::dd 3 (V.d none (ak.depth+1) (Ty.slice 3 ak) x5::V.d none 0 (Ty.int IntKind.i64) x6::dd 110 ([])))
def ze(a0:List Rel)(a1:List al):Option ((Bool×PUnit)×PUnit):=NO.ao (a0,a1,())
def akq:List (Nat×List Nat):=[(1000005,[1,1,1,0,1,0]),(2000014,[1,1,1,0,1,0,0,1,0,0,1,1,1]),(2000017,[1,1,1,0,1,0,0,1,0,0,1,1,1,1,1])]
theorem CJ:okB akq (Tryz.f67.body.getD .skip) []=true:=by kernel_rfl
theorem ab6(x0:List Rel)(x1:List al)(x5:List Int)(x6:Int)(x7:Int)(x8:Int):nI x0 x1 x5 x6 x7 x8 =
 bif
 decide (0<=0)&&decide (0<=IntKind.i64.wrap (x8 - x7)) &&
  decide (IntKind.i64.wrap (x8 - x7)<=(↑x5.length:Int))then
 bif
  decide
  ((0+(List.drop (Int.toNat 0) (List.take (IntKind.i64.wrap (x8 - x7)).toNat x5)).length)*8 <=
   140737488355328)then
 bif
  decide
   (((List.drop (Int.toNat 0) (List.take (IntKind.i64.wrap (x8 - x7)).toNat x5)).length+1)*8 <=
   140737488355328)then
  qV x0 x1 (List.drop (Int.toNat 0) (List.take (IntKind.i64.wrap (x8 - x7)).toNat x5)++[x6])
  (IntKind.i64.wrap (x6+1))
 else none
 else none
else none:=(join_eq CJ [1,1,1,0,1,0,0,1,0,0,1,1,1,1,1] _).trans (by kernel_rfl)
theorem ab4(x0:List Rel)(x1:List al)(x5:List Int)(x6:Int)(x7:Int):kd x0 x1 x5 x6 x7 =
 bif decide ((↑x5.length:Int)<x7)then some ((false,()),())
else
 bif x7==1 then
 (ab x5 (IntKind.i64.wrap ((↑x5.length:Int) - 1))).bind λy =>
  (ab x5 (IntKind.i64.wrap ((↑x5.length:Int) - 1))).bind λy =>
  (ab x1 x6).bind λaw =>
   bif y != aw.snd.snd.snd.snd.snd.snd.fst then some ((false,()),())
   else
   bif x7==2 then
    (ab x5 (IntKind.i64.wrap ((↑x5.length:Int) - 1))).bind λy =>
    (ab x5 (IntKind.i64.wrap ((↑x5.length:Int) - 1))).bind λy =>
     (ab x1 x6).bind λa7 =>
     bif y != a7.snd.snd.snd.snd.snd.snd.snd then some ((false,()),())
     else
      (ab x5 (IntKind.i64.wrap ((↑x5.length:Int) - 2))).bind λy =>
      (ab x5 (IntKind.i64.wrap ((↑x5.length:Int) - 2))).bind λy =>
       (ab x1 x6).bind λbG =>
       bif y != bG.snd.snd.snd.snd.snd.snd.fst then some ((false,()),())
       else nI x0 x1 x5 x6 x7 (↑x5.length:Int)
   else nI x0 x1 x5 x6 x7 (↑x5.length:Int)
 else
 bif x7==2 then
  (ab x5 (IntKind.i64.wrap ((↑x5.length:Int) - 1))).bind λy =>
  (ab x5 (IntKind.i64.wrap ((↑x5.length:Int) - 1))).bind λy =>
   (ab x1 x6).bind λaw =>
   bif y != aw.snd.snd.snd.snd.snd.snd.snd then some ((false,()),())
   else
    (ab x5 (IntKind.i64.wrap ((↑x5.length:Int) - 2))).bind λy =>
    (ab x5 (IntKind.i64.wrap ((↑x5.length:Int) - 2))).bind λy =>
     (ab x1 x6).bind λa7 =>
     bif y != a7.snd.snd.snd.snd.snd.snd.fst then some ((false,()),())
     else nI x0 x1 x5 x6 x7 (↑x5.length:Int)
 else nI x0 x1 x5 x6 x7 (↑x5.length:Int):=(join_eq CJ [1,1,1,0,1,0,0,1,0,0,1,1,1] _).trans (by kernel_rfl)
theorem Ri(x0:List Rel)(x1:List al)(x5:List Int)(x6:Int):qV x0 x1 x5 x6 =
 bif decide (x6<(↑x1.length:Int))then
 (ab x1 x6).bind λy =>
 (zw x0 y).bind λy =>
  bif !y.fst.fst then some ((false,()),())
  else
  (ab x1 x6).bind λy =>
   bif y.fst==3 then kd x0 x1 x5 x6 2
   else
   (ab x1 x6).bind λy =>
    bif y.fst==4 then kd x0 x1 x5 x6 2
    else
    (ab x1 x6).bind λy =>
     bif decide (y.fst>1)then kd x0 x1 x5 x6 1 else kd x0 x1 x5 x6 0
else some (((↑x5.length:Int)==1,()),()):=(aP CJ [1,1,1,0,1,0] (by kernel_rfl) _).trans (by kernel_rfl)
theorem aeI(a0:List Rel)(a1:List al):ze a0 a1 =
 (zd a0).bind λy =>
 bif !y.fst.fst then some ((false,()),())
 else
 (iG (↑a1.length:Int) 1 12).bind λy =>
  bif !y.fst.fst then some ((false,()),())else qV a0 a1 [] 0:=(Eq.trans (by kernel_rfl:ze a0 a1=ax xo (Tryz.f67.body.getD .skip) xz (aU 117 [(bq,Mode.ro),(bM,Mode.ro)] (a0,a1,()))) (all_eq CJ _)).trans (by kernel_rfl)
def LW:Env:=EX.env C AU.1 Tryz.f30
def PH:=EX.out C
def tN(x0:List Rel)(x1:List al)(x5:Int):Option ((Bool×PUnit)×PUnit):=aL LW [1,0,1,0] (Tryz.f30.body.getD .skip) PH (V.d none 0 bq x0::V.d none 0 bM x1::dd 3 (V.d none 0 (Ty.int IntKind.i64) x5::dd 23 ([])))
def zh(a0:List Rel)(a1:List al):Option ((Bool×PUnit)×PUnit):=NQ.ao (a0,a1,())
def akr:List (Nat×List Nat):=[(1000002,[1,0,1,0])]
theorem WD:okB akr (Tryz.f30.body.getD .skip) []=true:=by kernel_rfl
theorem Rk(x0:List Rel)(x1:List al)(x5:Int):tN x0 x1 x5 =
 bif decide (x5<(↑x1.length:Int))then
 (ab x1 x5).bind λy =>
 bif y.fst==2 then some ((false,()),())
 else
  (ab x1 x5).bind λy =>
  bif y.fst==6 then some ((false,()),())else tN x0 x1 (IntKind.i64.wrap (x5+1))
else (ze x0 x1).bind λy=>some ((y.fst.fst,()),()):=(aP WD [1,0,1,0] (by kernel_rfl) _).trans (by kernel_rfl)
theorem aeL(a0:List Rel)(a1:List al):zh a0 a1 =
 tN a0 a1 0:=(Eq.trans (by kernel_rfl:zh a0 a1=ax LW (Tryz.f30.body.getD .skip) PH (aU 29 [(bq,Mode.ro),(bM,Mode.ro)] (a0,a1,()))) (all_eq WD _)).trans (by kernel_rfl)
def L7:Env:=E7.env C AV.1 Tryz.f105
def PQ:=E7.out C
def xZ(x1:aa)(x3:Int):Option ((Bool×PUnit)×PUnit):=aL L7 [1,0,1,0] (Tryz.f105.body.getD .skip) PQ (V.dead::(V.box none 0 aH x1::V.dead::(V.d none 0 (Ty.int IntKind.i64) x3::dd 13 ([]))))
def ur(a0:aa):Option ((Bool×PUnit)×PUnit):=N5.ao (a0,())
def akB:List (Nat×List Nat):=[(1000002,[1,0,1,0])]
theorem WM:okB akB (Tryz.f105.body.getD .skip) []=true:=by kernel_rfl
theorem Ru(x1:aa)(x3:Int):xZ x1 x3 =
 bif decide (x3<(↑(List.length x1.fst):Int))then
 (ab x1.fst x3).bind λy =>
 bif y != 0 then some ((false,()),())else xZ x1 (IntKind.i64.wrap (x3+1))
else some ((true,()),()):=(aP WM [1,0,1,0] (by kernel_rfl) _).trans (by kernel_rfl)
theorem ae5(a0:aa):ur a0 =
 xZ a0 0:=(Eq.trans (by kernel_rfl:ur a0=ax L7 (Tryz.f105.body.getD .skip) PQ (aU 17 [(aH,Mode.ro)] (a0,()))) (all_eq WM _)).trans (by kernel_rfl)
def SZ(a0:aa):Option ((Bool×PUnit)×PUnit):=N9.ao (a0,())
theorem afa(a0:aa):SZ a0 =
 bif decide (a0.snd.fst<0)then some ((true,()),())
else bif a0.snd.fst==0 then some ((!a0.snd.snd,()),())else some ((false,()),()):=by kernel_rfl
def zr(a0:Int):Option ((aB×PUnit)×PUnit):=Of.ao (a0,())
theorem afi(a0:Int):zr a0 =
 bif
 decide (0<=a0)&&decide (a0<=a0)&&decide (a0*(↑8:Int)<=140737488355328) &&
  decide (a0<=9223372036854775807)then
 some (((a0,[(List.replicate a0.toNat (0:Int),1,false)]),()),())
else none:=by kernel_rfl
def uv(a0:aa):Option ((aa×PUnit)×PUnit):=Ob.ao (a0,())
theorem afd(a0:aa):uv a0 =
 bif decide ((0+List.length a0.fst)*8<=140737488355328)then some (((a0.fst,a0.snd.fst,a0.snd.snd),()),())
else none:=by kernel_rfl
def rm(a0:aa):Option ((Int×PUnit)×PUnit):=N7.ao (a0,())
theorem ae7(a0:aa):rm a0 =
 (oS a0.fst 0).bind λy=>some ((y.fst.fst,()),()):=by kernel_rfl
def Ma:Env:=E9.env C Ba.1 Tryz.f153
def PR:=E9.out C
def yc(x2:aa)(x3:aa)(x5:Int)(x6:Int)(x7:Int):Option ((Int×PUnit)×PUnit):=aL Ma [1,1,1,0,1,0] (Tryz.f153.body.getD .skip) PR (dd 2 (V.box none 0 aH x2::V.box none 0 aH x3::V.dead::(V.d none 0 (Ty.int IntKind.i64) x5::V.d none 0 (Ty.int IntKind.i64) x6::V.d none 0 (Ty.int IntKind.i64) x7::dd 42 ([]))))
def rq(a0:aa)(a1:aa):Option ((Int×PUnit)×PUnit):=Oa.ao (a0,a1,())
def akD:List (Nat×List Nat):=[(1000004,[1,1,1,0,1,0])]
theorem WN:okB akD (Tryz.f153.body.getD .skip) []=true:=by kernel_rfl
theorem Ry(x2:aa)(x3:aa)(x5:Int)(x6:Int)(x7:Int):yc x2 x3 x5 x6 x7 =
 bif decide (x7<(↑(List.length x2.fst):Int))then
 bif decide (x7<(↑(List.length x3.fst):Int))then
 (ab x2.fst x7).bind λy =>
  bif x5 != 0 then
  (ab x3.fst x7).bind λaw =>
   bif x6 != 0 then
   bif IntKind.i64.wrap (y.tdiv x5) != IntKind.i64.wrap (aw.tdiv x6)then
    bif decide (IntKind.i64.wrap (y.tdiv x5)<IntKind.i64.wrap (aw.tdiv x6))then some ((-1,()),())
    else some ((1,()),())
   else yc x2 x3 x5 x6 (IntKind.i64.wrap (x7+1))
   else none
  else none
 else some ((0,()),())
else some ((0,()),()):=(aP WN [1,1,1,0,1,0] (by kernel_rfl) _).trans (by kernel_rfl)
theorem afb(a0:aa)(a1:aa):rq a0 a1 =
 (rm a0).bind λy =>
 (rm a1).bind λaw =>
 yc a0 a1 (bif true then if 1<y.fst.fst then y.fst.fst else 1 else if y.fst.fst<1 then y.fst.fst else 1)
  (bif true then if 1<aw.fst.fst then aw.fst.fst else 1 else if aw.fst.fst<1 then aw.fst.fst else 1) 0:=(Eq.trans (by kernel_rfl:rq a0 a1=ax Ma (Tryz.f153.body.getD .skip) PR (aU 50 [(aH,Mode.ro),(aH,Mode.ro)] (a0,a1,()))) (all_eq WN _)).trans (by kernel_rfl)
def zp(a0:aa)(a1:aa):Option ((Bool×PUnit)×PUnit):=N8.ao (a0,a1,())
theorem ae8(a0:aa)(a1:aa):zp a0 a1 =
 (rm a1).bind λy =>
 (rm a0).bind λaw =>
 bif
  decide
   (IntKind.i64.wrap
    (a0.snd.fst*bif true then if 1<y.fst.fst then y.fst.fst else 1 else if y.fst.fst<1 then y.fst.fst else 1) >
   IntKind.i64.wrap
    (a1.snd.fst *
    bif true then if 1<aw.fst.fst then aw.fst.fst else 1 else if aw.fst.fst<1 then aw.fst.fst else 1))then
  some ((true,()),())
 else
  bif
   IntKind.i64.wrap
    (a0.snd.fst *
    bif true then if 1<y.fst.fst then y.fst.fst else 1 else if y.fst.fst<1 then y.fst.fst else 1) ==
   IntKind.i64.wrap
    (a1.snd.fst *
    bif true then if 1<aw.fst.fst then aw.fst.fst else 1 else if aw.fst.fst<1 then aw.fst.fst else 1)then
  bif a0.snd.snd then some ((true,()),())else some ((!a1.snd.snd,()),())
  else some ((false,()),()):=by kernel_rfl
def Mf:Env:=Ff.env C Bb.1 Tryz.f135
def PV:=Ff.out C
def yf(x0:List aa)(x3:aa)(x5:Int):Option ((List aa×PUnit)×PUnit):=aL Mf [1,1,0,0] (Tryz.f135.body.getD .skip) PV (V.d none 0 cU x0::dd 2 (V.box none 0 aH x3::V.dead::(V.d none 0 (Ty.int IntKind.i64) x5::dd 56 ([]))))
def zu(a0:List aa)(a1:aa):Option ((List aa×PUnit)×PUnit):=Oh.ao (a0,a1,())
def akI:List (Nat×List Nat):=[(1000002,[1,1,0,0])]
theorem WS:okB akI (Tryz.f135.body.getD .skip) []=true:=by kernel_rfl
theorem RH(x0:List aa)(x3:aa)(x5:Int):yf x0 x3 x5 =
 bif decide (x5<(↑x0.length:Int))then
 (ab x0 x5).bind λy =>
 (rq y x3).bind λy =>
  bif decide (y.fst.fst<0)then yf x0 x3 (IntKind.i64.wrap (x5+1))
  else
  bif decide (x5<(↑x0.length:Int))then
   (ab x0 x5).bind λy =>
   (rq y x3).bind λy =>
    bif y.fst.fst==0 then
    (ab x0 x5).bind λy =>
     (zp y x3).bind λy =>
     bif y.fst.fst then some ((x0,()),())
     else
      bif decide ((0+x0.length)*40<=140737488355328)then
      (ab x0 x5).bind λy =>
       (ab x0 x5).bind λy =>
       (ab x0 x5).bind λy=>(some (x0.set x5.toNat x3)).bind λy=>some ((y,()),())
      else none
    else
    bif decide (0<=0)&&decide (0<=x5)&&decide (x5<=(↑x0.length:Int))then
     bif decide ((0+(List.drop (Int.toNat 0) (List.take x5.toNat x0)).length)*40<=140737488355328)then
     bif decide (((List.drop (Int.toNat 0) (List.take x5.toNat x0)).length+1)*40<=140737488355328)then
      bif
       decide (0<=x5)&&decide (x5<=(↑x0.length:Int)) &&
       decide ((↑x0.length:Int)<=(↑x0.length:Int))then
      bif
       decide
        (((List.drop (Int.toNat 0) (List.take x5.toNat x0)++[x3]).length +
         (List.drop x5.toNat (List.take x0.length x0)).length) *
         40 <=
        140737488355328)then
       some
       ((List.drop (Int.toNat 0) (List.take x5.toNat x0)++[x3]++List.drop x5.toNat (List.take x0.length x0),
        ()),
        ())
      else none
      else none
     else none
     else none
    else none
  else
   bif decide (0<=0)&&decide (0<=x5)&&decide (x5<=(↑x0.length:Int))then
   bif decide ((0+(List.drop (Int.toNat 0) (List.take x5.toNat x0)).length)*40<=140737488355328)then
    bif decide (((List.drop (Int.toNat 0) (List.take x5.toNat x0)).length+1)*40<=140737488355328)then
    bif decide (0<=x5)&&decide (x5<=(↑x0.length:Int))&&decide ((↑x0.length:Int)<=(↑x0.length:Int))then
     bif
      decide
      (((List.drop (Int.toNat 0) (List.take x5.toNat x0)++[x3]).length +
        (List.drop x5.toNat (List.take x0.length x0)).length) *
       40 <=
       140737488355328)then
     some
      ((List.drop (Int.toNat 0) (List.take x5.toNat x0)++[x3]++List.drop x5.toNat (List.take x0.length x0),
       ()),
      ())
     else none
    else none
    else none
   else none
   else none
else
 bif decide (x5<(↑x0.length:Int))then
 (ab x0 x5).bind λy =>
  (rq y x3).bind λy =>
  bif y.fst.fst==0 then
   (ab x0 x5).bind λy =>
   (zp y x3).bind λy =>
    bif y.fst.fst then some ((x0,()),())
    else
    bif decide ((0+x0.length)*40<=140737488355328)then
     (ab x0 x5).bind λy =>
     (ab x0 x5).bind λy =>
      (ab x0 x5).bind λy=>(some (x0.set x5.toNat x3)).bind λy=>some ((y,()),())
    else none
  else
   bif decide (0<=0)&&decide (0<=x5)&&decide (x5<=(↑x0.length:Int))then
   bif decide ((0+(List.drop (Int.toNat 0) (List.take x5.toNat x0)).length)*40<=140737488355328)then
    bif decide (((List.drop (Int.toNat 0) (List.take x5.toNat x0)).length+1)*40<=140737488355328)then
    bif decide (0<=x5)&&decide (x5<=(↑x0.length:Int))&&decide ((↑x0.length:Int)<=(↑x0.length:Int))then
     bif
      decide
      (((List.drop (Int.toNat 0) (List.take x5.toNat x0)++[x3]).length +
        (List.drop x5.toNat (List.take x0.length x0)).length) *
       40 <=
       140737488355328)then
     some
      ((List.drop (Int.toNat 0) (List.take x5.toNat x0)++[x3]++List.drop x5.toNat (List.take x0.length x0),
       ()),
      ())
     else none
    else none
    else none
   else none
   else none
 else
 bif decide (0<=0)&&decide (0<=x5)&&decide (x5<=(↑x0.length:Int))then
  bif decide ((0+(List.drop (Int.toNat 0) (List.take x5.toNat x0)).length)*40<=140737488355328)then
  bif decide (((List.drop (Int.toNat 0) (List.take x5.toNat x0)).length+1)*40<=140737488355328)then
   bif decide (0<=x5)&&decide (x5<=(↑x0.length:Int))&&decide ((↑x0.length:Int)<=(↑x0.length:Int))then
   bif
    decide
     (((List.drop (Int.toNat 0) (List.take x5.toNat x0)++[x3]).length +
      (List.drop x5.toNat (List.take x0.length x0)).length) *
      40 <=
     140737488355328)then
    some
    ((List.drop (Int.toNat 0) (List.take x5.toNat x0)++[x3]++List.drop x5.toNat (List.take x0.length x0),()),
     ())
   else none
   else none
  else none
  else none
 else none:=(aP WS [1,1,0,0] (by kernel_rfl) _).trans (by kernel_rfl)
theorem afk(a0:List aa)(a1:aa):zu a0 a1 =
 yf a0 a1 0:=(Eq.trans (by kernel_rfl:zu a0 a1=ax Mf (Tryz.f135.body.getD .skip) PV (aU 62 [(cU,Mode.ro),(aH,Mode.ro)] (a0,a1,()))) (all_eq WS _)).trans (by kernel_rfl)
def Me:Env:=Fe.env C Bg.1 Tryz.f104
def PU:=Fe.out C
def tW(x0:Int)(x1:List aa)(x4:Int×List aa)(x5:Int×List aa)(x6:Int):Option ((aB×PUnit)×PUnit):=aL Me [1,1,0,1,0] (Tryz.f104.body.getD .skip) PU (V.d none 0 ak x0::V.d none 0 cU x1::dd 2 (V.box none 0 aA x4::V.box none 0 aA x5::V.d none 0 (Ty.int IntKind.i64) x6::dd 31 ([])))
def oT(a0:Int)(a1:List aa):Option ((aB×PUnit)×PUnit):=Og.ao (a0,a1,())
def akH:List (Nat×List Nat):=[(1000003,[1,1,0,1,0])]
theorem WR:okB akH (Tryz.f104.body.getD .skip) []=true:=by kernel_rfl
theorem RG(x0:Int)(x1:List aa)(x4:Int×List aa)(x5:Int×List aa)(x6:Int):tW x0 x1 x4 x5 x6 =
 bif decide (x6<(↑x1.length:Int))then
 (ab x1 x6).bind λy =>
 (ur y).bind λy =>
  bif y.fst.fst then
  (ab x1 x6).bind λy =>
   (SZ y).bind λy =>
   bif !y.fst.fst then (zr x0).bind λy=>some ((y.fst.fst,()),())
   else tW x0 x1 x4 x5 (IntKind.i64.wrap (x6+1))
  else
  (ab x1 x6).bind λy =>
   (uv y).bind λy =>
   (zu x5.snd y.fst.fst).bind λy=>tW x0 x1 x4 (x5.fst,y.fst.fst) (IntKind.i64.wrap (x6+1))
else some ((x5,()),()):=(aP WR [1,1,0,1,0] (by kernel_rfl) _).trans (by kernel_rfl)
theorem afj(a0:Int)(a1:List aa):oT a0 a1 =
 tW a0 a1 (0,[]) (a0,[]) 0:=(Eq.trans (by kernel_rfl:oT a0 a1=ax Me (Tryz.f104.body.getD .skip) PU (aU 38 [(ak,Mode.ro),(cU,Mode.ro)] (a0,a1,()))) (all_eq WR _)).trans (by kernel_rfl)
def L6:Env:=E6.env C Bf.1 Tryz.f106
def PO:=E6.out C
def tS(x0:List Int)(x6:aa)(x8:Int)(x9:aa)(aX:Int):Option ((aa×Bool×PUnit)×PUnit):=aL L6 [1,1,1,0,1,0] (Tryz.f106.body.getD .skip) PO (V.d none 0 ba x0::dd 5 (V.box none aH.depth aH x6::V.dead::(V.d none 0 (Ty.int IntKind.i64) x8::V.box none aH.depth aH x9::V.d none 0 (Ty.int IntKind.i64) aX::dd 31 ([]))))
def mc(a0:List Int)(a1:Int)(a2:Bool):Option ((aa×Bool×PUnit)×PUnit):=N4.ao (a0,a1,a2,())
def akA:List (Nat×List Nat):=[(1000004,[1,1,1,0,1,0])]
theorem WL:okB akA (Tryz.f106.body.getD .skip) []=true:=by kernel_rfl
theorem Rt(x0:List Int)(x6:aa)(x8:Int)(x9:aa)(aX:Int):tS x0 x6 x8 x9 aX =
 bif decide (aX<(↑x0.length:Int))then
 (ab x0 aX).bind λy =>
 bif x8 != 0 then
  bif decide ((List.length x9.fst+1)*8<=140737488355328)then
  tS x0 x6 x8 (x9.fst++[IntKind.i64.wrap (y.tdiv x8)],x9.snd) (IntKind.i64.wrap (aX+1))
  else none
 else none
else
 (mb x9).bind λy=>bif !y.fst.fst then some ((([],0,false),false,()),())else some ((x9,true,()),()):=(aP WL [1,1,1,0,1,0] (by kernel_rfl) _).trans (by kernel_rfl)
theorem ae4(a0:List Int)(a1:Int)(a2:Bool):mc a0 a1 a2 =
 (oS a0 a1).bind λy =>
 bif (bif true then if 1<y.fst.fst then y.fst.fst else 1 else if y.fst.fst<1 then y.fst.fst else 1) != 0 then
 tS a0 ([],0,false)
  (bif true then if 1<y.fst.fst then y.fst.fst else 1 else if y.fst.fst<1 then y.fst.fst else 1)
  ([],
  IntKind.i64.wrap
   (a1.tdiv (bif true then if 1<y.fst.fst then y.fst.fst else 1 else if y.fst.fst<1 then y.fst.fst else 1)),
  a2)
  0
 else none:=(Eq.trans (by kernel_rfl:mc a0 a1 a2=ax L6 (Tryz.f106.body.getD .skip) PO (aU 42 [(ba,Mode.ro),(ak,Mode.ro),(aM,Mode.ro)] (a0,a1,a2,()))) (all_eq WL _)).trans (by kernel_rfl)
def LY:Env:=EZ.env C A8.1 Tryz.f107
def PJ:=EZ.out C
def tO(x1:Int)(x3:Int)(x4:aa)(x6:aa)(x8:aa)(aX:List Int)(bQ:Int):Option ((aa×Bool×PUnit)×PUnit):=aL LY [1,1,1,0,1,0] (Tryz.f107.body.getD .skip) PJ (V.dead::(V.d none 0 ak x1::V.dead::(V.d none 0 ak x3::V.box none 0 aH x4::V.dead::(V.box none 0 aH x6::V.dead::(V.box none aH.depth aH x8::V.dead::(V.d none (ak.depth+1) (Ty.slice 3 ak) aX::V.d none 0 (Ty.int IntKind.i64) bQ::dd 86 ([])))))))
def zk(a0:aa)(a1:Int)(a2:aa)(a3:Int):Option ((aa×Bool×PUnit)×PUnit):=NT.ao (a0,a1,a2,a3,())
def akt:List (Nat×List Nat):=[(1000005,[1,1,1,0,1,0])]
theorem WG:okB akt (Tryz.f107.body.getD .skip) []=true:=by kernel_rfl
theorem Rm(x1:Int)(x3:Int)(x4:aa)(x6:aa)(x8:aa)(aX:List Int)(bQ:Int):tO x1 x3 x4 x6 x8 aX bQ =
 bif decide (bQ<(↑(List.length x4.fst):Int))then
 (ab x4.fst bQ).bind λy =>
 (ab x6.fst bQ).bind λaw =>
  bif decide ((aX.length+1)*8<=140737488355328)then
  tO x1 x3 x4 x6 x8 (aX++[IntKind.i64.wrap (IntKind.i64.wrap (x1*y)+IntKind.i64.wrap (x3*aw))])
   (IntKind.i64.wrap (bQ+1))
  else none
else
 bif x4.snd.snd then
 bif decide (x1>0)then
  (mc aX (IntKind.i64.wrap (IntKind.i64.wrap (x1*x4.snd.fst)+IntKind.i64.wrap (x3*x6.snd.fst)))
   true).bind
  λy=>some ((y.fst.fst,y.fst.snd.fst,()),())
 else
  bif x6.snd.snd then
  (mc aX (IntKind.i64.wrap (IntKind.i64.wrap (x1*x4.snd.fst)+IntKind.i64.wrap (x3*x6.snd.fst)))
    (decide (x3>0))).bind
   λy=>some ((y.fst.fst,y.fst.snd.fst,()),())
  else
  (mc aX (IntKind.i64.wrap (IntKind.i64.wrap (x1*x4.snd.fst)+IntKind.i64.wrap (x3*x6.snd.fst)))
    false).bind
   λy=>some ((y.fst.fst,y.fst.snd.fst,()),())
 else
 bif x6.snd.snd then
  (mc aX (IntKind.i64.wrap (IntKind.i64.wrap (x1*x4.snd.fst)+IntKind.i64.wrap (x3*x6.snd.fst)))
   (decide (x3>0))).bind
  λy=>some ((y.fst.fst,y.fst.snd.fst,()),())
 else
  (mc aX (IntKind.i64.wrap (IntKind.i64.wrap (x1*x4.snd.fst)+IntKind.i64.wrap (x3*x6.snd.fst)))
   false).bind
  λy=>some ((y.fst.fst,y.fst.snd.fst,()),()):=(aP WG [1,1,1,0,1,0] (by kernel_rfl) _).trans (by kernel_rfl)
theorem aeQ(a0:aa)(a1:Int)(a2:aa)(a3:Int):zk a0 a1 a2 a3 =
 (mb a0).bind λy =>
 bif !y.fst.fst then some ((([],0,false),false,()),())
 else
 (mb a2).bind λy =>
  bif !y.fst.fst then some ((([],0,false),false,()),())
  else
  bif (↑(List.length a0.fst):Int) != (↑(List.length a2.fst):Int)then some ((([],0,false),false,()),())
  else
   (iG a1 0 400000000).bind λy =>
   bif !y.fst.fst then some ((([],0,false),false,()),())
   else
    (iG a3 0 400000000).bind λy =>
    bif !y.fst.fst then some ((([],0,false),false,()),())else tO a1 a3 a0 a2 ([],0,false) [] 0:=(Eq.trans (by kernel_rfl:zk a0 a1 a2 a3=ax LY (Tryz.f107.body.getD .skip) PJ (aU 98 [(aH,Mode.ro),(ak,Mode.ro),(aH,Mode.ro),(ak,Mode.ro)] (a0,a1,a2,a3,()))) (all_eq WG _)).trans (by kernel_rfl)
def xp:Env:=Fb.env C AX.1 Tryz.f72
def xA:=Fb.out C
def qY(x1:Int)(x2:Int×List aa)(x4:Int×List aa)(x6:List aa)(x8:Int)(x9:Int):Option ((aB×Bool×PUnit)×PUnit):=aL xp [1,1,1,0,1,0,0,1,0,0,1,0] (Tryz.f72.body.getD .skip) xA (V.dead::(V.d none 0 ak x1::V.box none 0 aA x2::V.dead::(V.box none aA.depth aA x4::V.dead::(V.d none 1 (Ty.slice 66 aH) x6::V.dead::(V.d none 0 (Ty.int IntKind.i64) x8::V.d none 0 (Ty.int IntKind.i64) x9::dd 103 ([]))))))
def qZ(x1:Int)(x2:Int×List aa)(x4:Int×List aa)(x6:List aa)(x8:Int):Option ((aB×Bool×PUnit)×PUnit):=aL xp [1,1,1,0,1,0] (Tryz.f72.body.getD .skip) xA (V.dead::(V.d none 0 ak x1::V.box none 0 aA x2::V.dead::(V.box none aA.depth aA x4::V.dead::(V.d none 1 (Ty.slice 66 aH) x6::V.dead::(V.d none 0 (Ty.int IntKind.i64) x8::dd 104 ([]))))))
def tT(x1:Int)(x2:Int×List aa)(x4:Int×List aa)(x6:List aa)(x7:Int):Option ((aB×Bool×PUnit)×PUnit):=aL xp [1,1,0,1,0] (Tryz.f72.body.getD .skip) xA (V.dead::(V.d none 0 ak x1::V.box none 0 aA x2::V.dead::(V.box none aA.depth aA x4::V.dead::(V.d none 1 (Ty.slice 66 aH) x6::V.d none 0 (Ty.int IntKind.i64) x7::dd 105 ([])))))
def uw(a0:Int×List aa)(a1:Int):Option ((aB×Bool×PUnit)×PUnit):=Od.ao (a0,a1,())
def akF:List (Nat×List Nat):=[(1000003,[1,1,0,1,0]),(1000008,[1,1,1,0,1,0]),(1000011,[1,1,1,0,1,0,0,1,0,0,1,0])]
theorem CK:okB akF (Tryz.f72.body.getD .skip) []=true:=by kernel_rfl
theorem RB(x1:Int)(x2:Int×List aa)(x4:Int×List aa)(x6:List aa)(x8:Int)(x9:Int):qY x1 x2 x4 x6 x8 x9 =
 bif decide (x9<(↑(List.length x2.snd):Int))then
 (ab x2.snd x8).bind λy =>
 (ab y.fst x1).bind λy =>
  (ab x2.snd x9).bind λaw =>
  (ab aw.fst x1).bind λa7 =>
   bif decide (y<=0)then qY x1 x2 x4 x6 x8 (IntKind.i64.wrap (x9+1))
   else
   bif decide (a7>=0)then qY x1 x2 x4 x6 x8 (IntKind.i64.wrap (x9+1))
   else
    (ab x2.snd x8).bind λbG =>
    (ab x2.snd x9).bind λcI =>
     (zk bG (IntKind.i64.wrap (0 - a7)) cI y).bind λy =>
     bif !y.fst.snd.fst then some (((0,[]),false,()),())
     else
      bif decide ((x6.length+1)*40<=140737488355328)then
      qY x1 x2 x4 (x6++[y.fst.fst]) x8 (IntKind.i64.wrap (x9+1))
      else none
else qZ x1 x2 x4 x6 (IntKind.i64.wrap (x8+1)):=(aP CK [1,1,1,0,1,0,0,1,0,0,1,0] (by kernel_rfl) _).trans (by kernel_rfl)
theorem RE(x1:Int)(x2:Int×List aa)(x4:Int×List aa)(x6:List aa)(x8:Int):qZ x1 x2 x4 x6 x8 =
 bif decide (x8<(↑(List.length x2.snd):Int))then qY x1 x2 x4 x6 x8 0
else
 (oT x2.fst x6).bind λy =>
 bif decide ((↑(List.length y.fst.fst.snd):Int)>16)then some (((0,[]),false,()),())
 else some ((y.fst.fst,true,()),()):=(aP CK [1,1,1,0,1,0] (by kernel_rfl) _).trans (by kernel_rfl)
theorem RD(x1:Int)(x2:Int×List aa)(x4:Int×List aa)(x6:List aa)(x7:Int):tT x1 x2 x4 x6 x7 =
 bif decide (x7<(↑(List.length x2.snd):Int))then
 (ab x2.snd x7).bind λy =>
 (ab y.fst x1).bind λy =>
  bif y==0 then
  (ab x2.snd x7).bind λy =>
   bif decide ((x6.length+1)*40<=140737488355328)then
   tT x1 x2 x4 (x6++[y]) (IntKind.i64.wrap (x7+1))
   else none
  else tT x1 x2 x4 x6 (IntKind.i64.wrap (x7+1))
else qZ x1 x2 x4 x6 0:=(aP CK [1,1,0,1,0] (by kernel_rfl) _).trans (by kernel_rfl)
theorem aff(a0:Int×List aa)(a1:Int):uw a0 a1 =
 tT a1 a0 (0,[]) [] 0:=(Eq.trans (by kernel_rfl:uw a0 a1=ax xp (Tryz.f72.body.getD .skip) xA (aU 113 [(aA,Mode.ro),(ak,Mode.ro)] (a0,a1,()))) (all_eq CK _)).trans (by kernel_rfl)
def LV:Env:=EV.env C Be.1 Tryz.f131
def PG:=EV.out C
def xT(x4:Int×List aa)(x5:Int):Option ((Bool×Bool×PUnit)×PUnit):=aL LV [1,1,1,0,1,0] (Tryz.f131.body.getD .skip) PG (dd 4 (V.box none 0 aA x4::V.d none 0 (Ty.int IntKind.i64) x5::dd 30 ([])))
def uj(a0:Int×List aa):Option ((Bool×Bool×PUnit)×PUnit):=NN.ao (a0,())
def akp:List (Nat×List Nat):=[(1000005,[1,1,1,0,1,0])]
theorem WC:okB akp (Tryz.f131.body.getD .skip) []=true:=by kernel_rfl
theorem Rg(x4:Int×List aa)(x5:Int):xT x4 x5 =
 bif decide (x5>=0)then
 (uw x4 x5).bind λy =>
 bif !y.fst.snd.fst then some ((false,false,()),())else xT y.fst.fst (IntKind.i64.wrap (x5 - 1))
else some ((decide ((↑(List.length x4.snd):Int)>0),true,()),()):=(aP WC [1,1,1,0,1,0] (by kernel_rfl) _).trans (by kernel_rfl)
theorem aeH(a0:Int×List aa):uj a0 =
 (nL a0).bind λy =>
 bif !y.fst.fst then some ((false,false,()),())
 else (oT a0.fst a0.snd).bind λy=>xT y.fst.fst (IntKind.i64.wrap (a0.fst - 1)):=(Eq.trans (by kernel_rfl:uj a0=ax LV (Tryz.f131.body.getD .skip) PG (aU 36 [(aA,Mode.ro)] (a0,()))) (all_eq WC _)).trans (by kernel_rfl)
def Mb:Env:=Fa.env C AT.1 Tryz.f73
def PS:=Fa.out C
def yd(x1:Int×List aa)(x2:Int×List aa)(x3:Int×List aa)(x4:Int):Option ((aB×PUnit)×PUnit):=aL Mb [1,1,0,1,0] (Tryz.f73.body.getD .skip) PS (V.dead::(V.box none 0 aA x1::V.box none aA.depth aA x2::V.box none aA.depth aA x3::V.d none 0 (Ty.int IntKind.i64) x4::dd 22 ([])))
def rr(a0:Int×List aa):Option ((aB×PUnit)×PUnit):=Oc.ao (a0,())
def akE:List (Nat×List Nat):=[(1000003,[1,1,0,1,0])]
theorem WO:okB akE (Tryz.f73.body.getD .skip) []=true:=by kernel_rfl
theorem RA(x1:Int×List aa)(x2:Int×List aa)(x3:Int×List aa)(x4:Int):yd x1 x2 x3 x4 =
 bif decide (x4<(↑(List.length x1.snd):Int))then
 (ab x1.snd x4).bind λy =>
 (uv y).bind λy =>
  bif decide ((List.length x3.snd+1)*40<=140737488355328)then
  yd x1 x2 (x3.fst,x3.snd++[y.fst.fst]) (IntKind.i64.wrap (x4+1))
  else none
else some ((x3,()),()):=(aP WO [1,1,0,1,0] (by kernel_rfl) _).trans (by kernel_rfl)
theorem afe(a0:Int×List aa):rr a0 =
 yd a0 (0,[]) (a0.fst,[]) 0:=(Eq.trans (by kernel_rfl:rr a0=ax Mb (Tryz.f73.body.getD .skip) PS (aU 27 [(aA,Mode.ro)] (a0,()))) (all_eq WO _)).trans (by kernel_rfl)
def LZ:Env:=E0.env C Bc.1 Tryz.f152
def PK:=E0.out C
def xU(x1:aa)(x2:aa)(x4:aa)(x5:Int):Option ((aa×Bool×PUnit)×PUnit):=aL LZ [1,1,1,0,1,0] (Tryz.f152.body.getD .skip) PK (V.dead::(V.box none 0 aH x1::V.box none aH.depth aH x2::V.dead::(V.box none aH.depth aH x4::V.d none 0 (Ty.int IntKind.i64) x5::dd 30 ([]))))
def zl(a0:aa):Option ((aa×Bool×PUnit)×PUnit):=NU.ao (a0,())
def aku:List (Nat×List Nat):=[(1000005,[1,1,1,0,1,0])]
theorem WH:okB aku (Tryz.f152.body.getD .skip) []=true:=by kernel_rfl
theorem Rn(x1:aa)(x2:aa)(x4:aa)(x5:Int):xU x1 x2 x4 x5 =
 bif decide (x5<(↑(List.length x1.fst):Int))then
 (ab x1.fst x5).bind λy =>
 bif decide ((List.length x4.fst+1)*8<=140737488355328)then
  xU x1 x2 (x4.fst++[IntKind.i64.wrap (0 - y)],x4.snd) (IntKind.i64.wrap (x5+1))
 else none
else some ((x4,true,()),()):=(aP WH [1,1,1,0,1,0] (by kernel_rfl) _).trans (by kernel_rfl)
theorem aeS(a0:aa):zl a0 =
 (mb a0).bind λy =>
 bif !y.fst.fst then some ((([],0,false),false,()),())
 else xU a0 ([],0,false) ([],IntKind.i64.wrap (0 - a0.snd.fst),!a0.snd.snd) 0:=(Eq.trans (by kernel_rfl:zl a0=ax LZ (Tryz.f152.body.getD .skip) PK (aU 36 [(aH,Mode.ro)] (a0,()))) (all_eq WH _)).trans (by kernel_rfl)
def zj(a0:Int×List aa)(a1:Int×List aa):Option ((aB×Bool×PUnit)×PUnit):=NS.ao (a0,a1,())
theorem aeP(a0:Int×List aa)(a1:Int×List aa):zj a0 a1 =
 (nL a0).bind λy =>
 bif !y.fst.fst then some (((0,[]),false,()),())
 else
 (nL a1).bind λy =>
  bif !y.fst.fst then some (((0,[]),false,()),())
  else
  bif a0.fst != a1.fst then some (((0,[]),false,()),())
  else
   bif decide ((0+List.length a0.snd)*40<=140737488355328)then
   bif decide ((List.length a0.snd+List.length a1.snd)*40<=140737488355328)then
    (oT a0.fst (a0.snd++a1.snd)).bind λy =>
    bif decide ((↑(List.length y.fst.fst.snd):Int)>16)then some (((0,[]),false,()),())
    else some ((y.fst.fst,true,()),())
   else none
   else none:=by kernel_rfl
def Gb(a0:Int×List aa)(a1:aa):Option ((Bool×Bool×PUnit)×PUnit):=NJ.ao (a0,a1,())
theorem aeB(a0:Int×List aa)(a1:aa):Gb a0 a1 =
 (zl a1).bind λy =>
 (zj a0 ((↑(List.length a1.fst):Int),[y.fst.fst])).bind λaw =>
 bif !y.fst.snd.fst then some ((false,false,()),())
 else
  bif !aw.fst.snd.fst then some ((false,false,()),())
  else (uj aw.fst.fst).bind λy=>some ((y.fst.fst,y.fst.snd.fst,()),()):=by kernel_rfl
def Mc:Env:=Fc.env C AQ.1 Tryz.f103
def PT:=Fc.out C
def tU(x1:Int×List aa)(x2:Int×List aa)(x6:Int×List aa)(x7:Int):Option ((aB×Bool×PUnit)×PUnit):=aL Mc [1,1,1,1,1,0,1,0] (Tryz.f103.body.getD .skip) PT (V.dead::(V.box none 0 aA x1::V.box none 0 aA x2::dd 3 (V.box none 0 aA x6::V.d none 0 (Ty.int IntKind.i64) x7::dd 56 ([]))))
def zq(a0:Int×List aa):Option ((aB×Bool×PUnit)×PUnit):=Oe.ao (a0,())
def akG:List (Nat×List Nat):=[(1000008,[1,1,1,1,1,0,1,0])]
theorem WQ:okB akG (Tryz.f103.body.getD .skip) []=true:=by kernel_rfl
theorem RF(x1:Int×List aa)(x2:Int×List aa)(x6:Int×List aa)(x7:Int):tU x1 x2 x6 x7 =
 bif decide (x7<(↑(List.length x6.snd):Int))then
 bif decide (0<=0)&&decide (0<=x7)&&decide (x7<=(↑(List.length x6.snd):Int))then
 bif decide ((0+(List.drop (Int.toNat 0) (List.take x7.toNat x6.snd)).length)*40<=140737488355328)then
  bif
   decide (0<=IntKind.i64.wrap (x7+1))&&decide (IntKind.i64.wrap (x7+1)<=(↑(List.length x6.snd):Int)) &&
   decide ((↑(List.length x6.snd):Int)<=(↑(List.length x6.snd):Int))then
  bif
   decide
    (((List.drop (Int.toNat 0) (List.take x7.toNat x6.snd)).length +
     (List.drop (IntKind.i64.wrap (x7+1)).toNat (List.take (List.length x6.snd) x6.snd)).length) *
     40 <=
    140737488355328)then
   (ab x6.snd x7).bind λy =>
   (Gb
     (x1.fst,
     List.drop (Int.toNat 0) (List.take x7.toNat x6.snd) ++
      List.drop (IntKind.i64.wrap (x7+1)).toNat (List.take (List.length x6.snd) x6.snd))
     y).bind
    λy =>
    bif !y.fst.snd.fst then some (((0,[]),false,()),())
    else
    bif y.fst.fst then
     (rr
      (x1.fst,
       List.drop (Int.toNat 0) (List.take x7.toNat x6.snd) ++
       List.drop (IntKind.i64.wrap (x7+1)).toNat (List.take (List.length x6.snd) x6.snd))).bind
     λy=>tU x1 x2 y.fst.fst x7
    else tU x1 x2 x6 (IntKind.i64.wrap (x7+1))
  else none
  else none
 else none
 else none
else some ((x6,true,()),()):=(aP WQ [1,1,1,1,1,0,1,0] (by kernel_rfl) _).trans (by kernel_rfl)
theorem afg(a0:Int×List aa):zq a0 =
 (uj a0).bind λy =>
 bif !y.fst.snd.fst then some (((0,[]),false,()),())
 else
 bif y.fst.fst then (zr a0.fst).bind λy=>some ((y.fst.fst,true,()),())
 else (rr a0).bind λy=>tU a0 (0,[]) y.fst.fst 0:=(Eq.trans (by kernel_rfl:zq a0=ax Mc (Tryz.f103.body.getD .skip) PT (aU 64 [(aA,Mode.ro)] (a0,()))) (all_eq WQ _)).trans (by kernel_rfl)
def oQ(a0:List ah)(a1:Int×List aa)(a2:List (List Int)):Option ((List ah×Bool×PUnit)×PUnit):=NY.ao (a0,a1,a2,())
theorem aeZ(a0:List ah)(a1:Int×List aa)(a2:List (List Int)):oQ a0 a1 a2 =
 (oT a1.fst a1.snd).bind λy =>
 (zq y.fst.fst).bind λy =>
 bif !y.fst.snd.fst then some (([],false,()),())
 else
  bif decide ((↑a0.length:Int)>=24)then some (([],false,()),())
  else
  bif (↑(List.length y.fst.fst.snd):Int)==1 then
   (ab y.fst.fst.snd 0).bind λaw =>
   (ur aw).bind λa7 =>
    bif a7.fst.fst then some ((a0,true,()),())
    else
    bif decide ((0+a0.length)*56<=140737488355328)then
     bif decide ((a0.length+1)*56<=140737488355328)then some ((a0++[(y.fst.fst,a2)],true,()),())
     else none
    else none
  else
   bif decide ((0+a0.length)*56<=140737488355328)then
   bif decide ((a0.length+1)*56<=140737488355328)then some ((a0++[(y.fst.fst,a2)],true,()),())else none
   else none:=by kernel_rfl
def DO:Env:=E1.env C A2.1 Tryz.f69
def D3:=E1.out C
def tP(x1:List Int)(x2:Int×List aa)(x4:Int×List aa)(x6:Int×List aa)(x7:Int)(x8:List Int)(x9:Int):Option ((aB×Bool×PUnit)×PUnit):=aL DO [1,1,1,0,1,0,0,1,0,0,1,0,1,0] (Tryz.f69.body.getD .skip) D3 (V.dead::(V.d none 0 ba x1::V.box none 0 aA x2::V.dead::(V.box none aA.depth aA x4::V.dead::(V.box none aA.depth aA x6::V.d none 0 (Ty.int IntKind.i64) x7::V.d none (ak.depth+1) (Ty.slice 3 ak) x8::V.d none 0 (Ty.int IntKind.i64) x9::dd 85 ([])))))
def xV(x1:List Int)(x2:Int×List aa)(x4:Int×List aa)(x6:Int×List aa)(x7:Int):Option ((aB×Bool×PUnit)×PUnit):=aL DO [1,1,1,0,1,0] (Tryz.f69.body.getD .skip) D3 (V.dead::(V.d none 0 ba x1::V.box none 0 aA x2::V.dead::(V.box none aA.depth aA x4::V.dead::(V.box none aA.depth aA x6::V.d none 0 (Ty.int IntKind.i64) x7::dd 87 ([])))))
def uk(a0:Int×List aa)(a1:List Int):Option ((aB×Bool×PUnit)×PUnit):=NW.ao (a0,a1,())
def akv:List (Nat×List Nat):=[(1000005,[1,1,1,0,1,0]),(1000009,[1,1,1,0,1,0,0,1,0,0,1,0,1,0])]
theorem JL:okB akv (Tryz.f69.body.getD .skip) []=true:=by kernel_rfl
theorem Rp(x1:List Int)(x2:Int×List aa)(x4:Int×List aa)(x6:Int×List aa)(x7:Int)(x8:List Int)(x9:Int):tP x1 x2 x4 x6 x7 x8 x9 =
 bif decide (x9<(↑x1.length:Int))then
 (ab x1 x9).bind λy =>
 (iG y 0 3).bind λy =>
  bif !y.fst.fst then some (((0,[]),false,()),())
  else
  (ab x1 x9).bind λy =>
   (ab x1 x9).bind λaw =>
   (ab x8 aw).bind λa7 =>
    (ab x8 aw).bind λbG =>
    (ab x2.snd x7).bind λcI =>
     (ab cI.fst x9).bind λew =>
     (ab x8 y).bind λfi =>
      (ab x8 y).bind λkR =>
      (ab x8 y).bind λgU =>
       (some (x8.set y.toNat (IntKind.i64.wrap (bG+ew)))).bind λy =>
       tP x1 x2 x4 x6 x7 y (IntKind.i64.wrap (x9+1))
else
 (ab x2.snd x7).bind λy =>
 (ab x2.snd x7).bind λaw =>
  (mc x8 y.snd.fst aw.snd.snd).bind λy =>
  bif !y.fst.snd.fst then some (((0,[]),false,()),())
  else
   bif decide ((List.length x6.snd+1)*40<=140737488355328)then
   xV x1 x2 x4 (x6.fst,x6.snd++[y.fst.fst]) (IntKind.i64.wrap (x7+1))
   else none:=(aP JL [1,1,1,0,1,0,0,1,0,0,1,0,1,0] (by kernel_rfl) _).trans (by kernel_rfl)
theorem Ro(x1:List Int)(x2:Int×List aa)(x4:Int×List aa)(x6:Int×List aa)(x7:Int):xV x1 x2 x4 x6 x7 =
 bif decide (x7<(↑(List.length x2.snd):Int))then tP x1 x2 x4 x6 x7 (List.replicate (Int.toNat 4) (0:Int)) 0
else some ((x6,true,()),()):=(aP JL [1,1,1,0,1,0] (by kernel_rfl) _).trans (by kernel_rfl)
theorem aeV(a0:Int×List aa)(a1:List Int):uk a0 a1 =
 (nL a0).bind λy =>
 bif !y.fst.fst then some (((0,[]),false,()),())
 else bif (↑a1.length:Int) != a0.fst then some (((0,[]),false,()),())else xV a1 a0 (0,[]) (4,[]) 0:=(Eq.trans (by kernel_rfl:uk a0 a1=ax DO (Tryz.f69.body.getD .skip) D3 (aU 95 [(aA,Mode.ro),(ba,Mode.ro)] (a0,a1,()))) (all_eq JL _)).trans (by kernel_rfl)
def L5:Env:=E5.env C AZ.1 Tryz.f71
def PN:=E5.out C
def xY(x0:List (List Int))(x3:List (List Int))(x4:Int):Option ((List (List Int)×PUnit)×PUnit):=aL L5 [1,1,0,1,0] (Tryz.f71.body.getD .skip) PN (V.d none 0 dE x0::dd 2 (V.d none (ba.depth+1) (Ty.slice 58 ba) x3::V.d none 0 (Ty.int IntKind.i64) x4::dd 17 ([])))
def oR(a0:List (List Int)):Option ((List (List Int)×PUnit)×PUnit):=N1.ao (a0,())
def akz:List (Nat×List Nat):=[(1000003,[1,1,0,1,0])]
theorem WK:okB akz (Tryz.f71.body.getD .skip) []=true:=by kernel_rfl
theorem Rs(x0:List (List Int))(x3:List (List Int))(x4:Int):xY x0 x3 x4 =
 bif decide (x4<(↑x0.length:Int))then
 (ab x0 x4).bind λy =>
 bif decide ((0+y.length)*8<=140737488355328)then
  bif decide ((x3.length+1)*24<=140737488355328)then xY x0 (x3++[y]) (IntKind.i64.wrap (x4+1))
  else none
 else none
else some ((x3,()),()):=(aP WK [1,1,0,1,0] (by kernel_rfl) _).trans (by kernel_rfl)
theorem ae2(a0:List (List Int)):oR a0 =
 xY a0 [] 0:=(Eq.trans (by kernel_rfl:oR a0=ax L5 (Tryz.f71.body.getD .skip) PN (aU 22 [(dE,Mode.ro)] (a0,()))) (all_eq WK _)).trans (by kernel_rfl)
def L4:Env:=E3.env C A5.1 Tryz.f32
def PM:=E3.out C
def xX(x0:List ah)(x3:List ah)(x4:Int):Option ((List ah×PUnit)×PUnit):=aL L4 [1,1,0,1,0] (Tryz.f32.body.getD .skip) PM (V.d none 0 bD x0::dd 2 (V.d none (fA.depth+1) (Ty.slice 81 fA) x3::V.d none 0 (Ty.int IntKind.i64) x4::dd 24 ([])))
def rk(a0:List ah):Option ((List ah×PUnit)×PUnit):=NZ.ao (a0,())
def akx:List (Nat×List Nat):=[(1000003,[1,1,0,1,0])]
theorem WJ:okB akx (Tryz.f32.body.getD .skip) []=true:=by kernel_rfl
theorem Rr(x0:List ah)(x3:List ah)(x4:Int):xX x0 x3 x4 =
 bif decide (x4<(↑x0.length:Int))then
 (ab x0 x4).bind λy =>
 (rr y.fst).bind λy =>
  (ab x0 x4).bind λaw =>
  (oR aw.snd).bind λa7 =>
   bif decide ((x3.length+1)*56<=140737488355328)then
   xX x0 (x3++[(y.fst.fst,a7.fst.fst)]) (IntKind.i64.wrap (x4+1))
   else none
else some ((x3,()),()):=(aP WJ [1,1,0,1,0] (by kernel_rfl) _).trans (by kernel_rfl)
theorem ae0(a0:List ah):rk a0 =
 xX a0 [] 0:=(Eq.trans (by kernel_rfl:rk a0=ax L4 (Tryz.f32.body.getD .skip) PM (aU 29 [(bD,Mode.ro)] (a0,()))) (all_eq WJ _)).trans (by kernel_rfl)
def tq:Env:=E4.env C A3.1 Tryz.f31
def tr:=E4.out C
def nJ(x0:List Rel)(x2:List (List ah))(x4:Int×aa×ByteArray×ByteArray×List Int×Int×Int×Int)(x8:List ah)(x9:Bool)(aX:Int)(bQ:Int):Option ((List ah×Bool×PUnit) ×
 List (List ah)×PUnit):=aL tq [1,1,1,0,1,0,1,1,1,0,1,1,0] (Tryz.f31.body.getD .skip) tr (V.d none 0 bq x0::V.dead::(V.d none 1 jg x2::V.dead::(V.box none 0 cM x4::dd 3 (V.d none 0 (Ty.slice 81 fA) x8::V.d none 0 Ty.bool x9::V.d none 0 ak aX::V.d none 0 (Ty.int IntKind.i64) bQ::dd 217 ([])))))
def tQ(x2:List (List ah))(x4:Int×aa×ByteArray×ByteArray×List Int×Int×Int×Int)(x8:List ah)(x9:Bool)(x14:List ah)(x15:List ah)(x16:Int)(cN:Int):Option ((List ah×Bool×PUnit) ×
 List (List ah)×PUnit):=aL tq [1,1,1,0,1,0,1,1,1,1,1,1,1,0,1,1,1,0,0,1,0,0,1,0] (Tryz.f31.body.getD .skip) tr (dd 2 (V.d none 1 jg x2::V.dead::(V.box none 0 cM x4::dd 3 (V.d none 0 (Ty.slice 81 fA) x8::V.d none 0 Ty.bool x9::dd 4 (V.d none 0 bD x14::V.d none 0 bD x15::V.d none 0 (Ty.int IntKind.i64) x16::V.d none 0 (Ty.int IntKind.i64) cN::dd 145 (V.view 2 [] jg::dd 4 (V.view 2 [] jg::dd 60 ([]))))))))
def oI(x2:List (List ah))(x4:Int×aa×ByteArray×ByteArray×List Int×Int×Int×Int)(x8:List ah)(x9:Bool)(x14:List ah)(x15:List ah)(x16:Int):Option ((List ah×Bool×PUnit) ×
 List (List ah)×PUnit):=aL tq [1,1,1,0,1,0,1,1,1,1,1,1,1,0,1,1,1,0] (Tryz.f31.body.getD .skip) tr (dd 2 (V.d none 1 jg x2::V.dead::(V.box none 0 cM x4::dd 3 (V.d none 0 (Ty.slice 81 fA) x8::V.d none 0 Ty.bool x9::dd 4 (V.d none 0 bD x14::V.d none 0 bD x15::V.d none 0 (Ty.int IntKind.i64) x16::dd 146 (V.view 2 [] jg::dd 4 (V.view 2 [] jg::dd 60 ([]))))))))
def tR(x2:List (List ah))(x4:Int×aa×ByteArray×ByteArray×List Int×Int×Int×Int)(x8:List ah)(x9:Bool)(fC:List ah)(dF:Int):Option ((List ah×Bool×PUnit) ×
 List (List ah)×PUnit):=aL tq [1,1,1,0,1,0,1,1,1,1,1,1,1,1,1,1,0] (Tryz.f31.body.getD .skip) tr (dd 2 (V.d none 1 jg x2::V.dead::(V.box none 0 cM x4::dd 3 (V.d none 0 (Ty.slice 81 fA) x8::V.d none 0 Ty.bool x9::dd 10 (V.d none 0 bD fC::V.d none 0 (Ty.int IntKind.i64) dF::dd 5 (V.view 2 [] jg::dd 201 ([])))))))
def uo(a0:List Rel)(a1:Int×aa×ByteArray×ByteArray×List Int×Int×Int×Int)(a2:List (List ah)):Option ((List ah×Bool×PUnit) ×
 List (List ah)×PUnit):=N0.ao (a0,a1,a2,())
def aky:List (Nat×List Nat):=[(1000017,[1,1,1,0,1,0,1,1,1,0,1,1,0]),(1000031,[1,1,1,0,1,0,1,1,1,1,1,1,1,0,1,1,1,0]),(1000034,[1,1,1,0,1,0,1,1,1,1,1,1,1,0,1,1,1,0,0,1,0,0,1,0]),(1000006,[1,1,1,0,1,0,1,1,1,1,1,1,1,1,1,1,0])]
theorem vW:okB aky (Tryz.f31.body.getD .skip) []=true:=by kernel_rfl
theorem Ed(x0:List Rel)(x2:List (List ah))(x4:Int×aa×ByteArray×ByteArray×List Int×Int×Int×Int)(x8:List ah)(x9:Bool)(aX:Int)(bQ:Int):nJ x0 x2 x4 x8 x9 aX bQ =
 (ab x0 aX).bind λy =>
 bif decide (bQ<(↑(List.length y.snd.snd):Int))then
 bif x9 then
  bif !ByteArray.toList x4.snd.snd.snd.fst==(ByteArray.mk #[]).toList then
  (ab x0 aX).bind λy =>
   (ab y.snd.snd bQ).bind λy =>
   bif !ByteArray.toList y.fst==ByteArray.toList x4.snd.snd.snd.fst then
    nJ x0 x2 x4 x8 x9 aX (IntKind.i64.wrap (bQ+1))
   else
    (ab x0 aX).bind λy =>
    (ab y.snd.snd bQ).bind λy =>
     (uk y.snd x4.snd.snd.snd.snd.fst).bind λy =>
     bif !y.fst.snd.fst then some (([],false,()),x2,())
     else
      (oQ x8 y.fst.fst [[aX,bQ]]).bind λy =>
      nJ x0 x2 x4 y.fst.fst y.fst.snd.fst aX (IntKind.i64.wrap (bQ+1))
  else
  (ab x0 aX).bind λy =>
   (ab y.snd.snd bQ).bind λy =>
   (uk y.snd x4.snd.snd.snd.snd.fst).bind λy =>
    bif !y.fst.snd.fst then some (([],false,()),x2,())
    else
    (oQ x8 y.fst.fst [[aX,bQ]]).bind λy =>
     nJ x0 x2 x4 y.fst.fst y.fst.snd.fst aX (IntKind.i64.wrap (bQ+1))
 else some ((x8,x9,()),x2,())
 else some ((x8,x9,()),x2,()):=(aP vW [1,1,1,0,1,0,1,1,1,0,1,1,0] (by kernel_rfl) _).trans (by kernel_rfl)
theorem Ef(x2:List (List ah))(x4:Int×aa×ByteArray×ByteArray×List Int×Int×Int×Int)(x8:List ah)(x9:Bool)(x14:List ah)(x15:List ah)(x16:Int)(cN:Int):tQ x2 x4 x8 x9 x14 x15 x16 cN =
 bif decide (cN<(↑x15.length:Int))then
 bif x9 then
 (ab x14 x16).bind λy =>
  (ab x15 cN).bind λaw =>
  (zj y.fst aw.fst).bind λy =>
   bif !y.fst.snd.fst then some (([],false,()),x2,())
   else
   (ab x14 x16).bind λa7 =>
    (oR a7.snd).bind λbG =>
    (ab x15 cN).bind λcI =>
     (oR cI.snd).bind λew =>
     bif decide ((List.length bG.fst.fst+List.length ew.fst.fst)*24<=140737488355328)then
      (oQ x8 y.fst.fst (bG.fst.fst++ew.fst.fst)).bind λy =>
      tQ x2 x4 y.fst.fst y.fst.snd.fst x14 x15 x16 (IntKind.i64.wrap (cN+1))
     else none
 else oI x2 x4 x8 x9 x14 x15 (IntKind.i64.wrap (x16+1))
else oI x2 x4 x8 x9 x14 x15 (IntKind.i64.wrap (x16+1)):=(aP vW [1,1,1,0,1,0,1,1,1,1,1,1,1,0,1,1,1,0,0,1,0,0,1,0] (by kernel_rfl) _).trans (by kernel_rfl)
theorem Ee(x2:List (List ah))(x4:Int×aa×ByteArray×ByteArray×List Int×Int×Int×Int)(x8:List ah)(x9:Bool)(x14:List ah)(x15:List ah)(x16:Int):oI x2 x4 x8 x9 x14 x15 x16 =
 bif decide (x16<(↑x14.length:Int))then
 bif x9 then tQ x2 x4 x8 x9 x14 x15 x16 0 else some ((x8,x9,()),x2,())
else some ((x8,x9,()),x2,()):=(aP vW [1,1,1,0,1,0,1,1,1,1,1,1,1,0,1,1,1,0] (by kernel_rfl) _).trans (by kernel_rfl)
theorem Eg(x2:List (List ah))(x4:Int×aa×ByteArray×ByteArray×List Int×Int×Int×Int)(x8:List ah)(x9:Bool)(fC:List ah)(dF:Int):tR x2 x4 x8 x9 fC dF =
 bif decide (dF<(↑fC.length:Int))then
 bif x9 then
 (ab fC dF).bind λy =>
  (uw y.fst x4.snd.snd.snd.snd.snd.fst).bind λy =>
  bif !y.fst.snd.fst then some (([],false,()),x2,())
  else
   (ab fC dF).bind λaw =>
   (oR aw.snd).bind λa7 =>
    (oQ x8 y.fst.fst a7.fst.fst).bind λy =>
    tR x2 x4 y.fst.fst y.fst.snd.fst fC (IntKind.i64.wrap (dF+1))
 else some ((x8,x9,()),x2,())
else some ((x8,x9,()),x2,()):=(aP vW [1,1,1,0,1,0,1,1,1,1,1,1,1,1,1,1,0] (by kernel_rfl) _).trans (by kernel_rfl)
theorem ae1(a0:List Rel)(a1:Int×aa×ByteArray×ByteArray×List Int×Int×Int×Int)(a2:List (List ah)):uo a0 a1 a2 =
 bif a1.fst==0 then (oQ [] (4,[a1.snd.fst]) []).bind λy=>some ((y.fst.fst,y.fst.snd.fst,()),a2,())
else
 bif a1.fst==1 then (oP a0 a1.snd.snd.fst).bind λy=>nJ a0 a2 a1 [] true y.fst.fst 0
 else
 bif a1.fst==4 then
  (ab a2 a1.snd.snd.snd.snd.snd.snd.fst).bind λy =>
  (ab a2 a1.snd.snd.snd.snd.snd.snd.fst).bind λy =>
   (rk y).bind λy =>
   (ab a2 a1.snd.snd.snd.snd.snd.snd.snd).bind λaw =>
    (ab a2 a1.snd.snd.snd.snd.snd.snd.snd).bind λa7 =>
    (rk a7).bind λbG =>
     bif decide ((List.length y.fst.fst+List.length bG.fst.fst)*56<=140737488355328)then
     some ((y.fst.fst++bG.fst.fst,decide ((↑(y.fst.fst++bG.fst.fst).length:Int)<=24),()),a2,())
     else none
 else
  bif a1.fst==3 then
  (ab a2 a1.snd.snd.snd.snd.snd.snd.fst).bind λy =>
   (ab a2 a1.snd.snd.snd.snd.snd.snd.fst).bind λy =>
   (ab a2 a1.snd.snd.snd.snd.snd.snd.snd).bind λaw =>
    (ab a2 a1.snd.snd.snd.snd.snd.snd.snd).bind λa7=>oI a2 a1 [] true y a7 0
  else
  (ab a2 a1.snd.snd.snd.snd.snd.snd.fst).bind λy =>
   (ab a2 a1.snd.snd.snd.snd.snd.snd.fst).bind λy=>tR a2 a1 [] true y 0:=(Eq.trans (by kernel_rfl:uo a0 a1 a2=ax tq (Tryz.f31.body.getD .skip) tr (aU 229 [(bq,Mode.ro),(cM,Mode.ro),(jg,Mode.mut 1)] (a0,a1,a2,()))) (all_eq vW _)).trans (by kernel_rfl)
def L3:Env:=E2.env C A4.1 Tryz.f8
def PL:=E2.out C
def xW(x0:List Rel)(x1:List al)(x6:List (List ah))(x7:Int):Option ((List ah×Bool×PUnit)×PUnit):=aL L3 [1,1,1,0,1,0] (Tryz.f8.body.getD .skip) PL (V.d none 0 bq x0::V.d none 0 bM x1::dd 4 (V.d none 1 (Ty.slice 26 bD) x6::V.d none 0 (Ty.int IntKind.i64) x7::dd 38 ([])))
def um(a0:List Rel)(a1:List al):Option ((List ah×Bool×PUnit)×PUnit):=NX.ao (a0,a1,())
def akw:List (Nat×List Nat):=[(1000005,[1,1,1,0,1,0])]
theorem WI:okB akw (Tryz.f8.body.getD .skip) []=true:=by kernel_rfl
theorem Rq(x0:List Rel)(x1:List al)(x6:List (List ah))(x7:Int):xW x0 x1 x6 x7 =
 bif decide (x7<(↑x1.length:Int))then
 (ab x1 x7).bind λy =>
 (uo x0 y x6).bind λy =>
  bif !y.fst.snd.fst then some (([],false,()),())
  else
  bif decide ((List.length y.snd.fst+1)*24<=140737488355328)then
   xW x0 x1 (y.snd.fst++[y.fst.fst]) (IntKind.i64.wrap (x7+1))
  else none
else
 (ab x6 (IntKind.i64.wrap ((↑x6.length:Int) - 1))).bind λy =>
 (ab x6 (IntKind.i64.wrap ((↑x6.length:Int) - 1))).bind λy =>
  (rk y).bind λy=>some ((y.fst.fst,true,()),()):=(aP WI [1,1,1,0,1,0] (by kernel_rfl) _).trans (by kernel_rfl)
theorem aeX(a0:List Rel)(a1:List al):um a0 a1 =
 (zh a0 a1).bind λy=>bif !y.fst.fst then some (([],false,()),())else xW a0 a1 [] 0:=(Eq.trans (by kernel_rfl:um a0 a1=ax L3 (Tryz.f8.body.getD .skip) PL (aU 46 [(bq,Mode.ro),(bM,Mode.ro)] (a0,a1,()))) (all_eq WI _)).trans (by kernel_rfl)
def LM:Env:=EL.env C AY.1 Tryz.f148
def Py:=EL.out C
def tM(x0:ByteArray)(x1:Int)(x2:Int)(x7:Int):Option ((Bool×PUnit)×PUnit):=aL LM [1,1,0,1,0] (Tryz.f148.body.getD .skip) Py (V.d none 0 cV x0::V.d none 0 iC x1::V.d none 0 iC x2::dd 4 (V.d none 0 (Ty.int IntKind.i64) x7::dd 26 ([])))
def uh(a0:ByteArray)(a1:Int)(a2:Int):Option ((Bool×PUnit)×PUnit):=Nx.ao (a0,a1,a2,())
def akg:List (Nat×List Nat):=[(1000004,[1,1,0,1,0])]
theorem Wu:okB akg (Tryz.f148.body.getD .skip) []=true:=by kernel_rfl
theorem QX(x0:ByteArray)(x1:Int)(x2:Int)(x7:Int):tM x0 x1 x2 x7 =
 bif decide (x7<(↑x0.size:Int))then
 (my x0 x7).bind λy =>
 bif decide (y<x1)then some ((false,()),())
 else
  (my x0 x7).bind λy =>
  bif decide (y>x2)then some ((false,()),())else tM x0 x1 x2 (IntKind.i64.wrap (x7+1))
else some ((true,()),()):=(aP Wu [1,1,0,1,0] (by kernel_rfl) _).trans (by kernel_rfl)
theorem aen(a0:ByteArray)(a1:Int)(a2:Int):uh a0 a1 a2 =
 bif decide ((↑a0.size:Int)<1)then some ((false,()),())
else bif decide ((↑a0.size:Int)>6)then some ((false,()),())else tM a0 a1 a2 0:=(Eq.trans (by kernel_rfl:uh a0 a1 a2=ax LM (Tryz.f148.body.getD .skip) Py (aU 34 [(cV,Mode.ro),(iC,Mode.ro),(iC,Mode.ro)] (a0,a1,a2,()))) (all_eq Wu _)).trans (by kernel_rfl)
def F3(a0:ByteArray):Option ((Bool×PUnit)×PUnit):=Nv.ao (a0,())
theorem aek(a0:ByteArray):F3 a0 =
 (uh a0 65 90).bind λy=>some ((y.fst.fst,()),()):=by kernel_rfl
def y8(a0:ByteArray):Option ((Bool×PUnit)×PUnit):=Nu.ao (a0,())
theorem aej(a0:ByteArray):y8 a0 =
 (uh a0 97 122).bind λy=>some ((y.fst.fst,()),()):=by kernel_rfl
def yS(a0:Int):Option ((Bool×PUnit)×PUnit):=MV.ao (a0,())
theorem adC(a0:Int):yS a0 =
 bif decide (a0 >= -400000000)then some ((decide (a0<=400000000),()),())else some ((false,()),()):=by kernel_rfl
def q8(a0:Int):Option ((Int×PUnit)×PUnit):=M7.ao (a0,())
theorem FU(a0:Int):q8 a0 =
 bif decide (a0<0)then some ((IntKind.i64.wrap (0 - a0),()),())else some ((a0,()),()):=by kernel_rfl
def LF:Env:=EC.env C Ay.1 Tryz.f150
def Pr:=EC.out C
def xI(x0:Int)(x1:Int):Option ((Int×PUnit)×PUnit):=aL LF [1,1,0,0] (Tryz.f150.body.getD .skip) Pr (V.d none 0 ak x0::V.d none 0 ak x1::dd 14 ([]))
def oM(a0:Int)(a1:Int):Option ((Int×PUnit)×PUnit):=Nb.ao (a0,a1,())
def aj7:List (Nat×List Nat):=[(1000002,[1,1,0,0])]
theorem Wn:okB aj7 (Tryz.f150.body.getD .skip) []=true:=by kernel_rfl
theorem acd(x0:Int)(x1:Int):xI x0 x1 =
 bif x1 != 0 then bif x1 != 0 then xI x1 (x0.tmod x1)else none else some ((x0,()),()):=(aP Wn [1,1,0,0] (by kernel_rfl) _).trans (by kernel_rfl)
theorem Sw(a0:Int)(a1:Int):oM a0 a1 =
 (q8 a0).bind λy=>(q8 a1).bind λaw=>xI y.fst.fst aw.fst.fst:=(Eq.trans (by kernel_rfl:oM a0 a1=ax LF (Tryz.f150.body.getD .skip) Pr (aU 16 [(ak,Mode.ro),(ak,Mode.ro)] (a0,a1,()))) (all_eq Wn _)).trans (by kernel_rfl)
def LK:Env:=EI.env C AB.1 Tryz.f151
def Pw:=EI.out C
def tL(x0:List Int)(x3:Int)(x6:List Int)(x7:Int)(x8:Int):Option ((Int×PUnit)×PUnit):=aL LK [1,1,0,1,0] (Tryz.f151.body.getD .skip) Pw (V.d none 0 ba x0::dd 2 (V.d none 0 (Ty.int IntKind.i64) x3::dd 2 (V.d none 0 ba x6::V.d none 0 (Ty.int IntKind.i64) x7::V.d none 0 (Ty.int IntKind.i64) x8::dd 8 ([]))))
def l9(a0:List Int):Option ((Int×PUnit)×PUnit):=No.ao (a0,())
def akd:List (Nat×List Nat):=[(1000003,[1,1,0,1,0])]
theorem Ws:okB akd (Tryz.f151.body.getD .skip) []=true:=by kernel_rfl
theorem xP(x0:List Int)(x3:Int)(x6:List Int)(x7:Int)(x8:Int):tL x0 x3 x6 x7 x8 =
 bif decide (x8<x7)then
 (ab x6 x8).bind λy =>
 (oM x3 y).bind λy=>tL x0 y.fst.fst x6 x7 (IntKind.i64.wrap (x8+1))
else some ((x3,()),()):=(aP Ws [1,1,0,1,0] (by kernel_rfl) _).trans (by kernel_rfl)
theorem SD(a0:List Int):l9 a0 =
 tL a0 0 a0 (↑a0.length:Int) 0:=(Eq.trans (by kernel_rfl:l9 a0=ax LK (Tryz.f151.body.getD .skip) Pw (aU 17 [(ba,Mode.ro)] (a0,()))) (all_eq Ws _)).trans (by kernel_rfl)
def Lv:Env:=Eo.env C AH.1 Tryz.f129
def Ph:=Eo.out C
def qM(x1:aa)(x16:List Int)(cN:Int)(jk:Int):Option ((Bool×PUnit)×PUnit):=aL Lv [1,1,0,1,0] (Tryz.f129.body.getD .skip) Ph (V.dead::(V.box none 0 aH x1::dd 14 (V.d none 0 ba x16::V.d none 0 (Ty.int IntKind.i64) cN::V.d none 0 (Ty.int IntKind.i64) jk::dd 14 ([]))))
def ke(a0:aa):Option ((Bool×PUnit)×PUnit):=MQ.ao (a0,())
def ajV:List (Nat×List Nat):=[(1000004,[1,1,0,1,0])]
theorem We:okB ajV (Tryz.f129.body.getD .skip) []=true:=by kernel_rfl
theorem Qx(x1:aa)(x16:List Int)(cN:Int)(jk:Int):qM x1 x16 cN jk =
 bif decide (jk<cN)then
 (ab x16 jk).bind λy =>
 (yS y).bind λy =>
  bif !y.fst.fst then some ((false,()),())else qM x1 x16 cN (IntKind.i64.wrap (jk+1))
else
 (l9 x1.fst).bind λy =>
 (oM y.fst.fst x1.snd.fst).bind λy=>some ((decide (y.fst.fst<=1),()),()):=(aP We [1,1,0,1,0] (by kernel_rfl) _).trans (by kernel_rfl)
theorem adv(a0:aa):ke a0 =
 bif decide ((↑(List.length a0.fst):Int)>4)then some ((false,()),())
else
 (yS a0.snd.fst).bind λy =>
 bif !y.fst.fst then some ((false,()),())else qM a0 a0.fst (↑(List.length a0.fst):Int) 0:=(Eq.trans (by kernel_rfl:ke a0=ax Lv (Tryz.f129.body.getD .skip) Ph (aU 33 [(aH,Mode.ro)] (a0,()))) (all_eq We _)).trans (by kernel_rfl)
def Lw:Env:=Ep.env C Aq.1 Tryz.f99
def Pj:=Ep.out C
def tA(x1:Int×List aa)(fC:List aa)(dF:Int)(eV:Int):Option ((Bool×PUnit)×PUnit):=aL Lw [1,1,0,1,0] (Tryz.f99.body.getD .skip) Pj (V.dead::(V.box none 0 aA x1::dd 18 (V.d none 0 (Ty.slice 66 aH) fC::V.d none 0 (Ty.int IntKind.i64) dF::V.d none 0 (Ty.int IntKind.i64) eV::dd 15 ([]))))
def kT(a0:Int×List aa):Option ((Bool×PUnit)×PUnit):=MR.ao (a0,())
def ajW:List (Nat×List Nat):=[(1000004,[1,1,0,1,0])]
theorem Wf:okB ajW (Tryz.f99.body.getD .skip) []=true:=by kernel_rfl
theorem Qy(x1:Int×List aa)(fC:List aa)(dF:Int)(eV:Int):tA x1 fC dF eV =
 bif decide (eV<dF)then
 (ab fC eV).bind λy =>
 (ke y).bind λaw =>
  bif !aw.fst.fst then some ((false,()),())
  else
  bif (↑(List.length y.fst):Int) != x1.fst then some ((false,()),())
  else tA x1 fC dF (IntKind.i64.wrap (eV+1))
else some ((true,()),()):=(aP Wf [1,1,0,1,0] (by kernel_rfl) _).trans (by kernel_rfl)
theorem adw(a0:Int×List aa):kT a0 =
 bif decide (a0.fst<0)then some ((false,()),())
else
 bif decide (a0.fst>4)then some ((false,()),())
 else
 bif decide ((↑(List.length a0.snd):Int)>16)then some ((false,()),())
 else tA a0 a0.snd (↑(List.length a0.snd):Int) 0:=(Eq.trans (by kernel_rfl:kT a0=ax Lw (Tryz.f99.body.getD .skip) Pj (aU 38 [(aA,Mode.ro)] (a0,()))) (all_eq Wf _)).trans (by kernel_rfl)
def Lz:Env:=Eu.env C Ar.1 Tryz.f96
def Pm:=Eu.out C
def tD(x1:ByteArray×Int×List Rw)(bO:List Rw)(fP:Int)(dn:Int):Option ((Bool×PUnit)×PUnit):=aL Lz [1,1,0,1,0] (Tryz.f96.body.getD .skip) Pm (V.dead::(V.box none 0 ji x1::dd 24 (V.d none 0 (Ty.slice 105 nF) bO::V.d none 0 (Ty.int IntKind.i64) fP::V.d none 0 (Ty.int IntKind.i64) dn::dd 22 ([]))))
def yU(a0:ByteArray×Int×List Rw):Option ((Bool×PUnit)×PUnit):=MX.ao (a0,())
def aj0:List (Nat×List Nat):=[(1000004,[1,1,0,1,0])]
theorem Wi:okB aj0 (Tryz.f96.body.getD .skip) []=true:=by kernel_rfl
theorem QD(x1:ByteArray×Int×List Rw)(bO:List Rw)(fP:Int)(dn:Int):tD x1 bO fP dn =
 bif decide (dn<fP)then
 (ab bO dn).bind λy =>
 (y8 y.fst).bind λaw =>
  bif !aw.fst.fst then some ((false,()),())
  else
  (kT y.snd).bind λa7 =>
   bif !a7.fst.fst then some ((false,()),())
   else
   bif y.snd.fst != x1.snd.fst then some ((false,()),())
   else tD x1 bO fP (IntKind.i64.wrap (dn+1))
else some ((true,()),()):=(aP Wi [1,1,0,1,0] (by kernel_rfl) _).trans (by kernel_rfl)
theorem adF(a0:ByteArray×Int×List Rw):yU a0 =
 (F3 a0.fst).bind λy =>
 bif !y.fst.fst then some ((false,()),())
 else
 bif decide (a0.snd.fst<0)then some ((false,()),())
 else
  bif decide (a0.snd.fst>4)then some ((false,()),())
  else
  bif decide ((↑(List.length a0.snd.snd):Int)>8)then some ((false,()),())
  else tD a0 a0.snd.snd (↑(List.length a0.snd.snd):Int) 0:=(Eq.trans (by kernel_rfl:yU a0=ax Lz (Tryz.f96.body.getD .skip) Pm (aU 51 [(ji,Mode.ro)] (a0,()))) (all_eq Wi _)).trans (by kernel_rfl)
def Lu:Env:=En.env C Au.1 Tryz.f97
def Pg:=En.out C
def xC(x0:List Rel)(x1:ByteArray)(x7:List Rel)(x8:Int)(x9:Int):Option ((Int×PUnit)×PUnit):=aL Lu [1,0,1,0] (Tryz.f97.body.getD .skip) Pg (V.d none 0 bq x0::V.d none 0 cV x1::dd 5 (V.d none 0 bq x7::V.d none 0 (Ty.int IntKind.i64) x8::V.d none 0 (Ty.int IntKind.i64) x9::dd 10 ([])))
def q7(a0:List Rel)(a1:ByteArray):Option ((Int×PUnit)×PUnit):=MO.ao (a0,a1,())
def ajU:List (Nat×List Nat):=[(1000002,[1,0,1,0])]
theorem Wc:okB ajU (Tryz.f97.body.getD .skip) []=true:=by kernel_rfl
theorem Qw(x0:List Rel)(x1:ByteArray)(x7:List Rel)(x8:Int)(x9:Int):xC x0 x1 x7 x8 x9 =
 bif decide (x9<x8)then
 (ab x7 x9).bind λy =>
 bif ByteArray.toList y.fst==x1.toList then some ((x9,()),())
 else xC x0 x1 x7 x8 (IntKind.i64.wrap (x9+1))
else some ((-1,()),()):=(aP Wc [1,0,1,0] (by kernel_rfl) _).trans (by kernel_rfl)
theorem ads(a0:List Rel)(a1:ByteArray):q7 a0 a1 =
 xC a0 a1 a0 (↑a0.length:Int) 0:=(Eq.trans (by kernel_rfl:q7 a0 a1=ax Lu (Tryz.f97.body.getD .skip) Pg (aU 20 [(bq,Mode.ro),(cV,Mode.ro)] (a0,a1,()))) (all_eq Wc _)).trans (by kernel_rfl)
def Lx:Env:=Er.env C Ao.1 Tryz.f59
def Pk:=Er.out C
def tB(x0:List Rel)(x8:List Rel)(x9:Int)(aX:Int):Option ((Bool×PUnit)×PUnit):=aL Lx [1,1,0,1,0] (Tryz.f59.body.getD .skip) Pk (V.d none 0 bq x0::dd 7 (V.d none 0 bq x8::V.d none 0 (Ty.int IntKind.i64) x9::V.d none 0 (Ty.int IntKind.i64) aX::dd 16 ([])))
def yP(a0:List Rel):Option ((Bool×PUnit)×PUnit):=MS.ao (a0,())
def ajX:List (Nat×List Nat):=[(1000004,[1,1,0,1,0])]
theorem Wg:okB ajX (Tryz.f59.body.getD .skip) []=true:=by kernel_rfl
theorem Qz(x0:List Rel)(x8:List Rel)(x9:Int)(aX:Int):tB x0 x8 x9 aX =
 bif decide (aX<x9)then
 (ab x8 aX).bind λy =>
 (yU y).bind λaw =>
  bif !aw.fst.fst then some ((false,()),())
  else
  (q7 x0 y.fst).bind λy =>
   bif y.fst.fst != aX then some ((false,()),())else tB x0 x8 x9 (IntKind.i64.wrap (aX+1))
else some ((true,()),()):=(aP Wg [1,1,0,1,0] (by kernel_rfl) _).trans (by kernel_rfl)
theorem adx(a0:List Rel):yP a0 =
 bif decide ((↑a0.length:Int)>6)then some ((false,()),())else tB a0 a0 (↑a0.length:Int) 0:=(Eq.trans (by kernel_rfl:yP a0=ax Lx (Tryz.f59.body.getD .skip) Pk (aU 27 [(bq,Mode.ro)] (a0,()))) (all_eq Wg _)).trans (by kernel_rfl)
def F5(a0:aa):Option ((Bool×PUnit)×PUnit):=Ny.ao (a0,())
theorem aeo(a0:aa):F5 a0 =
 bif (↑(List.length a0.fst):Int)==0 then
 bif a0.snd.fst==0 then some ((!a0.snd.snd,()),())else some ((false,()),())
else some ((false,()),()):=by kernel_rfl
def ug(a0:Int):Option ((Bool×PUnit)×PUnit):=Nw.ao (a0,())
theorem aem(a0:Int):ug a0 =
 bif decide (a0>=0)then some ((decide (a0<4),()),())else some ((false,()),()):=by kernel_rfl
def qI:Env:=EK.env C AI.1 Tryz.f109
def qL:=EK.out C
def xR(x3:Int×aa×ByteArray×ByteArray×List Int×Int×Int×Int)(xf:List Int)(xg:Int)(tl:Int):Option ((Bool×PUnit)×PUnit):=aL qI [1,1,1,0,1,0,1,1,1,0,1,1,0,1,0] (Tryz.f109.body.getD .skip) qL (dd 3 (V.box none 0 cM x3::dd 87 (V.d none 0 ba xf::V.d none 0 (Ty.int IntKind.i64) xg::V.d none 0 (Ty.int IntKind.i64) tl::dd 16 ([]))))
def xw(x3:Int×aa×ByteArray×ByteArray×List Int×Int×Int×Int):Option ((Bool×PUnit)×PUnit):=gN qI [1,1,1,0,1,0,1,1,1,0,1,1] (Tryz.f109.body.getD .skip) qL (dd 3 (V.box none 0 cM x3::dd 106 ([])))
def DU(x3:Int×aa×ByteArray×ByteArray×List Int×Int×Int×Int)(DF:Bool):Option ((Bool×PUnit)×PUnit):=gN qI [1,1,1,0,1,0,1,1,1,1,1] (Tryz.f109.body.getD .skip) qL (dd 3 (V.box none 0 cM x3::dd 97 (V.d none 0 Ty.bool DF::dd 8 ([]))))
def xx(x0:List Rel)(x3:Int×aa×ByteArray×ByteArray×List Int×Int×Int×Int):Option ((Bool×PUnit)×PUnit):=gN qI [1,1,1] (Tryz.f109.body.getD .skip) qL (V.d none 0 bq x0::dd 2 (V.box none 0 cM x3::dd 106 ([])))
def DV(x0:List Rel)(x3:Int×aa×ByteArray×ByteArray×List Int×Int×Int×Int):Option ((Bool×PUnit)×PUnit):=gN qI [1,1] (Tryz.f109.body.getD .skip) qL (V.d none 0 bq x0::dd 2 (V.box none 0 cM x3::dd 106 ([])))
def y6(a0:List Rel)(a1:Int×aa×ByteArray×ByteArray×List Int×Int×Int×Int):Option ((Bool×PUnit)×PUnit):=Nr.ao (a0,a1,())
def akf:List (Nat×List Nat):=[(2000003,[1,1]),(2000005,[1,1,1]),(2000012,[1,1,1,0,1,0,1,1,1,0,1,1]),(1000013,[1,1,1,0,1,0,1,1,1,0,1,1,0,1,0]),(2000021,[1,1,1,0,1,0,1,1,1,1,1])]
theorem sr:okB akf (Tryz.f109.body.getD .skip) []=true:=by kernel_rfl
theorem QW(x3:Int×aa×ByteArray×ByteArray×List Int×Int×Int×Int)(xf:List Int)(xg:Int)(tl:Int):xR x3 xf xg tl =
 bif decide (tl<xg)then
 (ab xf tl).bind λy =>
 (ug y).bind λy =>
  bif !y.fst.fst then some ((false,()),())else xR x3 xf xg (IntKind.i64.wrap (tl+1))
else some ((true,()),()):=(aP sr [1,1,1,0,1,0,1,1,1,0,1,1,0,1,0] (by kernel_rfl) _).trans (by kernel_rfl)
theorem abZ(x3:Int×aa×ByteArray×ByteArray×List Int×Int×Int×Int):xw x3 =
 xR x3 x3.snd.snd.snd.snd.fst (↑(List.length x3.snd.snd.snd.snd.fst):Int) 0:=(join_eq sr [1,1,1,0,1,0,1,1,1,0,1,1] _).trans (by kernel_rfl)
theorem Pf(x3:Int×aa×ByteArray×ByteArray×List Int×Int×Int×Int)(DF:Bool):DU x3 DF =
 bif DF then (ug x3.snd.snd.snd.snd.snd.fst).bind λy=>some ((y.fst.fst,()),())
else some ((x3.snd.snd.snd.snd.snd.fst==0,()),()):=(join_eq sr [1,1,1,0,1,0,1,1,1,1,1] _).trans (by kernel_rfl)
theorem ab2(x0:List Rel)(x3:Int×aa×ByteArray×ByteArray×List Int×Int×Int×Int):xx x0 x3 =
 bif x3.fst==0 then
 bif x3.snd.snd.snd.snd.snd.fst==0 then
 (ke x3.snd.fst).bind λy =>
  bif y.fst.fst then some (((↑(List.length x3.snd.fst.fst):Int)==4,()),())else some ((false,()),())
 else some ((false,()),())
else
 bif x3.fst==1 then
 (q7 x0 x3.snd.snd.fst).bind λy =>
  bif x3.snd.snd.snd.snd.snd.fst != 0 then some ((false,()),())
  else
  bif decide (y.fst.fst<0)then some ((false,()),())
  else
   (ab x0 y.fst.fst).bind λy =>
   bif y.snd.fst != (↑(List.length x3.snd.snd.snd.snd.fst):Int)then some ((false,()),())
   else
    bif !ByteArray.toList x3.snd.snd.snd.fst==(ByteArray.mk #[]).toList then
    (y8 x3.snd.snd.snd.fst).bind λy=>bif !y.fst.fst then some ((false,()),())else xw x3
    else xw x3
 else bif x3.fst==5 then DU x3 true else DU x3 (x3.fst==6):=(join_eq sr [1,1,1] _).trans (by kernel_rfl)
theorem ab1(x0:List Rel)(x3:Int×aa×ByteArray×ByteArray×List Int×Int×Int×Int):DV x0 x3 =
 bif x3.fst != 1 then
 bif !ByteArray.toList x3.snd.snd.fst==(ByteArray.mk #[]).toList then some ((false,()),())
 else
 bif !ByteArray.toList x3.snd.snd.snd.fst==(ByteArray.mk #[]).toList then some ((false,()),())
 else
  bif decide ((↑(List.length x3.snd.snd.snd.snd.fst):Int)>0)then some ((false,()),())else xx x0 x3
else xx x0 x3:=(join_eq sr [1,1] _).trans (by kernel_rfl)
theorem aee(a0:List Rel)(a1:Int×aa×ByteArray×ByteArray×List Int×Int×Int×Int):y6 a0 a1 =
 bif a1.fst != 0 then
 (F5 a1.snd.fst).bind λy=>bif !y.fst.fst then some ((false,()),())else DV a0 a1
else DV a0 a1:=(Eq.trans (by kernel_rfl:y6 a0 a1=ax qI (Tryz.f109.body.getD .skip) qL (aU 110 [(bq,Mode.ro),(cM,Mode.ro)] (a0,a1,()))) (all_eq sr _)).trans (by kernel_rfl)
def F7(a0:Int):Option ((Int×PUnit)×PUnit):=ND.ao (a0,())
theorem aev(a0:Int):F7 a0 =
 bif a0==0 then some ((0,()),())
else
 bif a0==1 then some ((0,()),())
 else
 bif a0==2 then some ((1,()),())
 else
  bif a0==5 then some ((1,()),())
  else
  bif a0==6 then some ((1,()),())
  else bif a0==3 then some ((2,()),())else bif a0==4 then some ((2,()),())else some ((-1,()),()):=by kernel_rfl
def DJ:Env:=Es.env C AM.1 Tryz.f77
def DY:=Es.out C
def xv(x0:List Rel)(x1:List al)(x5:List Int)(fO:List al)(dm:Int)(bO:Int):Option ((Bool×PUnit)×PUnit):=gN DJ [1,1,1,0,1,0,0,1,1,1] (Tryz.f77.body.getD .skip) DY (V.d none 0 bq x0::V.d none 0 bM x1::dd 3 (V.d none (ak.depth+1) (Ty.slice 3 ak) x5::dd 18 (V.d none 0 bM fO::V.d none 0 (Ty.int IntKind.i64) dm::V.d none 0 (Ty.int IntKind.i64) bO::dd 95 ([]))))
def tC(x0:List Rel)(x1:List al)(x5:List Int)(fO:List al)(dm:Int)(bO:Int):Option ((Bool×PUnit)×PUnit):=aL DJ [1,1,1,0,1,0] (Tryz.f77.body.getD .skip) DY (V.d none 0 bq x0::V.d none 0 bM x1::dd 3 (V.d none (ak.depth+1) (Ty.slice 3 ak) x5::dd 18 (V.d none 0 bM fO::V.d none 0 (Ty.int IntKind.i64) dm::V.d none 0 (Ty.int IntKind.i64) bO::dd 95 ([]))))
def yR(a0:List Rel)(a1:List al):Option ((Bool×PUnit)×PUnit):=MU.ao (a0,a1,())
def ajY:List (Nat×List Nat):=[(1000005,[1,1,1,0,1,0]),(2000023,[1,1,1,0,1,0,0,1,1,1])]
theorem JG:okB ajY (Tryz.f77.body.getD .skip) []=true:=by kernel_rfl
theorem abY(x0:List Rel)(x1:List al)(x5:List Int)(fO:List al)(dm:Int)(bO:Int):xv x0 x1 x5 fO dm bO =
 tC x0 x1 x5 fO dm (IntKind.i64.wrap (bO+1)):=(join_eq JG [1,1,1,0,1,0,0,1,1,1] _).trans (by kernel_rfl)
theorem QA(x0:List Rel)(x1:List al)(x5:List Int)(fO:List al)(dm:Int)(bO:Int):tC x0 x1 x5 fO dm bO =
 bif decide (bO<dm)then
 (ab fO bO).bind λy =>
 (y6 x0 y).bind λaw =>
  bif !aw.fst.fst then some ((false,()),())
  else
  (F7 y.fst).bind λa7 =>
   bif a7.fst.fst==0 then
   bif y.snd.snd.snd.snd.snd.snd.fst != 0 then some ((false,()),())
   else
    bif y.snd.snd.snd.snd.snd.snd.snd != 0 then some ((false,()),())
    else
    (ab x5 bO).bind λy =>
     (ab x5 bO).bind λy =>
     (ab x5 bO).bind λy=>(some (x5.set bO.toNat bO)).bind λy=>xv x0 x1 y fO dm bO
   else
   bif a7.fst.fst==1 then
    bif bO==0 then some ((false,()),())
    else
    bif y.snd.snd.snd.snd.snd.snd.fst != IntKind.i64.wrap (bO - 1)then some ((false,()),())
    else
     bif y.snd.snd.snd.snd.snd.snd.snd != 0 then some ((false,()),())
     else
     (ab x5 (IntKind.i64.wrap (bO - 1))).bind λy =>
      (ab x5 (IntKind.i64.wrap (bO - 1))).bind λy =>
      (ab x5 bO).bind λbG =>
       (ab x5 bO).bind λcI =>
       (ab x5 bO).bind λew =>
        (some (x5.set bO.toNat y)).bind λy=>xv x0 x1 y fO dm bO
   else
    bif a7.fst.fst==2 then
    bif bO==0 then some ((false,()),())
    else
     bif y.snd.snd.snd.snd.snd.snd.snd != IntKind.i64.wrap (bO - 1)then some ((false,()),())
     else
     (ab x5 (IntKind.i64.wrap (bO - 1))).bind λbG =>
      (ab x5 (IntKind.i64.wrap (bO - 1))).bind λcI =>
      bif cI==0 then some ((false,()),())
      else
       (ab x5 (IntKind.i64.wrap (bO - 1))).bind λew =>
       (ab x5 (IntKind.i64.wrap (bO - 1))).bind λfi =>
        bif y.snd.snd.snd.snd.snd.snd.fst != IntKind.i64.wrap (fi - 1)then some ((false,()),())
        else
        (ab x5 y.snd.snd.snd.snd.snd.snd.fst).bind λkR =>
         (ab x5 y.snd.snd.snd.snd.snd.snd.fst).bind λy =>
         (ab x5 bO).bind λgU =>
          (ab x5 bO).bind λgV =>
          (ab x5 bO).bind λgT =>
           (some (x5.set bO.toNat y)).bind λy=>xv x0 x1 y fO dm bO
    else some ((false,()),())
else
 (ab x5 (IntKind.i64.wrap ((↑x1.length:Int) - 1))).bind λy =>
 (ab x5 (IntKind.i64.wrap ((↑x1.length:Int) - 1))).bind λy=>some ((y==0,()),()):=(aP JG [1,1,1,0,1,0] (by kernel_rfl) _).trans (by kernel_rfl)
theorem adA(a0:List Rel)(a1:List al):yR a0 a1 =
 (yP a0).bind λy =>
 bif !y.fst.fst then some ((false,()),())
 else
 bif decide ((↑a1.length:Int)<1)then some ((false,()),())
 else
  bif decide ((↑a1.length:Int)>12)then some ((false,()),())
  else
  bif
   decide (0<=(↑a1.length:Int))&&decide ((↑a1.length:Int)<=(↑a1.length:Int)) &&
    decide ((↑a1.length:Int)*(↑8:Int)<=140737488355328) &&
    decide ((↑a1.length:Int)<=9223372036854775807)then
   tC a0 a1 (List.replicate a1.length (0:Int)) a1 (↑a1.length:Int) 0
  else none:=(Eq.trans (by kernel_rfl:yR a0 a1=ax DJ (Tryz.f77.body.getD .skip) DY (aU 122 [(bq,Mode.ro),(bM,Mode.ro)] (a0,a1,()))) (all_eq JG _)).trans (by kernel_rfl)
def Ly:Env:=Et.env C As.1 Tryz.f35
def Pl:=Et.out C
def xD(x1:List al)(bQ:List al)(fB:Int)(fh:Int):Option ((Bool×PUnit)×PUnit):=aL Ly [1,1,0,1,0] (Tryz.f35.body.getD .skip) Pl (V.dead::(V.d none 0 bM x1::dd 9 (V.d none 0 bM bQ::V.d none 0 (Ty.int IntKind.i64) fB::V.d none 0 (Ty.int IntKind.i64) fh::dd 12 ([]))))
def yT(a0:List Rel)(a1:List al):Option ((Bool×PUnit)×PUnit):=MW.ao (a0,a1,())
def ajZ:List (Nat×List Nat):=[(1000004,[1,1,0,1,0])]
theorem Wh:okB ajZ (Tryz.f35.body.getD .skip) []=true:=by kernel_rfl
theorem QC(x1:List al)(bQ:List al)(fB:Int)(fh:Int):xD x1 bQ fB fh =
 bif decide (fh<fB)then
 (ab bQ fh).bind λy =>
 bif y.fst==2 then some ((false,()),())
 else bif y.fst==6 then some ((false,()),())else xD x1 bQ fB (IntKind.i64.wrap (fh+1))
else some ((true,()),()):=(aP Wh [1,1,0,1,0] (by kernel_rfl) _).trans (by kernel_rfl)
theorem adD(a0:List Rel)(a1:List al):yT a0 a1 =
 (yR a0 a1).bind λy =>
 bif !y.fst.fst then some ((false,()),())else xD a1 a1 (↑a1.length:Int) 0:=(Eq.trans (by kernel_rfl:yT a0 a1=ax Ly (Tryz.f35.body.getD .skip) Pl (aU 26 [(bq,Mode.ro),(bM,Mode.ro)] (a0,a1,()))) (all_eq Wh _)).trans (by kernel_rfl)
def ue(a0:List Int):Option ((List Int×PUnit)×PUnit):=Ni.ao (a0,())
theorem SA(a0:List Int):ue a0 =
 bif decide ((0+a0.length)*8<=140737488355328)then some ((a0,()),())else none:=by kernel_rfl
def q9(a0:aa):Option ((aa×PUnit)×PUnit):=Nd.ao (a0,())
theorem ad0(a0:aa):q9 a0 =
 (ue a0.fst).bind λy=>some (((y.fst.fst,a0.snd.fst,a0.snd.snd),()),()):=by kernel_rfl
def y7(a0:aa):Option ((Bool×PUnit)×PUnit):=Ns.ao (a0,())
theorem aeg(a0:aa):y7 a0 =
 (l9 a0.fst).bind λy=>some ((y.fst.fst != 0,()),()):=by kernel_rfl
def uf(a0:Int):Option ((aB×PUnit)×PUnit):=Nq.ao (a0,())
theorem aed(a0:Int):uf a0 =
 bif
 decide (0<=a0)&&decide (a0<=a0)&&decide (a0*(↑8:Int)<=140737488355328) &&
  decide (a0<=9223372036854775807)then
 some (((a0,[(List.replicate a0.toNat (0:Int),1,false)]),()),())
else none:=by kernel_rfl
def rb(a0:aa):Option ((Int×PUnit)×PUnit):=Nn.ao (a0,())
theorem aea(a0:aa):rb a0 =
 (l9 a0.fst).bind λy=>bif y.fst.fst==0 then some ((1,()),())else some ((y.fst.fst,()),()):=by kernel_rfl
def zc(a0:Int)(a1:Int):Option ((Int×PUnit)×PUnit):=NH.ao (a0,a1,())
theorem aez(a0:Int)(a1:Int):zc a0 a1 =
 bif decide (a0<a1)then some ((-1,()),())else bif decide (a0>a1)then some ((1,()),())else some ((0,()),()):=by kernel_rfl
def LG:Env:=ED.env C AO.1 Tryz.f169
def Ps:=ED.out C
def xJ(x2:aa)(x3:aa)(x5:Int)(x6:Int)(x15:Int)(x16:Int):Option ((Int×PUnit)×PUnit):=aL LG [1,1,0,1,0] (Tryz.f169.body.getD .skip) Ps (dd 2 (V.box none 0 aH x2::V.box none 0 aH x3::V.dead::(V.d none 0 ak x5::V.d none 0 ak x6::dd 8 (V.d none 0 (Ty.int IntKind.i64) x15::V.d none 0 (Ty.int IntKind.i64) x16::dd 21 ([])))))
def ub(a0:aa)(a1:aa):Option ((Int×PUnit)×PUnit):=Nc.ao (a0,a1,())
def aj8:List (Nat×List Nat):=[(1000003,[1,1,0,1,0])]
theorem Wo:okB aj8 (Tryz.f169.body.getD .skip) []=true:=by kernel_rfl
theorem QO(x2:aa)(x3:aa)(x5:Int)(x6:Int)(x15:Int)(x16:Int):xJ x2 x3 x5 x6 x15 x16 =
 bif decide (x16<x15)then
 (ab x2.fst x16).bind λy =>
 bif x5 != 0 then
  (ab x3.fst x16).bind λaw =>
  bif x6 != 0 then
   (zc (IntKind.i64.wrap (y.tdiv x5)) (IntKind.i64.wrap (aw.tdiv x6))).bind λy =>
   bif y.fst.fst != 0 then some ((y.fst.fst,()),())
   else xJ x2 x3 x5 x6 x15 (IntKind.i64.wrap (x16+1))
  else none
 else none
else some ((0,()),()):=(aP Wo [1,1,0,1,0] (by kernel_rfl) _).trans (by kernel_rfl)
theorem adZ(a0:aa)(a1:aa):ub a0 a1 =
 (rb a0).bind λy =>
 (rb a1).bind λaw =>
 xJ a0 a1 y.fst.fst aw.fst.fst (↑(List.length a0.fst):Int) 0:=(Eq.trans (by kernel_rfl:ub a0 a1=ax LG (Tryz.f169.body.getD .skip) Ps (aU 38 [(aH,Mode.ro),(aH,Mode.ro)] (a0,a1,()))) (all_eq Wo _)).trans (by kernel_rfl)
def Sm(a0:aa)(a1:aa):Option ((Int×PUnit)×PUnit):=xr.ao (a0,a1,())
theorem adp(a0:aa)(a1:aa):Sm a0 a1 =
 (ke a0).bind λy =>
 bif !y.fst.fst then some ((2,()),())
 else
 (ke a1).bind λy =>
  bif !y.fst.fst then some ((2,()),())
  else
  bif (↑(List.length a0.fst):Int) != (↑(List.length a1.fst):Int)then some ((2,()),())
  else
   (ub a0 a1).bind λy =>
   bif y.fst.fst != 0 then some ((y.fst.fst,()),())
   else
    (rb a1).bind λy =>
    (rb a0).bind λaw =>
     (zc (IntKind.i64.wrap (a0.snd.fst*y.fst.fst)) (IntKind.i64.wrap (a1.snd.fst*aw.fst.fst))).bind
     λy =>
     bif y.fst.fst != 0 then some ((y.fst.fst,()),())
     else
      bif a0.snd.snd==a1.snd.snd then some ((0,()),())
      else bif a0.snd.snd then some ((1,()),())else some ((-1,()),()):=by kernel_rfl
def S1(x0:(List ((List Int)×(Int×Bool))))(x1:Value):Option (Unit×(List ((List Int)×(Int×Bool)))×Unit):=DS.ao (x0,(x1,()))
def DN:Env:=EN.env C Bl.1 Tryz.f161
def D2:=EN.out C
def qP(x4:Int×List aa)(x5:Int×List aa)(x8:Int×List aa)(qA:Int)(eW:Int):Option ((aB×PUnit)×PUnit):=aL DN [1,1,1,1,1,0,1,0] (Tryz.f161.body.getD .skip) D2 (dd 4 (V.box none aA.depth aA x4::V.bP 0 1 ((Ty.int IntKind.i64).pair (Ty.slice 66 (ba.pair (ak.pair aM)).agg)) x5::dd 2 (V.box none aA.depth aA x8::dd 37 (V.same 5 (Ty.slice 66 (ba.pair (ak.pair aM)).agg)::V.d none 0 (Ty.int IntKind.i64) qA::V.d none 0 (Ty.int IntKind.i64) eW::dd 27 ([])))))
def qQ(x0:Int)(x1:List aa)(x4:Int×List aa)(x5:List aa)(fB:List aa)(fh:Int)(x14:Int):Option ((aB×PUnit)×PUnit):=aL DN [1,1,0,1,0] (Tryz.f161.body.getD .skip) D2 (V.d none 0 ak x0::V.d none 0 cU x1::dd 2 (V.box none aA.depth aA x4::V.d none (aH.depth+1) (Ty.slice 66 aH) x5::dd 6 (V.d none 0 cU fB::V.d none 0 (Ty.int IntKind.i64) fh::V.d none 0 (Ty.int IntKind.i64) x14::dd 61 ([]))))
def oO(a0:Int)(a1:List aa):Option ((aB×PUnit)×PUnit):=NC.ao (a0,a1,())
def aki:List (Nat×List Nat):=[(1000003,[1,1,0,1,0]),(1000013,[1,1,1,1,1,0,1,0])]
theorem JK:okB aki (Tryz.f161.body.getD .skip) []=true:=by kernel_rfl
theorem QZ(x4:Int×List aa)(x5:Int×List aa)(x8:Int×List aa)(qA:Int)(eW:Int):qP x4 x5 x8 qA eW =
 bif decide (eW<qA)then
 (ab x5.snd eW).bind λy =>
 bif V.dead.idle&&decide (x5.fst<=eW)then
  (ab x5.snd eW).bind λy =>
  bif decide (IntKind.i64.wrap (eW+1)<(↑(List.length x5.snd):Int))then
   (ab x5.snd (IntKind.i64.wrap (eW+1))).bind λaw =>
   bif decide (eW+1<=IntKind.i64.wrap (eW+1))then
    (ab x5.snd (IntKind.i64.wrap (eW+1))).bind λa7 =>
    bif decide (eW+1<=IntKind.i64.wrap (eW+1))then
     (ab x5.snd (IntKind.i64.wrap (eW+1))).bind λbG =>
     (ub y bG).bind λcI =>
      bif cI.fst.fst==0 then qP x4 (eW+1,x5.snd) x8 qA (IntKind.i64.wrap (eW+1))
      else
      bif decide ((List.length x8.snd+1)*40<=140737488355328)then
       qP x4 (eW+1,x5.snd) (x8.fst,x8.snd++[y]) qA (IntKind.i64.wrap (eW+1))
      else none
    else none
   else none
  else
   bif decide ((List.length x8.snd+1)*40<=140737488355328)then
   qP x4 (eW+1,x5.snd) (x8.fst,x8.snd++[y]) qA (IntKind.i64.wrap (eW+1))
   else none
 else none
else some ((x8,()),()):=(aP JK [1,1,1,1,1,0,1,0] (by kernel_rfl) _).trans (by kernel_rfl)
theorem Q1(x0:Int)(x1:List aa)(x4:Int×List aa)(x5:List aa)(fB:List aa)(fh:Int)(x14:Int):qQ x0 x1 x4 x5 fB fh x14 =
 bif decide (x14<fh)then
 (ab fB x14).bind λy =>
 (y7 y).bind λaw =>
  bif !aw.fst.fst then
  bif decide (y.snd.fst>0)then (uf x0).bind λy=>some ((y.fst.fst,()),())
  else
   bif y.snd.fst==0 then
   bif y.snd.snd then (uf x0).bind λy=>some ((y.fst.fst,()),())
   else qQ x0 x1 x4 x5 fB fh (IntKind.i64.wrap (x14+1))
   else qQ x0 x1 x4 x5 fB fh (IntKind.i64.wrap (x14+1))
  else
  (q9 y).bind λy =>
   bif decide ((x5.length+1)*40<=140737488355328)then
   qQ x0 x1 x4 (x5++[y.fst.fst]) fB fh (IntKind.i64.wrap (x14+1))
   else none
else
 Option.bind
 (Go.Proofs.YthfgcmoipebheaaGreat.P.It.S1 x5
  (Value.func (Fn.func 168) #[] #[]))
 λy=>qP x4 (0,y.snd.fst) (x0,[]) (↑(List.length y.snd.fst):Int) 0:=(aP JK [1,1,0,1,0] (by kernel_rfl) _).trans (by kernel_rfl)
theorem aet(a0:Int)(a1:List aa):oO a0 a1 =
 qQ a0 a1 (0,[]) [] a1 (↑a1.length:Int) 0:=(Eq.trans (by kernel_rfl:oO a0 a1=ax DN (Tryz.f161.body.getD .skip) D2 (aU 76 [(ak,Mode.ro),(cU,Mode.ro)] (a0,a1,()))) (all_eq JK _)).trans (by kernel_rfl)
def Ss(a0:Int×List aa):Option ((aB×Bool×PUnit)×PUnit):=M4.ao (a0,())
theorem adP(a0:Int×List aa):Ss a0 =
 (kT a0).bind λy =>
 bif !y.fst.fst then some (((0,[]),false,()),())
 else (oO a0.fst a0.snd).bind λy=>some ((y.fst.fst,true,()),()):=by kernel_rfl
def LN:Env:=EM.env C Aw.1 Tryz.f141
def Pz:=EM.out C
def qO(x0:List Int)(x6:aa)(x8:Int)(x9:aa)(bO:List Int)(fP:Int)(dn:Int):Option ((aa×Bool×PUnit)×PUnit):=aL LN [1,1,1,1,0,1,0] (Tryz.f141.body.getD .skip) Pz (V.d none 0 ba x0::dd 5 (V.box none aH.depth aH x6::V.dead::(V.d none 0 (Ty.int IntKind.i64) x8::V.box none aH.depth aH x9::dd 16 (V.d none 0 ba bO::V.d none 0 (Ty.int IntKind.i64) fP::V.d none 0 (Ty.int IntKind.i64) dn::dd 17 ([])))))
def ma(a0:List Int)(a1:Int)(a2:Bool):Option ((aa×Bool×PUnit)×PUnit):=NA.ao (a0,a1,a2,())
def akh:List (Nat×List Nat):=[(1000006,[1,1,1,1,0,1,0])]
theorem Wv:okB akh (Tryz.f141.body.getD .skip) []=true:=by kernel_rfl
theorem QY(x0:List Int)(x6:aa)(x8:Int)(x9:aa)(bO:List Int)(fP:Int)(dn:Int):qO x0 x6 x8 x9 bO fP dn =
 bif decide (dn<fP)then
 (ab bO dn).bind λy =>
 bif x8 != 0 then
  (ab x9.fst dn).bind λaw =>
  (ab x9.fst dn).bind λa7 =>
   (ab x9.fst dn).bind λbG =>
   (some (List.set x9.fst dn.toNat (IntKind.i64.wrap (y.tdiv x8)))).bind λy =>
    qO x0 x6 x8 (y,x9.snd) bO fP (IntKind.i64.wrap (dn+1))
 else none
else
 (ke x9).bind λy=>bif !y.fst.fst then some ((([],0,false),false,()),())else some ((x9,true,()),()):=(aP Wv [1,1,1,1,0,1,0] (by kernel_rfl) _).trans (by kernel_rfl)
theorem aer(a0:List Int)(a1:Int)(a2:Bool):ma a0 a1 a2 =
 (l9 a0).bind λy =>
 (oM y.fst.fst a1).bind λy =>
 bif y.fst.fst==0 then
  bif
   decide (0<=(↑a0.length:Int))&&decide ((↑a0.length:Int)<=(↑a0.length:Int)) &&
    decide ((↑a0.length:Int)*(↑8:Int)<=140737488355328) &&
   decide ((↑a0.length:Int)<=9223372036854775807)then
  qO a0 ([],0,false) 1 (List.replicate a0.length (0:Int),IntKind.i64.wrap (a1.tdiv 1),a2) a0 (↑a0.length:Int)
   0
  else none
 else
  bif
   decide (0<=(↑a0.length:Int))&&decide ((↑a0.length:Int)<=(↑a0.length:Int)) &&
    decide ((↑a0.length:Int)*(↑8:Int)<=140737488355328) &&
   decide ((↑a0.length:Int)<=9223372036854775807)then
  bif y.fst.fst != 0 then
   qO a0 ([],0,false) y.fst.fst (List.replicate a0.length (0:Int),IntKind.i64.wrap (a1.tdiv y.fst.fst),a2) a0
   (↑a0.length:Int) 0
  else none
  else none:=(Eq.trans (by kernel_rfl:ma a0 a1 a2=ax LN (Tryz.f141.body.getD .skip) Pz (aU 46 [(ba,Mode.ro),(ak,Mode.ro),(aM,Mode.ro)] (a0,a1,a2,()))) (all_eq Wv _)).trans (by kernel_rfl)
def LB:Env:=Ew.env C AK.1 Tryz.f144
def Po:=Ew.out C
def tF(x1:Int)(x3:Int)(x4:aa)(x6:aa)(x8:aa)(aX:List Int)(fD:Int)(dJ:Int):Option ((aa×Bool×PUnit)×PUnit):=aL LB [1,1,1,1,0,1,0] (Tryz.f144.body.getD .skip) Po (V.dead::(V.d none 0 ak x1::V.dead::(V.d none 0 ak x3::V.box none 0 aH x4::V.dead::(V.box none 0 aH x6::V.dead::(V.box none aH.depth aH x8::V.dead::(V.d none (ak.depth+1) (Ty.slice 3 ak) aX::dd 39 (V.d none 0 (Ty.int IntKind.i64) fD::V.d none 0 (Ty.int IntKind.i64) dJ::dd 48 ([]))))))))
def yX(a0:aa)(a1:Int)(a2:aa)(a3:Int):Option ((aa×Bool×PUnit)×PUnit):=M0.ao (a0,a1,a2,a3,())
def aj2:List (Nat×List Nat):=[(1000007,[1,1,1,1,0,1,0])]
theorem Wk:okB aj2 (Tryz.f144.body.getD .skip) []=true:=by kernel_rfl
theorem QF(x1:Int)(x3:Int)(x4:aa)(x6:aa)(x8:aa)(aX:List Int)(fD:Int)(dJ:Int):tF x1 x3 x4 x6 x8 aX fD dJ =
 bif decide (dJ<fD)then
 (ab x4.fst dJ).bind λy =>
 (ab x6.fst dJ).bind λaw =>
  (ab aX dJ).bind λa7 =>
  (ab aX dJ).bind λbG =>
   (ab aX dJ).bind λcI =>
   (some (aX.set dJ.toNat (IntKind.i64.wrap (IntKind.i64.wrap (x1*y)+IntKind.i64.wrap (x3*aw))))).bind
    λy=>tF x1 x3 x4 x6 x8 y fD (IntKind.i64.wrap (dJ+1))
else
 bif x4.snd.snd then
 bif x1 != 0 then
  (ma aX (IntKind.i64.wrap (IntKind.i64.wrap (x1*x4.snd.fst)+IntKind.i64.wrap (x3*x6.snd.fst)))
   true).bind
  λy=>some ((y.fst.fst,y.fst.snd.fst,()),())
 else
  bif x6.snd.snd then
  (ma aX (IntKind.i64.wrap (IntKind.i64.wrap (x1*x4.snd.fst)+IntKind.i64.wrap (x3*x6.snd.fst)))
    (x3 != 0)).bind
   λy=>some ((y.fst.fst,y.fst.snd.fst,()),())
  else
  (ma aX (IntKind.i64.wrap (IntKind.i64.wrap (x1*x4.snd.fst)+IntKind.i64.wrap (x3*x6.snd.fst)))
    false).bind
   λy=>some ((y.fst.fst,y.fst.snd.fst,()),())
 else
 bif x6.snd.snd then
  (ma aX (IntKind.i64.wrap (IntKind.i64.wrap (x1*x4.snd.fst)+IntKind.i64.wrap (x3*x6.snd.fst)))
   (x3 != 0)).bind
  λy=>some ((y.fst.fst,y.fst.snd.fst,()),())
 else
  (ma aX (IntKind.i64.wrap (IntKind.i64.wrap (x1*x4.snd.fst)+IntKind.i64.wrap (x3*x6.snd.fst)))
   false).bind
  λy=>some ((y.fst.fst,y.fst.snd.fst,()),()):=(aP Wk [1,1,1,1,0,1,0] (by kernel_rfl) _).trans (by kernel_rfl)
theorem adK(a0:aa)(a1:Int)(a2:aa)(a3:Int):yX a0 a1 a2 a3 =
 (ke a0).bind λy =>
 bif !y.fst.fst then some ((([],0,false),false,()),())
 else
 (ke a2).bind λy =>
  bif !y.fst.fst then some ((([],0,false),false,()),())
  else
  bif (↑(List.length a0.fst):Int) != (↑(List.length a2.fst):Int)then some ((([],0,false),false,()),())
  else
   bif decide (a1<0)then some ((([],0,false),false,()),())
   else
   bif decide (a1>400000000)then some ((([],0,false),false,()),())
   else
    bif decide (a3<0)then some ((([],0,false),false,()),())
    else
    bif decide (a3>400000000)then some ((([],0,false),false,()),())
    else
     bif
      decide (0<=(↑(List.length a0.fst):Int)) &&
       decide ((↑(List.length a0.fst):Int)<=(↑(List.length a0.fst):Int)) &&
       decide ((↑(List.length a0.fst):Int)*(↑8:Int)<=140737488355328) &&
      decide ((↑(List.length a0.fst):Int)<=9223372036854775807)then
     tF a1 a3 a0 a2 ([],0,false) (List.replicate (List.length a0.fst) (0:Int))
      (↑(List.replicate (List.length a0.fst) (0:Int)).length:Int) 0
     else none:=(Eq.trans (by kernel_rfl:yX a0 a1 a2 a3=ax LB (Tryz.f144.body.getD .skip) Po (aU 100 [(aH,Mode.ro),(ak,Mode.ro),(aH,Mode.ro),(ak,Mode.ro)] (a0,a1,a2,a3,()))) (all_eq Wk _)).trans (by kernel_rfl)
def za(a0:Int)(a1:List aa):Option ((aB×Bool×PUnit)×PUnit):=Nz.ao (a0,a1,())
theorem aeq(a0:Int)(a1:List aa):za a0 a1 =
 (oO a0 a1).bind λy =>
 bif decide ((↑(List.length y.fst.fst.snd):Int)>16)then some (((0,[]),false,()),())
 else some ((y.fst.fst,true,()),()):=by kernel_rfl
def xn:Env:=Em.env C AJ.1 Tryz.f116
def xy:=Em.out C
def tu(x1:Int)(x2:Int×List aa)(x4:Int×List aa)(x6:List aa)(aX:aa)(jl:List aa)(fD:Int)(dJ:Int)(tj:List aa)(tk:Int)(qB:Int):Option ((aB×Bool×PUnit)×PUnit):=aL xn [1,1,1,1,0,1,0,0,1,1,0,0,1,1,1,0] (Tryz.f116.body.getD .skip) xy (V.dead::(V.d none 0 ak x1::V.box none 0 aA x2::V.dead::(V.box none aA.depth aA x4::V.dead::(V.d none 1 (Ty.slice 66 aH) x6::dd 3 (V.box none 0 aH aX::dd 38 (V.d none 0 (Ty.slice 66 aH) jl::V.d none 0 (Ty.int IntKind.i64) fD::V.d none 0 (Ty.int IntKind.i64) dJ::dd 10 (V.d none 0 (Ty.slice 66 aH) tj::V.d none 0 (Ty.int IntKind.i64) tk::V.d none 0 (Ty.int IntKind.i64) qB::dd 41 ([]))))))))
def oG(x1:Int)(x2:Int×List aa)(x4:Int×List aa)(x6:List aa)(jl:List aa)(fD:Int)(dJ:Int):Option ((aB×Bool×PUnit)×PUnit):=aL xn [1,1,1,1,0,1,0] (Tryz.f116.body.getD .skip) xy (V.dead::(V.d none 0 ak x1::V.box none 0 aA x2::V.dead::(V.box none aA.depth aA x4::V.dead::(V.d none 1 (Ty.slice 66 aH) x6::dd 42 (V.d none 0 (Ty.slice 66 aH) jl::V.d none 0 (Ty.int IntKind.i64) fD::V.d none 0 (Ty.int IntKind.i64) dJ::dd 54 ([]))))))
def tw(x1:Int)(x2:Int×List aa)(x4:Int×List aa)(x6:List aa)(th:List aa)(ti:Int)(qy:Int):Option ((aB×Bool×PUnit)×PUnit):=aL xn [1,1,1,0,1,0] (Tryz.f116.body.getD .skip) xy (V.dead::(V.d none 0 ak x1::V.box none 0 aA x2::V.dead::(V.box none aA.depth aA x4::V.dead::(V.d none 1 (Ty.slice 66 aH) x6::dd 24 (V.d none 0 (Ty.slice 66 aH) th::V.d none 0 (Ty.int IntKind.i64) ti::V.d none 0 (Ty.int IntKind.i64) qy::dd 72 ([]))))))
def tY(a0:Int×List aa)(a1:Int):Option ((aB×Bool×PUnit)×PUnit):=MN.ao (a0,a1,())
def ajT:List (Nat×List Nat):=[(1000005,[1,1,1,0,1,0]),(1000011,[1,1,1,1,0,1,0]),(1000015,[1,1,1,1,0,1,0,0,1,1,0,0,1,1,1,0])]
theorem CG:okB ajT (Tryz.f116.body.getD .skip) []=true:=by kernel_rfl
theorem Qs(x1:Int)(x2:Int×List aa)(x4:Int×List aa)(x6:List aa)(aX:aa)(jl:List aa)(fD:Int)(dJ:Int)(tj:List aa)(tk:Int)(qB:Int):tu x1 x2 x4 x6 aX jl fD dJ tj tk qB =
 bif decide (qB<tk)then
 (ab tj qB).bind λy =>
 (ab y.fst x1).bind λaw =>
  bif decide (aw>=0)then tu x1 x2 x4 x6 aX jl fD dJ tj tk (IntKind.i64.wrap (qB+1))
  else
  (ab y.fst x1).bind λa7 =>
   (ab aX.fst x1).bind λbG =>
   (yX aX (IntKind.i64.wrap (0 - a7)) y bG).bind λy =>
    bif !y.fst.snd.fst then some (((0,[]),false,()),())
    else
    bif decide ((x6.length+1)*40<=140737488355328)then
     tu x1 x2 x4 (x6++[y.fst.fst]) aX jl fD dJ tj tk (IntKind.i64.wrap (qB+1))
    else none
else oG x1 x2 x4 x6 jl fD (IntKind.i64.wrap (dJ+1)):=(aP CG [1,1,1,1,0,1,0,0,1,1,0,0,1,1,1,0] (by kernel_rfl) _).trans (by kernel_rfl)
theorem Qr(x1:Int)(x2:Int×List aa)(x4:Int×List aa)(x6:List aa)(jl:List aa)(fD:Int)(dJ:Int):oG x1 x2 x4 x6 jl fD dJ =
 bif decide (dJ<fD)then
 (ab jl dJ).bind λy =>
 (ab y.fst x1).bind λaw =>
  bif decide (aw<=0)then oG x1 x2 x4 x6 jl fD (IntKind.i64.wrap (dJ+1))
  else tu x1 x2 x4 x6 y jl fD dJ x2.snd (↑(List.length x2.snd):Int) 0
else (za x2.fst x6).bind λy=>some ((y.fst.fst,y.fst.snd.fst,()),()):=(aP CG [1,1,1,1,0,1,0] (by kernel_rfl) _).trans (by kernel_rfl)
theorem Qu(x1:Int)(x2:Int×List aa)(x4:Int×List aa)(x6:List aa)(th:List aa)(ti:Int)(qy:Int):tw x1 x2 x4 x6 th ti qy =
 bif decide (qy<ti)then
 (ab th qy).bind λy =>
 (ab y.fst x1).bind λaw =>
  bif aw==0 then
  bif decide ((x6.length+1)*40<=140737488355328)then
   tw x1 x2 x4 (x6++[y]) th ti (IntKind.i64.wrap (qy+1))
  else none
  else tw x1 x2 x4 x6 th ti (IntKind.i64.wrap (qy+1))
else oG x1 x2 x4 x6 x2.snd (↑(List.length x2.snd):Int) 0:=(aP CG [1,1,1,0,1,0] (by kernel_rfl) _).trans (by kernel_rfl)
theorem adr(a0:Int×List aa)(a1:Int):tY a0 a1 =
 (kT a0).bind λy =>
 bif !y.fst.fst then some (((0,[]),false,()),())
 else
 bif decide (a1<0)then some (((0,[]),false,()),())
 else
  bif decide (a1>=a0.fst)then some (((0,[]),false,()),())
  else tw a1 a0 (0,[]) [] a0.snd (↑(List.length a0.snd):Int) 0:=(Eq.trans (by kernel_rfl:tY a0 a1=ax xn (Tryz.f116.body.getD .skip) xy (aU 106 [(aA,Mode.ro),(ak,Mode.ro)] (a0,a1,()))) (all_eq CG _)).trans (by kernel_rfl)
def LO:Env:=EO.env C An.1 Tryz.f165
def PA:=EO.out C
def oH(x4:List aB)(x5:Int):Option ((List aB×Bool×PUnit)×PUnit):=aL LO [1,1,1,1,0,1,0] (Tryz.f165.body.getD .skip) PA (dd 4 (V.d none (aA.depth+1) (Ty.slice 78 aA) x4::V.d none 0 (Ty.int IntKind.i64) x5::dd 42 ([])))
def F8(a0:Int×List aa):Option ((List aB×Bool×PUnit)×PUnit):=NF.ao (a0,())
def akj:List (Nat×List Nat):=[(1000006,[1,1,1,1,0,1,0])]
theorem Ww:okB akj (Tryz.f165.body.getD .skip) []=true:=by kernel_rfl
theorem Q5(x4:List aB)(x5:Int):oH x4 x5 =
 bif decide (x5>=0)then
 (ab x4 (IntKind.i64.wrap (x5+1))).bind λy =>
 (ab x4 (IntKind.i64.wrap (x5+1))).bind λy =>
  (ab x4 (IntKind.i64.wrap (x5+1))).bind λy =>
  (tY y x5).bind λy =>
   bif !y.fst.snd.fst then some (([],false,()),())
   else
   (ab x4 x5).bind λaw =>
    (ab x4 x5).bind λa7 =>
    (ab x4 x5).bind λbG =>
     (some (x4.set x5.toNat y.fst.fst)).bind λy=>oH y (IntKind.i64.wrap (x5 - 1))
else some ((x4,true,()),()):=(aP Ww [1,1,1,1,0,1,0] (by kernel_rfl) _).trans (by kernel_rfl)
theorem aex(a0:Int×List aa):F8 a0 =
 (kT a0).bind λy =>
 bif !y.fst.fst then some (([],false,()),())
 else
 bif
  decide (0<=IntKind.i64.wrap (a0.fst+1)) &&
    decide (IntKind.i64.wrap (a0.fst+1)<=IntKind.i64.wrap (a0.fst+1)) &&
   decide (IntKind.i64.wrap (a0.fst+1)*(↑32:Int)<=140737488355328) &&
   decide (IntKind.i64.wrap (a0.fst+1)<=9223372036854775807)then
  (oO a0.fst a0.snd).bind λy =>
  (ab (List.replicate (IntKind.i64.wrap (a0.fst+1)).toNat ((0,[]):aB)) a0.fst).bind λaw =>
   (ab (List.replicate (IntKind.i64.wrap (a0.fst+1)).toNat ((0,[]):aB)) a0.fst).bind λa7 =>
   (ab (List.replicate (IntKind.i64.wrap (a0.fst+1)).toNat ((0,[]):aB)) a0.fst).bind λbG =>
    (some ((List.replicate (IntKind.i64.wrap (a0.fst+1)).toNat ((0,[]):aB)).set (Int.toNat a0.fst) y.fst.fst)).bind
    λy=>oH y (IntKind.i64.wrap (a0.fst - 1))
 else none:=(Eq.trans (by kernel_rfl:F8 a0=ax LO (Tryz.f165.body.getD .skip) PA (aU 48 [(aA,Mode.ro)] (a0,()))) (all_eq Ww _)).trans (by kernel_rfl)
def yQ(a0:Int×List aa):Option ((Bool×Bool×PUnit)×PUnit):=MT.ao (a0,())
theorem adz(a0:Int×List aa):yQ a0 =
 (F8 a0).bind λy =>
 bif !y.fst.snd.fst then some ((false,false,()),())
 else
 (ab y.fst.fst 0).bind λaw =>
  (ab y.fst.fst 0).bind λa7 =>
  (ab y.fst.fst 0).bind λy=>some ((decide ((↑(List.length y.snd):Int)>0),true,()),()):=by kernel_rfl
def Gi(a0:Option PUnit)(a1:Int):Option ((List aa×PUnit)×PUnit):=Oo.ao (a0,a1,())
theorem afu(a0:Option PUnit)(a1:Int):Gi a0 a1 =
 bif decide (a1<0)then none
else
 bif decide (IntKind.i64.wrap (a1 - IntKind.i64.wrap (0 - 0))>0)then
 bif
  decide (0<IntKind.i64.wrap (a1 - IntKind.i64.wrap (0 - 0)))&&decide (aH.sz≠0) &&
   decide (IntKind.i64.wrap (a1 - IntKind.i64.wrap (0 - 0))*(↑40:(Ty.int IntKind.i64).den)<=140737488355328) &&
   decide (IntKind.i64.wrap (a1 - IntKind.i64.wrap (0 - 0))<=140737488355328)then
  some (([],()),())
 else none
 else some (([],()),()):=by kernel_rfl
def DQ:Env:=Fj.env C Bk.1 Tryz.f143
def D5:=Fj.out C
def yg(x0:List (List aa))(x6:List aa)(dm:List (List aa))(bO:Int)(fP:Int):Option ((List aa×PUnit)×PUnit):=aL DQ [1,1,1,1,0,1,0] (Tryz.f143.body.getD .skip) D5 (V.d none 0 qt x0::dd 5 (V.d none 1 cU x6::dd 18 (V.d none 0 qt dm::V.d none 0 (Ty.int IntKind.i64) bO::V.d none 0 (Ty.int IntKind.i64) fP::dd 8 ([]))))
def yh(x0:List (List aa))(x3:Int)(x9:List (List aa))(aX:Int)(bQ:Int):Option ((List aa×PUnit)×PUnit):=aL DQ [1,1,0,1,0] (Tryz.f143.body.getD .skip) D5 (V.d none 0 qt x0::dd 2 (V.d none 0 (Ty.int IntKind.i64) x3::dd 5 (V.d none 0 qt x9::V.d none 0 (Ty.int IntKind.i64) aX::V.d none 0 (Ty.int IntKind.i64) bQ::dd 24 ([]))))
def ux(a0:List (List aa)):Option ((List aa×PUnit)×PUnit):=On.ao (a0,())
def akM:List (Nat×List Nat):=[(1000003,[1,1,0,1,0]),(1000011,[1,1,1,1,0,1,0])]
theorem JN:okB akM (Tryz.f143.body.getD .skip) []=true:=by kernel_rfl
theorem Ek(x0:List (List aa))(x6:List aa)(dm:List (List aa))(bO:Int)(fP:Int):yg x0 x6 dm bO fP =
 bif decide (fP<bO)then
 (ab dm fP).bind λy =>
 bif decide ((x6.length+y.length)*40<=140737488355328)then
  yg x0 (x6++y) dm bO
  (IntKind.i64.wrap (fP+1))
 else none
else some ((x6,()),()):=(aP JN [1,1,1,1,0,1,0] (by kernel_rfl) _).trans (by kernel_rfl)
theorem El(x0:List (List aa))(x3:Int)(x9:List (List aa))(aX:Int)(bQ:Int):yh x0 x3 x9 aX bQ =
 bif decide (bQ<aX)then
 (ab x9 bQ).bind λy =>
 bif decide (IntKind.i64.wrap (x3+(↑y.length:Int))<0)then none
 else
  yh x0
  (IntKind.i64.wrap (x3+(↑y.length:Int))) x9 aX (IntKind.i64.wrap (bQ+1))
else
 (Gi none x3).bind λy =>
 yg x0 y.fst.fst x0 (↑x0.length:Int) 0:=(aP JN [1,1,0,1,0] (by kernel_rfl) _).trans (by kernel_rfl)
theorem aft(a0:List (List aa)):ux a0 =
 yh a0 0 a0 (↑a0.length:Int) 0:=(Eq.trans (by kernel_rfl:ux a0=ax DQ (Tryz.f143.body.getD .skip) D5 (aU 36 [(qt,Mode.ro)] (a0,()))) (all_eq JN _)).trans (by kernel_rfl)
def LC:Env:=Ey.env C Bj.1 Tryz.f166
def Pp:=Ey.out C
def xE(x1:aa)(x2:aa)(x4:aa)(gx:List Int)(fO:Int)(dm:Int):Option ((aa×Bool×PUnit)×PUnit):=aL LC [1,1,1,0,1,0] (Tryz.f166.body.getD .skip) Pp (V.dead::(V.box none 0 aH x1::V.box none aH.depth aH x2::V.dead::(V.box none aH.depth aH x4::dd 18 (V.d none 0 ba gx::V.d none 0 (Ty.int IntKind.i64) fO::V.d none 0 (Ty.int IntKind.i64) dm::dd 12 ([])))))
def yY(a0:aa):Option ((aa×Bool×PUnit)×PUnit):=M1.ao (a0,())
def aj3:List (Nat×List Nat):=[(1000005,[1,1,1,0,1,0])]
theorem Wl:okB aj3 (Tryz.f166.body.getD .skip) []=true:=by kernel_rfl
theorem QG(x1:aa)(x2:aa)(x4:aa)(gx:List Int)(fO:Int)(dm:Int):xE x1 x2 x4 gx fO dm =
 bif decide (dm<fO)then
 (ab gx dm).bind λy =>
 (ab x4.fst dm).bind λaw =>
  (ab x4.fst dm).bind λa7 =>
  (ab x4.fst dm).bind λbG =>
   (some (List.set x4.fst dm.toNat (IntKind.i64.wrap (0 - y)))).bind λy =>
   xE x1 x2 (y,x4.snd) gx fO (IntKind.i64.wrap (dm+1))
else some ((x4,true,()),()):=(aP Wl [1,1,1,0,1,0] (by kernel_rfl) _).trans (by kernel_rfl)
theorem adM(a0:aa):yY a0 =
 (ke a0).bind λy =>
 bif !y.fst.fst then some ((([],0,false),false,()),())
 else
 bif
  decide (0<=(↑(List.length a0.fst):Int)) &&
    decide ((↑(List.length a0.fst):Int)<=(↑(List.length a0.fst):Int)) &&
   decide ((↑(List.length a0.fst):Int)*(↑8:Int)<=140737488355328) &&
   decide ((↑(List.length a0.fst):Int)<=9223372036854775807)then
  xE a0 ([],0,false)
  (List.replicate (List.length a0.fst) (0:Int),IntKind.i64.wrap (0 - a0.snd.fst),!a0.snd.snd) a0.fst
  (↑(List.length a0.fst):Int) 0
 else none:=(Eq.trans (by kernel_rfl:yY a0=ax LC (Tryz.f166.body.getD .skip) Pp (aU 38 [(aH,Mode.ro)] (a0,()))) (all_eq Wl _)).trans (by kernel_rfl)
def yV(a0:Int×List aa)(a1:Int×List aa):Option ((aB×Bool×PUnit)×PUnit):=MY.ao (a0,a1,())
theorem adH(a0:Int×List aa)(a1:Int×List aa):yV a0 a1 =
 (kT a0).bind λy =>
 bif !y.fst.fst then some (((0,[]),false,()),())
 else
 (kT a1).bind λy =>
  bif !y.fst.fst then some (((0,[]),false,()),())
  else
  bif a0.fst != a1.fst then some (((0,[]),false,()),())
  else
   (ux [a0.snd,a1.snd]).bind λy =>
   (za a0.fst y.fst.fst).bind λy=>some ((y.fst.fst,y.fst.snd.fst,()),()):=by kernel_rfl
def FR(a0:Int×List aa)(a1:aa):Option ((Bool×Bool×PUnit)×PUnit):=MP.ao (a0,a1,())
theorem adt(a0:Int×List aa)(a1:aa):FR a0 a1 =
 (yY a1).bind λy =>
 bif !y.fst.snd.fst then some ((false,false,()),())
 else
 (yV a0 ((↑(List.length y.fst.fst.fst):Int),[y.fst.fst])).bind λy =>
  bif !y.fst.snd.fst then some ((false,false,()),())
  else (yQ y.fst.fst).bind λy=>some ((y.fst.fst,y.fst.snd.fst,()),()):=by kernel_rfl
def LA:Env:=Ev.env C Ap.1 Tryz.f139
def Pn:=Ev.out C
def tE(x1:Int×List aa)(x2:Int×List aa)(x4:Int×List aa)(x7:Int):Option ((aB×Bool×PUnit)×PUnit):=aL LA [1,1,1,1,1,1,0,1,0] (Tryz.f139.body.getD .skip) Pn (V.dead::(V.box none 0 aA x1::V.box none 0 aA x2::V.dead::(V.box none 0 aA x4::dd 2 (V.d none 0 (Ty.int IntKind.i64) x7::dd 60 ([])))))
def yW(a0:Int×List aa):Option ((aB×Bool×PUnit)×PUnit):=MZ.ao (a0,())
def aj1:List (Nat×List Nat):=[(1000010,[1,1,1,1,1,1,0,1,0])]
theorem Wj:okB aj1 (Tryz.f139.body.getD .skip) []=true:=by kernel_rfl
theorem QE(x1:Int×List aa)(x2:Int×List aa)(x4:Int×List aa)(x7:Int):tE x1 x2 x4 x7 =
 bif decide (x7<(↑(List.length x4.snd):Int))then
 bif decide (0<=0)&&decide (0<=x7)&&decide (x7<=(↑(List.length x4.snd):Int))then
 bif
  decide (0<=IntKind.i64.wrap (x7+1))&&decide (IntKind.i64.wrap (x7+1)<=(↑(List.length x4.snd):Int)) &&
   decide ((↑(List.length x4.snd):Int)<=(↑(List.length x4.snd):Int))then
  (ux
   [List.drop (Int.toNat 0) (List.take x7.toNat x4.snd),
    List.drop (IntKind.i64.wrap (x7+1)).toNat (List.take (List.length x4.snd) x4.snd)]).bind
  λy =>
  (ab x4.snd x7).bind λaw =>
   (FR (x1.fst,y.fst.fst) aw).bind λa7 =>
   bif !a7.fst.snd.fst then some (((0,[]),false,()),())
   else
    bif a7.fst.fst then tE x1 x2 (x1.fst,y.fst.fst) x7
    else tE x1 x2 x4 (IntKind.i64.wrap (x7+1))
 else none
 else none
else some ((x4,true,()),()):=(aP Wj [1,1,1,1,1,1,0,1,0] (by kernel_rfl) _).trans (by kernel_rfl)
theorem adI(a0:Int×List aa):yW a0 =
 (Ss a0).bind λy =>
 bif !y.fst.snd.fst then some (((0,[]),false,()),())
 else
 (yQ y.fst.fst).bind λaw =>
  bif !aw.fst.snd.fst then some (((0,[]),false,()),())
  else
  bif aw.fst.fst then (uf a0.fst).bind λy=>some ((y.fst.fst,true,()),())
  else tE a0 (0,[]) y.fst.fst 0:=(Eq.trans (by kernel_rfl:yW a0=ax LA (Tryz.f139.body.getD .skip) Pn (aU 68 [(aA,Mode.ro)] (a0,()))) (all_eq Wj _)).trans (by kernel_rfl)
def F2(a0:Int×List aa):Option ((Bool×PUnit)×PUnit):=Nt.ao (a0,())
theorem aeh(a0:Int×List aa):F2 a0 =
 bif (↑(List.length a0.snd):Int)==1 then
 (ab a0.snd 0).bind λy =>
 (y7 y).bind λy =>
  bif !y.fst.fst then
  (ab a0.snd 0).bind λy =>
   bif y.snd.fst==1 then (ab a0.snd 0).bind λy=>some ((!y.snd.snd,()),())else some ((false,()),())
  else some ((false,()),())
else some ((false,()),()):=by kernel_rfl
def oL(a0:List ah)(a1:Int×List aa)(a2:List (List Int)):Option ((List ah×Bool×PUnit)×PUnit):=M8.ao (a0,a1,a2,())
theorem adW(a0:List ah)(a1:Int×List aa)(a2:List (List Int)):oL a0 a1 a2 =
 (yW a1).bind λy =>
 bif !y.fst.snd.fst then some (([],false,()),())
 else
 bif decide ((↑a0.length:Int)>=24)then some (([],false,()),())
 else
  (F2 y.fst.fst).bind λaw =>
  bif aw.fst.fst then some ((a0,true,()),())
  else
   bif decide ((a0.length+1)*56<=140737488355328)then some ((a0++[(y.fst.fst,a2)],true,()),())else none:=by kernel_rfl
def Su(a0:aa):Option ((List ah×Bool×PUnit)×PUnit):=M9.ao (a0,())
theorem adX(a0:aa):Su a0 =
 (q9 a0).bind λy =>
 (oL [] (4,[y.fst.fst]) []).bind λy=>some ((y.fst.fst,y.fst.snd.fst,()),()):=by kernel_rfl
def DK:Env:=Ez.env C Az.1 Tryz.f113
def DZ:=Ez.out C
def tG(x1:List Int)(x2:Int×List aa)(x4:Int×List aa)(x6:Int×List aa)(x8:aa)(x9:List Int)(dn:List aa)(kQ:Int)(jZ:Int)(xd:List Int)(xe:Int)(qz:Int):Option ((aB×Bool×PUnit)×PUnit):=aL DK [1,1,1,0,1,0,0,1,1,0,0,1,1,0,1,0] (Tryz.f113.body.getD .skip) DZ (V.dead::(V.d none 0 ba x1::V.box none 0 aA x2::V.dead::(V.box none aA.depth aA x4::V.dead::(V.box none aA.depth aA x6::V.dead::(V.box none 0 aH x8::V.d none (ak.depth+1) (Ty.slice 3 ak) x9::dd 18 (V.d none 0 (Ty.slice 66 aH) dn::V.d none 0 (Ty.int IntKind.i64) kQ::V.d none 0 (Ty.int IntKind.i64) jZ::dd 4 (V.d none 0 ba xd::V.d none 0 (Ty.int IntKind.i64) xe::V.d none 0 (Ty.int IntKind.i64) qz::dd 40 ([]))))))))
def xF(x1:List Int)(x2:Int×List aa)(x4:Int×List aa)(x6:Int×List aa)(dn:List aa)(kQ:Int)(jZ:Int):Option ((aB×Bool×PUnit)×PUnit):=aL DK [1,1,1,0,1,0] (Tryz.f113.body.getD .skip) DZ (V.dead::(V.d none 0 ba x1::V.box none 0 aA x2::V.dead::(V.box none aA.depth aA x4::V.dead::(V.box none aA.depth aA x6::dd 21 (V.d none 0 (Ty.slice 66 aH) dn::V.d none 0 (Ty.int IntKind.i64) kQ::V.d none 0 (Ty.int IntKind.i64) jZ::dd 47 ([]))))))
def tZ(a0:Int×List aa)(a1:List Int):Option ((aB×Bool×PUnit)×PUnit):=M5.ao (a0,a1,())
def aj4:List (Nat×List Nat):=[(1000005,[1,1,1,0,1,0]),(1000009,[1,1,1,0,1,0,0,1,1,0,0,1,1,0,1,0])]
theorem JH:okB aj4 (Tryz.f113.body.getD .skip) []=true:=by kernel_rfl
theorem QI(x1:List Int)(x2:Int×List aa)(x4:Int×List aa)(x6:Int×List aa)(x8:aa)(x9:List Int)(dn:List aa)(kQ:Int)(jZ:Int)(xd:List Int)(xe:Int)(qz:Int):tG x1 x2 x4 x6 x8 x9 dn kQ jZ xd xe qz =
 bif decide (qz<xe)then
 (ab xd qz).bind λy =>
 (ug y).bind λaw =>
  bif !aw.fst.fst then some (((0,[]),false,()),())
  else
  (ab x9 y).bind λa7 =>
   (ab x9 y).bind λbG =>
   (ab x8.fst qz).bind λcI =>
    (ab x9 y).bind λew =>
    (ab x9 y).bind λfi =>
     (ab x9 y).bind λkR =>
     (some (x9.set y.toNat (IntKind.i64.wrap (bG+cI)))).bind λy =>
      tG x1 x2 x4 x6 x8 y dn kQ jZ xd xe (IntKind.i64.wrap (qz+1))
else
 (ma x9 x8.snd.fst x8.snd.snd).bind λy =>
 bif !y.fst.snd.fst then some (((0,[]),false,()),())
 else
  bif decide ((List.length x6.snd+1)*40<=140737488355328)then
  xF x1 x2 x4 (x6.fst,x6.snd++[y.fst.fst]) dn kQ (IntKind.i64.wrap (jZ+1))
  else none:=(aP JH [1,1,1,0,1,0,0,1,1,0,0,1,1,0,1,0] (by kernel_rfl) _).trans (by kernel_rfl)
theorem QH(x1:List Int)(x2:Int×List aa)(x4:Int×List aa)(x6:Int×List aa)(dn:List aa)(kQ:Int)(jZ:Int):xF x1 x2 x4 x6 dn kQ jZ =
 bif decide (jZ<kQ)then
 (ab dn jZ).bind λy =>
 tG x1 x2 x4 x6 y (List.replicate (Int.toNat 4) (0:Int)) dn kQ jZ x1 (↑x1.length:Int) 0
else some ((x6,true,()),()):=(aP JH [1,1,1,0,1,0] (by kernel_rfl) _).trans (by kernel_rfl)
theorem adQ(a0:Int×List aa)(a1:List Int):tZ a0 a1 =
 (kT a0).bind λy =>
 bif !y.fst.fst then some (((0,[]),false,()),())
 else
 bif (↑a1.length:Int) != a0.fst then some (((0,[]),false,()),())
 else xF a1 a0 (0,[]) (4,[]) a0.snd (↑(List.length a0.snd):Int) 0:=(Eq.trans (by kernel_rfl:tZ a0 a1=ax DK (Tryz.f113.body.getD .skip) DZ (aU 78 [(aA,Mode.ro),(ba,Mode.ro)] (a0,a1,()))) (all_eq JH _)).trans (by kernel_rfl)
def LP:Env:=EP.env C Ax.1 Tryz.f79
def PB:=EP.out C
def qR(x0:List Rel)(x3:Int×aa×ByteArray×ByteArray×List Int×Int×Int×Int)(x6:List ah)(x7:Int)(cN:List Rel)(dF:List Rw)(eV:Int)(gx:Int):Option ((List ah×Bool×PUnit)×PUnit):=aL LP [1,1,0,1,0] (Tryz.f79.body.getD .skip) PB (V.d none 0 bq x0::dd 2 (V.box none 0 cM x3::dd 2 (V.d none 1 (Ty.slice 81 fA) x6::V.d none 0 ak x7::dd 9 (V.d none 0 bq cN::dd 3 (V.d none 0 (Ty.slice 105 nF) dF::V.d none 0 (Ty.int IntKind.i64) eV::V.d none 0 (Ty.int IntKind.i64) gx::dd 38 ([]))))))
def F9(a0:List Rel)(a1:Int×aa×ByteArray×ByteArray×List Int×Int×Int×Int):Option ((List ah×Bool×PUnit)×PUnit):=NG.ao (a0,a1,())
def akk:List (Nat×List Nat):=[(1000003,[1,1,0,1,0])]
theorem Wx:okB akk (Tryz.f79.body.getD .skip) []=true:=by kernel_rfl
theorem Q6(x0:List Rel)(x3:Int×aa×ByteArray×ByteArray×List Int×Int×Int×Int)(x6:List ah)(x7:Int)(cN:List Rel)(dF:List Rw)(eV:Int)(gx:Int):qR x0 x3 x6 x7 cN dF eV gx =
 bif decide (gx<eV)then
 (ab dF gx).bind λy =>
 bif !ByteArray.toList x3.snd.snd.snd.fst==(ByteArray.mk #[]).toList then
  bif !ByteArray.toList y.fst==ByteArray.toList x3.snd.snd.snd.fst then
  qR x0 x3 x6 x7 cN dF eV (IntKind.i64.wrap (gx+1))
  else
  (tZ y.snd x3.snd.snd.snd.snd.fst).bind λy =>
   bif !y.fst.snd.fst then some (([],false,()),())
   else
   (oL x6 y.fst.fst [[x7,gx]]).bind λy =>
    bif !y.fst.snd.fst then some (([],false,()),())
    else qR x0 x3 y.fst.fst x7 cN dF eV (IntKind.i64.wrap (gx+1))
 else
  (tZ y.snd x3.snd.snd.snd.snd.fst).bind λy =>
  bif !y.fst.snd.fst then some (([],false,()),())
  else
   (oL x6 y.fst.fst [[x7,gx]]).bind λy =>
   bif !y.fst.snd.fst then some (([],false,()),())
   else qR x0 x3 y.fst.fst x7 cN dF eV (IntKind.i64.wrap (gx+1))
else some ((x6,true,()),()):=(aP Wx [1,1,0,1,0] (by kernel_rfl) _).trans (by kernel_rfl)
theorem aey(a0:List Rel)(a1:Int×aa×ByteArray×ByteArray×List Int×Int×Int×Int):F9 a0 a1 =
 (q7 a0 a1.snd.snd.fst).bind λy =>
 (ab a0 y.fst.fst).bind λaw =>
 qR a0 a1 [] y.fst.fst a0 aw.snd.snd (↑(List.length aw.snd.snd):Int) 0:=(Eq.trans (by kernel_rfl:F9 a0 a1=ax LP (Tryz.f79.body.getD .skip) PB (aU 62 [(bq,Mode.ro),(cM,Mode.ro)] (a0,a1,()))) (all_eq Wx _)).trans (by kernel_rfl)
def DM:Env:=EG.env C AN.1 Tryz.f115
def D1:=EG.out C
def tK(x0:List (List (List Int)))(x3:List (List Int))(x5:List (List Int))(x9:List (List (List Int)))(aX:Int)(bQ:Int)(x15:List (List Int))(x16:Int)(cN:Int):Option ((List (List Int)×PUnit)×PUnit):=aL DM [1,1,0,1,0,0,1,1,0,0,1,1,0] (Tryz.f115.body.getD .skip) D1 (V.d none 0 qs x0::dd 2 (V.d none (ba.depth+1) (Ty.slice 58 ba) x3::V.dead::(V.d none 0 dE x5::dd 3 (V.d none 0 qs x9::V.d none 0 (Ty.int IntKind.i64) aX::V.d none 0 (Ty.int IntKind.i64) bQ::dd 3 (V.d none 0 dE x15::V.d none 0 (Ty.int IntKind.i64) x16::V.d none 0 (Ty.int IntKind.i64) cN::dd 11 ([]))))))
def tI(x0:List (List (List Int)))(x3:List (List Int))(x9:List (List (List Int)))(aX:Int)(bQ:Int):Option ((List (List Int)×PUnit)×PUnit):=aL DM [1,1,0,1,0] (Tryz.f115.body.getD .skip) D1 (V.d none 0 qs x0::dd 2 (V.d none (ba.depth+1) (Ty.slice 58 ba) x3::dd 5 (V.d none 0 qs x9::V.d none 0 (Ty.int IntKind.i64) aX::V.d none 0 (Ty.int IntKind.i64) bQ::dd 17 ([]))))
def oN(a0:List (List (List Int))):Option ((List (List Int)×PUnit)×PUnit):=Nj.ao (a0,())
def akb:List (Nat×List Nat):=[(1000003,[1,1,0,1,0]),(1000006,[1,1,0,1,0,0,1,1,0,0,1,1,0])]
theorem JJ:okB akb (Tryz.f115.body.getD .skip) []=true:=by kernel_rfl
theorem xM(x0:List (List (List Int)))(x3:List (List Int))(x5:List (List Int))(x9:List (List (List Int)))(aX:Int)(bQ:Int)(x15:List (List Int))(x16:Int)(cN:Int):tK x0 x3 x5 x9 aX bQ x15 x16 cN =
 bif decide (cN<x16)then
 (ab x15 cN).bind λy =>
 (ue y).bind λy =>
  bif decide ((x3.length+1)*24<=140737488355328)then
  tK x0 (x3++[y.fst.fst]) x5 x9 aX bQ x15 x16 (IntKind.i64.wrap (cN+1))
  else none
else tI x0 x3 x9 aX (IntKind.i64.wrap (bQ+1)):=(aP JJ [1,1,0,1,0,0,1,1,0,0,1,1,0] (by kernel_rfl) _).trans (by kernel_rfl)
theorem tJ(x0:List (List (List Int)))(x3:List (List Int))(x9:List (List (List Int)))(aX:Int)(bQ:Int):tI x0 x3 x9 aX bQ =
 bif decide (bQ<aX)then (ab x9 bQ).bind λy=>tK x0 x3 y x9 aX bQ y (↑y.length:Int) 0
else some ((x3,()),()):=(aP JJ [1,1,0,1,0] (by kernel_rfl) _).trans (by kernel_rfl)
theorem SB(a0:List (List (List Int))):oN a0 =
 tI a0 [] a0 (↑a0.length:Int) 0:=(Eq.trans (by kernel_rfl:oN a0=ax DM (Tryz.f115.body.getD .skip) D1 (aU 29 [(qs,Mode.ro)] (a0,()))) (all_eq JJ _)).trans (by kernel_rfl)
def DL:Env:=EB.env C AE.1 Tryz.f80
def D0:=EB.out C
def xH(x0:List ah)(x1:List ah)(x6:List ah)(x8:aB×List (List Int))(x14:List ah)(x15:Int)(x16:Int)(fC:List ah)(dF:Int)(eV:Int):Option ((List ah×Bool×PUnit)×PUnit):=aL DL [1,1,0,1,0,0,1,1,0,0,1,1,0] (Tryz.f80.body.getD .skip) D0 (V.d none 0 bD x0::V.d none 0 bD x1::dd 4 (V.d none 1 (Ty.slice 81 fA) x6::V.dead::(V.box none 0 fA x8::dd 5 (V.d none 0 bD x14::V.d none 0 (Ty.int IntKind.i64) x15::V.d none 0 (Ty.int IntKind.i64) x16::dd 3 (V.d none 0 bD fC::V.d none 0 (Ty.int IntKind.i64) dF::V.d none 0 (Ty.int IntKind.i64) eV::dd 30 ([]))))))
def tH(x0:List ah)(x1:List ah)(x6:List ah)(x14:List ah)(x15:Int)(x16:Int):Option ((List ah×Bool×PUnit)×PUnit):=aL DL [1,1,0,1,0] (Tryz.f80.body.getD .skip) D0 (V.d none 0 bD x0::V.d none 0 bD x1::dd 4 (V.d none 1 (Ty.slice 81 fA) x6::dd 7 (V.d none 0 bD x14::V.d none 0 (Ty.int IntKind.i64) x15::V.d none 0 (Ty.int IntKind.i64) x16::dd 36 ([]))))
def FV(a0:List ah)(a1:List ah):Option ((List ah×Bool×PUnit)×PUnit):=Na.ao (a0,a1,())
def aj6:List (Nat×List Nat):=[(1000003,[1,1,0,1,0]),(1000006,[1,1,0,1,0,0,1,1,0,0,1,1,0])]
theorem JI:okB aj6 (Tryz.f80.body.getD .skip) []=true:=by kernel_rfl
theorem QN(x0:List ah)(x1:List ah)(x6:List ah)(x8:aB×List (List Int))(x14:List ah)(x15:Int)(x16:Int)(fC:List ah)(dF:Int)(eV:Int):xH x0 x1 x6 x8 x14 x15 x16 fC dF eV =
 bif decide (eV<dF)then
 (ab fC eV).bind λy =>
 (yV x8.fst y.fst).bind λaw =>
  bif !aw.fst.snd.fst then some (([],false,()),())
  else
  (oN [x8.snd,y.snd]).bind λy =>
   (oL x6 aw.fst.fst y.fst.fst).bind λy =>
   bif !y.fst.snd.fst then some (([],false,()),())
   else xH x0 x1 y.fst.fst x8 x14 x15 x16 fC dF (IntKind.i64.wrap (eV+1))
else tH x0 x1 x6 x14 x15 (IntKind.i64.wrap (x16+1)):=(aP JI [1,1,0,1,0,0,1,1,0,0,1,1,0] (by kernel_rfl) _).trans (by kernel_rfl)
theorem QM(x0:List ah)(x1:List ah)(x6:List ah)(x14:List ah)(x15:Int)(x16:Int):tH x0 x1 x6 x14 x15 x16 =
 bif decide (x16<x15)then
 (ab x14 x16).bind λy=>xH x0 x1 x6 y x14 x15 x16 x1 (↑x1.length:Int) 0
else some ((x6,true,()),()):=(aP JI [1,1,0,1,0] (by kernel_rfl) _).trans (by kernel_rfl)
theorem adY(a0:List ah)(a1:List ah):FV a0 a1 =
 tH a0 a1 [] a0 (↑a0.length:Int) 0:=(Eq.trans (by kernel_rfl:FV a0 a1=ax DL (Tryz.f80.body.getD .skip) D0 (aU 53 [(bD,Mode.ro),(bD,Mode.ro)] (a0,a1,()))) (all_eq JI _)).trans (by kernel_rfl)
def LH:Env:=EE.env C AA.1 Tryz.f117
def Pt:=EE.out C
def qN(x1:Int×List aa)(x2:Int×List aa)(x3:Int×List aa)(x14:List aa)(x15:Int)(x16:Int):Option ((aB×PUnit)×PUnit):=aL LH [1,1,0,1,0] (Tryz.f117.body.getD .skip) Pt (V.dead::(V.box none 0 aA x1::V.box none aA.depth aA x2::V.box none aA.depth aA x3::dd 10 (V.d none 0 (Ty.slice 66 aH) x14::V.d none 0 (Ty.int IntKind.i64) x15::V.d none 0 (Ty.int IntKind.i64) x16::dd 12 ([]))))
def ud(a0:Int×List aa):Option ((aB×PUnit)×PUnit):=Nf.ao (a0,())
def aj9:List (Nat×List Nat):=[(1000003,[1,1,0,1,0])]
theorem Wp:okB aj9 (Tryz.f117.body.getD .skip) []=true:=by kernel_rfl
theorem xK(x1:Int×List aa)(x2:Int×List aa)(x3:Int×List aa)(x14:List aa)(x15:Int)(x16:Int):qN x1 x2 x3 x14 x15 x16 =
 bif decide (x16<x15)then
 (ab x14 x16).bind λy =>
 (q9 y).bind λy =>
  bif decide ((List.length x3.snd+1)*40<=140737488355328)then
  qN x1 x2 (x3.fst,x3.snd++[y.fst.fst]) x14 x15 (IntKind.i64.wrap (x16+1))
  else none
else some ((x3,()),()):=(aP Wp [1,1,0,1,0] (by kernel_rfl) _).trans (by kernel_rfl)
theorem Sz(a0:Int×List aa):ud a0 =
 bif
 decide (0<=0)&&decide (0<=(↑(List.length a0.snd):Int)) &&
  decide ((↑(List.length a0.snd):Int)*(↑40:Int)<=140737488355328) &&
  decide ((↑(List.length a0.snd):Int)<=9223372036854775807)then
 qN a0 (0,[]) (a0.fst,List.replicate (Int.toNat 0) ([],0,false)) a0.snd (↑(List.length a0.snd):Int) 0
else none:=(Eq.trans (by kernel_rfl:ud a0=ax LH (Tryz.f117.body.getD .skip) Pt (aU 29 [(aA,Mode.ro)] (a0,()))) (all_eq Wp _)).trans (by kernel_rfl)
def FY(a0:aB×List (List Int)):Option ((ah×PUnit)×PUnit):=Nk.ao (a0,())
theorem ad7(a0:aB×List (List Int)):FY a0 =
 (ud a0.fst).bind λy=>(oN [a0.snd]).bind λaw=>some (((y.fst.fst,aw.fst.fst),()),()):=by kernel_rfl
def LJ:Env:=EH.env C AF.1 Tryz.f37
def Pv:=EH.out C
def xN(x0:List ah)(x3:List ah)(x7:List ah)(x8:Int)(x9:Int):Option ((List ah×PUnit)×PUnit):=aL LJ [1,1,0,1,0] (Tryz.f37.body.getD .skip) Pv (V.d none 0 bD x0::dd 2 (V.d none (fA.depth+1) (Ty.slice 81 fA) x3::dd 3 (V.d none 0 bD x7::V.d none 0 (Ty.int IntKind.i64) x8::V.d none 0 (Ty.int IntKind.i64) x9::dd 10 ([]))))
def ra(a0:List ah):Option ((List ah×PUnit)×PUnit):=Nl.ao (a0,())
def akc:List (Nat×List Nat):=[(1000003,[1,1,0,1,0])]
theorem Wr:okB akc (Tryz.f37.body.getD .skip) []=true:=by kernel_rfl
theorem QR(x0:List ah)(x3:List ah)(x7:List ah)(x8:Int)(x9:Int):xN x0 x3 x7 x8 x9 =
 bif decide (x9<x8)then
 (ab x7 x9).bind λy =>
 (FY y).bind λy =>
  bif decide ((x3.length+1)*56<=140737488355328)then
  xN x0 (x3++[y.fst.fst]) x7 x8 (IntKind.i64.wrap (x9+1))
  else none
else some ((x3,()),()):=(aP Wr [1,1,0,1,0] (by kernel_rfl) _).trans (by kernel_rfl)
theorem ad9(a0:List ah):ra a0 =
 xN a0 [] a0 (↑a0.length:Int) 0:=(Eq.trans (by kernel_rfl:ra a0=ax LJ (Tryz.f37.body.getD .skip) Pv (aU 20 [(bD,Mode.ro)] (a0,()))) (all_eq Wr _)).trans (by kernel_rfl)
def LL:Env:=EJ.env C AG.1 Tryz.f81
def Px:=EJ.out C
def xQ(x0:List ah)(x1:Int)(x6:List ah)(fB:List ah)(fh:Int)(x14:Int):Option ((List ah×Bool×PUnit)×PUnit):=aL LL [1,1,0,1,0] (Tryz.f81.body.getD .skip) Px (V.d none 0 bD x0::V.d none 0 ak x1::dd 4 (V.d none 1 (Ty.slice 81 fA) x6::dd 5 (V.d none 0 bD fB::V.d none 0 (Ty.int IntKind.i64) fh::V.d none 0 (Ty.int IntKind.i64) x14::dd 26 ([]))))
def F0(a0:List ah)(a1:Int):Option ((List ah×Bool×PUnit)×PUnit):=Np.ao (a0,a1,())
def ake:List (Nat×List Nat):=[(1000003,[1,1,0,1,0])]
theorem Wt:okB ake (Tryz.f81.body.getD .skip) []=true:=by kernel_rfl
theorem QV(x0:List ah)(x1:Int)(x6:List ah)(fB:List ah)(fh:Int)(x14:Int):xQ x0 x1 x6 fB fh x14 =
 bif decide (x14<fh)then
 (ab fB x14).bind λy =>
 (tY y.fst x1).bind λaw =>
  bif !aw.fst.snd.fst then some (([],false,()),())
  else
  (oN [y.snd]).bind λy =>
   (oL x6 aw.fst.fst y.fst.fst).bind λy =>
   bif !y.fst.snd.fst then some (([],false,()),())
   else xQ x0 x1 y.fst.fst fB fh (IntKind.i64.wrap (x14+1))
else some ((x6,true,()),()):=(aP Wt [1,1,0,1,0] (by kernel_rfl) _).trans (by kernel_rfl)
theorem aec(a0:List ah)(a1:Int):F0 a0 a1 =
 xQ a0 a1 [] a0 (↑a0.length:Int) 0:=(Eq.trans (by kernel_rfl:F0 a0 a1=ax LL (Tryz.f81.body.getD .skip) Px (aU 41 [(bD,Mode.ro),(ak,Mode.ro)] (a0,a1,()))) (all_eq Wt _)).trans (by kernel_rfl)
def zb(a0:List Rel)(a1:Int×aa×ByteArray×ByteArray×List Int×Int×Int×Int)(a2:List (List ah)):Option ((List ah×Bool×PUnit) ×
 List (List ah)×PUnit):=NB.ao (a0,a1,a2,())
theorem aes(a0:List Rel)(a1:Int×aa×ByteArray×ByteArray×List Int×Int×Int×Int)(a2:List (List ah)):zb a0 a1 a2 =
 bif a1.fst==0 then (Su a1.snd.fst).bind λy=>some ((y.fst.fst,y.fst.snd.fst,()),a2,())
else
 bif a1.fst==1 then (F9 a0 a1).bind λy=>some ((y.fst.fst,y.fst.snd.fst,()),a2,())
 else
 bif a1.fst==3 then
  (ab a2 a1.snd.snd.snd.snd.snd.snd.fst).bind λy =>
  (ab a2 a1.snd.snd.snd.snd.snd.snd.fst).bind λy =>
   (ab a2 a1.snd.snd.snd.snd.snd.snd.snd).bind λaw =>
   (ab a2 a1.snd.snd.snd.snd.snd.snd.snd).bind λa7 =>
    (FV y a7).bind λy=>some ((y.fst.fst,y.fst.snd.fst,()),a2,())
 else
  bif a1.fst==4 then
  (ab a2 a1.snd.snd.snd.snd.snd.snd.fst).bind λy =>
   (ab a2 a1.snd.snd.snd.snd.snd.snd.fst).bind λy =>
   (ra y).bind λy =>
    (ab a2 a1.snd.snd.snd.snd.snd.snd.snd).bind λaw =>
    (ab a2 a1.snd.snd.snd.snd.snd.snd.snd).bind λa7 =>
     (ra a7).bind λbG =>
     bif decide ((List.length y.fst.fst+List.length bG.fst.fst)*56<=140737488355328)then
      some ((y.fst.fst++bG.fst.fst,decide ((↑(y.fst.fst++bG.fst.fst).length:Int)<=24),()),a2,())
     else none
  else
  (ab a2 a1.snd.snd.snd.snd.snd.snd.fst).bind λy =>
   (ab a2 a1.snd.snd.snd.snd.snd.snd.fst).bind λy =>
   (F0 y a1.snd.snd.snd.snd.snd.fst).bind λy=>some ((y.fst.fst,y.fst.snd.fst,()),a2,()):=by kernel_rfl
def LD:Env:=EA.env C AL.1 Tryz.f11
def Pq:=EA.out C
def xG(x0:List Rel)(x1:List al)(x6:List (List ah))(x16:List al)(cN:Int)(jk:Int):Option ((List ah×Bool×PUnit)×PUnit):=aL LD [1,1,1,0,1,0] (Tryz.f11.body.getD .skip) Pq (V.d none 0 bq x0::V.d none 0 bM x1::dd 4 (V.d none 1 (Ty.slice 26 bD) x6::dd 9 (V.d none 0 bM x16::V.d none 0 (Ty.int IntKind.i64) cN::V.d none 0 (Ty.int IntKind.i64) jk::dd 24 ([]))))
def ua(a0:List Rel)(a1:List al):Option ((List ah×Bool×PUnit)×PUnit):=M6.ao (a0,a1,())
def aj5:List (Nat×List Nat):=[(1000005,[1,1,1,0,1,0])]
theorem Wm:okB aj5 (Tryz.f11.body.getD .skip) []=true:=by kernel_rfl
theorem QJ(x0:List Rel)(x1:List al)(x6:List (List ah))(x16:List al)(cN:Int)(jk:Int):xG x0 x1 x6 x16 cN jk =
 bif decide (jk<cN)then
 (ab x16 jk).bind λy =>
 (zb x0 y x6).bind λy =>
  bif !y.fst.snd.fst then some (([],false,()),())
  else
  bif decide ((List.length y.snd.fst+1)*24<=140737488355328)then
   xG x0 x1 (y.snd.fst++[y.fst.fst]) x16 cN (IntKind.i64.wrap (jk+1))
  else none
else
 (ab x6 (IntKind.i64.wrap ((↑x6.length:Int) - 1))).bind λy =>
 (ab x6 (IntKind.i64.wrap ((↑x6.length:Int) - 1))).bind λy =>
  (ra y).bind λy=>some ((y.fst.fst,true,()),()):=(aP Wm [1,1,1,0,1,0] (by kernel_rfl) _).trans (by kernel_rfl)
theorem adS(a0:List Rel)(a1:List al):ua a0 a1 =
 (yT a0 a1).bind λy =>
 bif !y.fst.fst then some (([],false,()),())else xG a0 a1 [] a1 (↑a1.length:Int) 0:=(Eq.trans (by kernel_rfl:ua a0 a1=ax LD (Tryz.f11.body.getD .skip) Pq (aU 43 [(bq,Mode.ro),(bM,Mode.ro)] (a0,a1,()))) (all_eq Wm _)).trans (by kernel_rfl)
def Mj:Env:=Fl.env C Av.1 Tryz.f87
def PZ:=Fl.out C
def yk(x0:List Int)(x1:List Int)(x5:Int):Option ((Bool×PUnit)×PUnit):=aL Mj [1,1,0,1,0] (Tryz.f87.body.getD .skip) PZ (V.d none 0 ba x0::V.d none 0 ba x1::dd 3 (V.d none 0 (Ty.int IntKind.i64) x5::dd 20 ([])))
def rz(a0:List Int)(a1:List Int):Option ((Bool×PUnit)×PUnit):=Ov.ao (a0,a1,())
def akO:List (Nat×List Nat):=[(1000004,[1,1,0,1,0])]
theorem WX:okB akO (Tryz.f87.body.getD .skip) []=true:=by kernel_rfl
theorem RR(x0:List Int)(x1:List Int)(x5:Int):yk x0 x1 x5 =
 bif decide (x5<(↑x0.length:Int))then
 (ab x0 x5).bind λy =>
 (ab x1 x5).bind λaw =>
  bif y != aw then some ((false,()),())else yk x0 x1 (IntKind.i64.wrap (x5+1))
else some ((true,()),()):=(aP WX [1,1,0,1,0] (by kernel_rfl) _).trans (by kernel_rfl)
theorem afC(a0:List Int)(a1:List Int):rz a0 a1 =
 bif (↑a0.length:Int) != (↑a1.length:Int)then some ((false,()),())else yk a0 a1 0:=(Eq.trans (by kernel_rfl:rz a0 a1=ax Mj (Tryz.f87.body.getD .skip) PZ (aU 26 [(ba,Mode.ro),(ba,Mode.ro)] (a0,a1,()))) (all_eq WX _)).trans (by kernel_rfl)
def zy(a0:aa)(a1:aa):Option ((Bool×PUnit)×PUnit):=Oq.ao (a0,a1,())
theorem afy(a0:aa)(a1:aa):zy a0 a1 =
 (rz a0.fst a1.fst).bind λy =>
 bif !y.fst.fst then some ((false,()),())
 else
 bif a0.snd.fst != a1.snd.fst then some ((false,()),())
 else bif !a0.snd.snd==a1.snd.snd then some ((false,()),())else some ((true,()),()):=by kernel_rfl
def Mi:Env:=Fk.env C Bo.1 Tryz.f118
def PY:=Fk.out C
def yi(x0:List aa)(x1:List aa)(x5:Int):Option ((Bool×PUnit)×PUnit):=aL Mi [1,1,0,1,0] (Tryz.f118.body.getD .skip) PY (V.d none 0 cU x0::V.d none 0 cU x1::dd 3 (V.d none 0 (Ty.int IntKind.i64) x5::dd 21 ([])))
def zD(a0:List aa)(a1:List aa):Option ((Bool×PUnit)×PUnit):=Ot.ao (a0,a1,())
def akN:List (Nat×List Nat):=[(1000004,[1,1,0,1,0])]
theorem WV:okB akN (Tryz.f118.body.getD .skip) []=true:=by kernel_rfl
theorem RP(x0:List aa)(x1:List aa)(x5:Int):yi x0 x1 x5 =
 bif decide (x5<(↑x0.length:Int))then
 (ab x0 x5).bind λy =>
 (ab x1 x5).bind λaw =>
  (zy y aw).bind λy =>
  bif !y.fst.fst then some ((false,()),())else yi x0 x1 (IntKind.i64.wrap (x5+1))
else some ((true,()),()):=(aP WV [1,1,0,1,0] (by kernel_rfl) _).trans (by kernel_rfl)
theorem afw(a0:List aa)(a1:List aa):zD a0 a1 =
 bif (↑a0.length:Int) != (↑a1.length:Int)then some ((false,()),())else yi a0 a1 0:=(Eq.trans (by kernel_rfl:zD a0 a1=ax Mi (Tryz.f118.body.getD .skip) PY (aU 27 [(cU,Mode.ro),(cU,Mode.ro)] (a0,a1,()))) (all_eq WV _)).trans (by kernel_rfl)
def zF(a0:Int×List aa)(a1:Int×List aa):Option ((Bool×PUnit)×PUnit):=Ou.ao (a0,a1,())
theorem afz(a0:Int×List aa)(a1:Int×List aa):zF a0 a1 =
 bif a0.fst != a1.fst then some ((false,()),())
else (zD a0.snd a1.snd).bind λy=>bif !y.fst.fst then some ((false,()),())else some ((true,()),()):=by kernel_rfl
def Mk:Env:=Fm.env C Bm.1 Tryz.f84
def P0:=Fm.out C
def yj(x0:List (List Int))(x1:List (List Int))(x5:Int):Option ((Bool×PUnit)×PUnit):=aL Mk [1,1,0,1,0] (Tryz.f84.body.getD .skip) P0 (V.d none 0 dE x0::V.d none 0 dE x1::dd 3 (V.d none 0 (Ty.int IntKind.i64) x5::dd 21 ([])))
def zG(a0:List (List Int))(a1:List (List Int)):Option ((Bool×PUnit)×PUnit):=Ow.ao (a0,a1,())
def akP:List (Nat×List Nat):=[(1000004,[1,1,0,1,0])]
theorem WW:okB akP (Tryz.f84.body.getD .skip) []=true:=by kernel_rfl
theorem RQ(x0:List (List Int))(x1:List (List Int))(x5:Int):yj x0 x1 x5 =
 bif decide (x5<(↑x0.length:Int))then
 (ab x0 x5).bind λy =>
 (ab x1 x5).bind λaw =>
  (rz y aw).bind λy =>
  bif !y.fst.fst then some ((false,()),())else yj x0 x1 (IntKind.i64.wrap (x5+1))
else some ((true,()),()):=(aP WW [1,1,0,1,0] (by kernel_rfl) _).trans (by kernel_rfl)
theorem afA(a0:List (List Int))(a1:List (List Int)):zG a0 a1 =
 bif (↑a0.length:Int) != (↑a1.length:Int)then some ((false,()),())else yj a0 a1 0:=(Eq.trans (by kernel_rfl:zG a0 a1=ax Mk (Tryz.f84.body.getD .skip) P0 (aU 27 [(dE,Mode.ro),(dE,Mode.ro)] (a0,a1,()))) (all_eq WW _)).trans (by kernel_rfl)
def Gp(a0:aB×List (List Int))(a1:aB×List (List Int)):Option ((Bool×PUnit)×PUnit):=OD.ao (a0,a1,())
theorem afQ(a0:aB×List (List Int))(a1:aB×List (List Int)):Gp a0 a1 =
 (zF a0.fst a1.fst).bind λy =>
 bif !y.fst.fst then some ((false,()),())
 else (zG a0.snd a1.snd).bind λy=>bif !y.fst.fst then some ((false,()),())else some ((true,()),()):=by kernel_rfl
def Mo:Env:=Fs.env C Bt.1 Tryz.f12
def P4:=Fs.out C
def yo(x0:List ah)(x1:List ah)(x5:Int):Option ((Bool×PUnit)×PUnit):=aL Mo [1,1,0,1,0] (Tryz.f12.body.getD .skip) P4 (V.d none 0 bD x0::V.d none 0 bD x1::dd 3 (V.d none 0 (Ty.int IntKind.i64) x5::dd 21 ([])))
def zK(a0:List ah)(a1:List ah):Option ((Bool×PUnit)×PUnit):=OE.ao (a0,a1,())
def akT:List (Nat×List Nat):=[(1000004,[1,1,0,1,0])]
theorem W1:okB akT (Tryz.f12.body.getD .skip) []=true:=by kernel_rfl
theorem RW(x0:List ah)(x1:List ah)(x5:Int):yo x0 x1 x5 =
 bif decide (x5<(↑x0.length:Int))then
 (ab x0 x5).bind λy =>
 (ab x1 x5).bind λaw =>
  (Gp y aw).bind λy =>
  bif !y.fst.fst then some ((false,()),())else yo x0 x1 (IntKind.i64.wrap (x5+1))
else some ((true,()),()):=(aP W1 [1,1,0,1,0] (by kernel_rfl) _).trans (by kernel_rfl)
theorem afO(a0:List ah)(a1:List ah):zK a0 a1 =
 bif (↑a0.length:Int) != (↑a1.length:Int)then some ((false,()),())else yo a0 a1 0:=(Eq.trans (by kernel_rfl:zK a0 a1=ax Mo (Tryz.f12.body.getD .skip) P4 (aU 27 [(bD,Mode.ro),(bD,Mode.ro)] (a0,a1,()))) (all_eq W1 _)).trans (by kernel_rfl)
def Gn(a0:ByteArray×Int×List aa)(a1:ByteArray×Int×List aa):Option ((Bool×PUnit)×PUnit):=OB.ao (a0,a1,())
theorem afM(a0:ByteArray×Int×List aa)(a1:ByteArray×Int×List aa):Gn a0 a1 =
 bif !ByteArray.toList a0.fst==ByteArray.toList a1.fst then some ((false,()),())
else (zF a0.snd a1.snd).bind λy=>bif !y.fst.fst then some ((false,()),())else some ((true,()),()):=by kernel_rfl
def Mn:Env:=Fq.env C Br.1 Tryz.f85
def P3:=Fq.out C
def yn(x0:List Rw)(x1:List Rw)(x5:Int):Option ((Bool×PUnit)×PUnit):=aL Mn [1,1,0,1,0] (Tryz.f85.body.getD .skip) P3 (V.d none 0 jh x0::V.d none 0 jh x1::dd 3 (V.d none 0 (Ty.int IntKind.i64) x5::dd 21 ([])))
def zJ(a0:List Rw)(a1:List Rw):Option ((Bool×PUnit)×PUnit):=OC.ao (a0,a1,())
def akS:List (Nat×List Nat):=[(1000004,[1,1,0,1,0])]
theorem W0:okB akS (Tryz.f85.body.getD .skip) []=true:=by kernel_rfl
theorem RU(x0:List Rw)(x1:List Rw)(x5:Int):yn x0 x1 x5 =
 bif decide (x5<(↑x0.length:Int))then
 (ab x0 x5).bind λy =>
 (ab x1 x5).bind λaw =>
  (Gn y aw).bind λy =>
  bif !y.fst.fst then some ((false,()),())else yn x0 x1 (IntKind.i64.wrap (x5+1))
else some ((true,()),()):=(aP W0 [1,1,0,1,0] (by kernel_rfl) _).trans (by kernel_rfl)
theorem afK(a0:List Rw)(a1:List Rw):zJ a0 a1 =
 bif (↑a0.length:Int) != (↑a1.length:Int)then some ((false,()),())else yn a0 a1 0:=(Eq.trans (by kernel_rfl:zJ a0 a1=ax Mn (Tryz.f85.body.getD .skip) P3 (aU 27 [(jh,Mode.ro),(jh,Mode.ro)] (a0,a1,()))) (all_eq W0 _)).trans (by kernel_rfl)
def Gm(a0:ByteArray×Int×List Rw)(a1:ByteArray×Int×List Rw):Option ((Bool×PUnit)×PUnit):=Oz.ao (a0,a1,())
theorem afI(a0:ByteArray×Int×List Rw)(a1:ByteArray×Int×List Rw):Gm a0 a1 =
 bif !ByteArray.toList a0.fst==ByteArray.toList a1.fst then some ((false,()),())
else
 bif a0.snd.fst != a1.snd.fst then some ((false,()),())
 else
 (zJ a0.snd.snd a1.snd.snd).bind λy=>bif !y.fst.fst then some ((false,()),())else some ((true,()),()):=by kernel_rfl
def Mm:Env:=Fp.env C Bp.1 Tryz.f13
def P2:=Fp.out C
def ym(x0:List Rel)(x1:List Rel)(x5:Int):Option ((Bool×PUnit)×PUnit):=aL Mm [1,1,0,1,0] (Tryz.f13.body.getD .skip) P2 (V.d none 0 bq x0::V.d none 0 bq x1::dd 3 (V.d none 0 (Ty.int IntKind.i64) x5::dd 21 ([])))
def zH(a0:List Rel)(a1:List Rel):Option ((Bool×PUnit)×PUnit):=OA.ao (a0,a1,())
def akR:List (Nat×List Nat):=[(1000004,[1,1,0,1,0])]
theorem WZ:okB akR (Tryz.f13.body.getD .skip) []=true:=by kernel_rfl
theorem RT(x0:List Rel)(x1:List Rel)(x5:Int):ym x0 x1 x5 =
 bif decide (x5<(↑x0.length:Int))then
 (ab x0 x5).bind λy =>
 (ab x1 x5).bind λaw =>
  (Gm y aw).bind λy =>
  bif !y.fst.fst then some ((false,()),())else ym x0 x1 (IntKind.i64.wrap (x5+1))
else some ((true,()),()):=(aP WZ [1,1,0,1,0] (by kernel_rfl) _).trans (by kernel_rfl)
theorem afG(a0:List Rel)(a1:List Rel):zH a0 a1 =
 bif (↑a0.length:Int) != (↑a1.length:Int)then some ((false,()),())else ym a0 a1 0:=(Eq.trans (by kernel_rfl:zH a0 a1=ax Mm (Tryz.f13.body.getD .skip) P2 (aU 27 [(bq,Mode.ro),(bq,Mode.ro)] (a0,a1,()))) (all_eq WZ _)).trans (by kernel_rfl)
def Gl(a0:Int×aa×ByteArray×ByteArray×List Int×Int×Int×Int)(a1:Int×aa×ByteArray×ByteArray×List Int×Int×Int×Int):Option ((Bool×PUnit)×PUnit):=Ox.ao (a0,a1,())
theorem afE(a0:Int×aa×ByteArray×ByteArray×List Int×Int×Int×Int)(a1:Int×aa×ByteArray×ByteArray×List Int×Int×Int×Int):Gl a0 a1 =
 bif a0.fst != a1.fst then some ((false,()),())
else
 (zy a0.snd.fst a1.snd.fst).bind λy =>
 bif !y.fst.fst then some ((false,()),())
 else
  bif !ByteArray.toList a0.snd.snd.fst==ByteArray.toList a1.snd.snd.fst then some ((false,()),())
  else
  bif !ByteArray.toList a0.snd.snd.snd.fst==ByteArray.toList a1.snd.snd.snd.fst then some ((false,()),())
  else
   (rz a0.snd.snd.snd.snd.fst a1.snd.snd.snd.snd.fst).bind λy =>
   bif !y.fst.fst then some ((false,()),())
   else
    bif a0.snd.snd.snd.snd.snd.fst != a1.snd.snd.snd.snd.snd.fst then some ((false,()),())
    else
    bif a0.snd.snd.snd.snd.snd.snd.fst != a1.snd.snd.snd.snd.snd.snd.fst then some ((false,()),())
    else
     bif a0.snd.snd.snd.snd.snd.snd.snd != a1.snd.snd.snd.snd.snd.snd.snd then some ((false,()),())
     else some ((true,()),()):=by kernel_rfl
def Ml:Env:=Fo.env C Bn.1 Tryz.f14
def P1:=Fo.out C
def yl(x0:List al)(x1:List al)(x5:Int):Option ((Bool×PUnit)×PUnit):=aL Ml [1,1,0,1,0] (Tryz.f14.body.getD .skip) P1 (V.d none 0 bM x0::V.d none 0 bM x1::dd 3 (V.d none 0 (Ty.int IntKind.i64) x5::dd 21 ([])))
def uy(a0:List al)(a1:List al):Option ((Bool×PUnit)×PUnit):=Oy.ao (a0,a1,())
def akQ:List (Nat×List Nat):=[(1000004,[1,1,0,1,0])]
theorem WY:okB akQ (Tryz.f14.body.getD .skip) []=true:=by kernel_rfl
theorem RS(x0:List al)(x1:List al)(x5:Int):yl x0 x1 x5 =
 bif decide (x5<(↑x0.length:Int))then
 (ab x0 x5).bind λy =>
 (ab x1 x5).bind λaw =>
  (Gl y aw).bind λy =>
  bif !y.fst.fst then some ((false,()),())else yl x0 x1 (IntKind.i64.wrap (x5+1))
else some ((true,()),()):=(aP WY [1,1,0,1,0] (by kernel_rfl) _).trans (by kernel_rfl)
theorem afD(a0:List al)(a1:List al):uy a0 a1 =
 bif (↑a0.length:Int) != (↑a1.length:Int)then some ((false,()),())else yl a0 a1 0:=(Eq.trans (by kernel_rfl:uy a0 a1=ax Ml (Tryz.f14.body.getD .skip) P1 (aU 27 [(bM,Mode.ro),(bM,Mode.ro)] (a0,a1,()))) (all_eq WY _)).trans (by kernel_rfl)
def MB:Env:=FF.env C Bq.1 Tryz.f41
def Qh:=FF.out C
def yD(x0:Int)(x3:ByteArray):Option ((ByteArray×PUnit)×PUnit):=aL MB [1,1,1,0,0] (Tryz.f41.body.getD .skip) Qh (V.d none 0 ak x0::dd 2 (V.d none 0 Ty.str x3::dd 16 ([])))
def kf(a0:Int):Option ((ByteArray×PUnit)×PUnit):=OT.ao (a0,())
def ak6:List (Nat×List Nat):=[(1000004,[1,1,1,0,0])]
theorem Xe:okB ak6 (Tryz.f41.body.getD .skip) []=true:=by kernel_rfl
theorem R9(x0:Int)(x3:ByteArray):yD x0 x3 =
 bif decide (x0>0)then
 bif decide ((strOf [IntKind.u8.wrap (IntKind.i64.wrap (48+x0.tmod 10))]).size+x3.size<=140737488355328)then
 yD (IntKind.i64.wrap (x0.tdiv 10)) (strOf [IntKind.u8.wrap (IntKind.i64.wrap (48+x0.tmod 10))]++x3)
 else none
else
 bif decide ((ByteArray.mk #[109]).size+x3.size<=140737488355328)then some ((ByteArray.mk #[109]++x3,()),())
 else none:=(aP Xe [1,1,1,0,0] (by kernel_rfl) _).trans (by kernel_rfl)
theorem agf(a0:Int):kf a0 =
 bif decide (a0<=0)then some ((ByteArray.mk #[109,48],()),())else yD a0 (ByteArray.mk #[]):=(Eq.trans (by kernel_rfl:kf a0=ax MB (Tryz.f41.body.getD .skip) Qh (aU 20 [(ak,Mode.ro)] (a0,()))) (all_eq Xe _)).trans (by kernel_rfl)
def Mv:Env:=Fz.env C BE.1 Tryz.f43
def Qb:=Fz.out C
def yx(x0:List Int)(x1:Int)(x5:Int):Option ((Int×PUnit)×List Int×PUnit):=aL Mv [1,0,1,0] (Tryz.f43.body.getD .skip) Qb (V.d none 1 ba x0::V.d none 0 ak x1::dd 3 (V.d none 0 (Ty.int IntKind.i64) x5::dd 13 ([])))
def oV(a0:List Int)(a1:Int):Option ((Int×PUnit)×List Int×PUnit):=ON.ao (a0,a1,())
def ak0:List (Nat×List Nat):=[(1000002,[1,0,1,0])]
theorem W9:okB ak0 (Tryz.f43.body.getD .skip) []=true:=by kernel_rfl
theorem R4(x0:List Int)(x1:Int)(x5:Int):yx x0 x1 x5 =
 bif decide (x5<(↑x0.length:Int))then
 (ab x0 x5).bind λy =>
 (ab x0 x5).bind λy =>
  (ab x0 x5).bind λy =>
  (some (x0.set x5.toNat x1)).bind λy=>yx y (IntKind.i64.wrap (x1+1)) (IntKind.i64.wrap (x5+1))
else some ((x1,()),x0,()):=(aP W9 [1,0,1,0] (by kernel_rfl) _).trans (by kernel_rfl)
theorem af7(a0:List Int)(a1:Int):oV a0 a1 =
 yx a0 a1 0:=(Eq.trans (by kernel_rfl:oV a0 a1=ax Mv (Tryz.f43.body.getD .skip) Qb (aU 19 [(ba,Mode.mut 1),(ak,Mode.ro)] (a0,a1,()))) (all_eq W9 _)).trans (by kernel_rfl)
def Mu:Env:=Fy.env C Bz.1 Tryz.f44
def Qa:=Fy.out C
def yv(x0:List aa)(x1:Int)(x5:Int):Option ((Int×PUnit)×List aa×PUnit):=aL Mu [1,0,1,0] (Tryz.f44.body.getD .skip) Qa (V.d none 2 cU x0::V.d none 0 ak x1::dd 3 (V.d none 0 (Ty.int IntKind.i64) x5::dd 30 ([])))
def uA(a0:List aa)(a1:Int):Option ((Int×PUnit)×List aa×PUnit):=OM.ao (a0,a1,())
def akZ:List (Nat×List Nat):=[(1000002,[1,0,1,0])]
theorem W7:okB akZ (Tryz.f44.body.getD .skip) []=true:=by kernel_rfl
theorem R2(x0:List aa)(x1:Int)(x5:Int):yv x0 x1 x5 =
 bif decide (x5<(↑x0.length:Int))then
 (ab x0 x5).bind λy =>
 (ab x0 x5).bind λy =>
  (ab x0 x5).bind λy =>
  (oV y.fst x1).bind λy =>
   (ab x0 x5).bind λaw =>
   (some (x0.set x5.toNat (y.snd.fst,aw.snd))).bind λa7 =>
    (ab a7 x5).bind λbG =>
    (ab a7 x5).bind λcI =>
     (ab a7 x5).bind λew =>
     (some (a7.set x5.toNat (ew.fst,y.fst.fst,ew.snd.snd))).bind λfi =>
      (ab fi x5).bind λkR =>
      (ab fi x5).bind λgU =>
       (ab fi x5).bind λgV =>
       (some (fi.set x5.toNat (gV.fst,gV.snd.fst,(IntKind.i64.wrap (y.fst.fst+1)).tmod 3==0))).bind
        λgT =>
        yv gT (IntKind.i64.wrap (IntKind.i64.wrap (y.fst.fst+1)+1)) (IntKind.i64.wrap (x5+1))
else some ((x1,()),x0,()):=(aP W7 [1,0,1,0] (by kernel_rfl) _).trans (by kernel_rfl)
theorem af4(a0:List aa)(a1:Int):uA a0 a1 =
 yv a0 a1 0:=(Eq.trans (by kernel_rfl:uA a0 a1=ax Mu (Tryz.f44.body.getD .skip) Qa (aU 36 [(cU,Mode.mut 2),(ak,Mode.ro)] (a0,a1,()))) (all_eq W7 _)).trans (by kernel_rfl)
def Mz:Env:=FD.env C By.1 Tryz.f42
def Qf:=FD.out C
def yB(x0:List Rw)(x1:Int)(x5:Int):Option ((Int×PUnit)×List Rw×PUnit):=aL Mz [1,0,1,0] (Tryz.f42.body.getD .skip) Qf (V.d none 3 jh x0::V.d none 0 ak x1::dd 3 (V.d none 0 (Ty.int IntKind.i64) x5::dd 31 ([])))
def z6(a0:List Rw)(a1:Int):Option ((Int×PUnit)×List Rw×PUnit):=OR.ao (a0,a1,())
def ak4:List (Nat×List Nat):=[(1000002,[1,0,1,0])]
theorem Xc:okB ak4 (Tryz.f42.body.getD .skip) []=true:=by kernel_rfl
theorem R7(x0:List Rw)(x1:Int)(x5:Int):yB x0 x1 x5 =
 bif decide (x5<(↑x0.length:Int))then
 (kf x1).bind λy =>
 (ab x0 x5).bind λaw =>
  (ab x0 x5).bind λa7 =>
  (ab x0 x5).bind λbG =>
   (some (x0.set x5.toNat (y.fst.fst,bG.snd))).bind λy =>
   (ab y x5).bind λcI =>
    (ab y x5).bind λew =>
    (ab y x5).bind λfi =>
     (some (y.set x5.toNat (fi.fst,IntKind.i64.wrap (x1+1),fi.snd.snd))).bind λy =>
     (ab y x5).bind λkR =>
      (ab y x5).bind λgU =>
      (ab y x5).bind λgV =>
       (uA gV.snd.snd (IntKind.i64.wrap (IntKind.i64.wrap (x1+1)+1))).bind λgT =>
       (ab y x5).bind λkc =>
        (some (y.set x5.toNat (kc.fst,kc.snd.fst,gT.snd.fst))).bind λy =>
        yB y gT.fst.fst (IntKind.i64.wrap (x5+1))
else some ((x1,()),x0,()):=(aP Xc [1,0,1,0] (by kernel_rfl) _).trans (by kernel_rfl)
theorem agb(a0:List Rw)(a1:Int):z6 a0 a1 =
 yB a0 a1 0:=(Eq.trans (by kernel_rfl:z6 a0 a1=ax Mz (Tryz.f42.body.getD .skip) Qf (aU 37 [(jh,Mode.mut 3),(ak,Mode.ro)] (a0,a1,()))) (all_eq Xc _)).trans (by kernel_rfl)
def My:Env:=FC.env C BD.1 Tryz.f15
def Qe:=FC.out C
def yA(x0:List Rel)(x1:Int)(x5:Int):Option ((Int×PUnit)×List Rel×PUnit):=aL My [1,0,1,0] (Tryz.f15.body.getD .skip) Qe (V.d none 4 bq x0::V.d none 0 ak x1::dd 3 (V.d none 0 (Ty.int IntKind.i64) x5::dd 29 ([])))
def zZ(a0:List Rel)(a1:Int):Option ((Int×PUnit)×List Rel×PUnit):=OQ.ao (a0,a1,())
def ak3:List (Nat×List Nat):=[(1000002,[1,0,1,0])]
theorem Xb:okB ak3 (Tryz.f15.body.getD .skip) []=true:=by kernel_rfl
theorem R6(x0:List Rel)(x1:Int)(x5:Int):yA x0 x1 x5 =
 bif decide (x5<(↑x0.length:Int))then
 (kf x1).bind λy =>
 (ab x0 x5).bind λaw =>
  (ab x0 x5).bind λa7 =>
  (ab x0 x5).bind λbG =>
   (some (x0.set x5.toNat (y.fst.fst,bG.snd))).bind λy =>
   (ab y x5).bind λcI =>
    (ab y x5).bind λew =>
    (ab y x5).bind λfi =>
     (some (y.set x5.toNat (fi.fst,IntKind.i64.wrap (x1+1),fi.snd.snd))).bind λy =>
     (ab y x5).bind λkR =>
      (ab y x5).bind λgU =>
      (ab y x5).bind λgV =>
       (z6 gV.snd.snd (IntKind.i64.wrap (IntKind.i64.wrap (x1+1)+1))).bind λgT =>
       (ab y x5).bind λkc =>
        (some (y.set x5.toNat (kc.fst,kc.snd.fst,gT.snd.fst))).bind λy =>
        yA y gT.fst.fst (IntKind.i64.wrap (x5+1))
else some ((x1,()),x0,()):=(aP Xb [1,0,1,0] (by kernel_rfl) _).trans (by kernel_rfl)
theorem af9(a0:List Rel)(a1:Int):zZ a0 a1 =
 yA a0 a1 0:=(Eq.trans (by kernel_rfl:zZ a0 a1=ax My (Tryz.f15.body.getD .skip) Qe (aU 35 [(bq,Mode.mut 4),(ak,Mode.ro)] (a0,a1,()))) (all_eq Xb _)).trans (by kernel_rfl)
def Mx:Env:=FB.env C BC.1 Tryz.f16
def Qd:=FB.out C
def yy(x0:List al)(x1:Int)(x5:Int):Option ((Int×PUnit)×List al×PUnit):=aL Mx [1,0,1,0] (Tryz.f16.body.getD .skip) Qd (V.d none 2 bM x0::V.d none 0 ak x1::dd 3 (V.d none 0 (Ty.int IntKind.i64) x5::dd 84 ([])))
def uB(a0:List al)(a1:Int):Option ((Int×PUnit)×List al×PUnit):=OP.ao (a0,a1,())
def ak2:List (Nat×List Nat):=[(1000002,[1,0,1,0])]
theorem Xa:okB ak2 (Tryz.f16.body.getD .skip) []=true:=by kernel_rfl
theorem R5(x0:List al)(x1:Int)(x5:Int):yy x0 x1 x5 =
 bif decide (x5<(↑x0.length:Int))then
 (ab x0 x5).bind λy =>
 (ab x0 x5).bind λy =>
  (ab x0 x5).bind λy =>
  (some (x0.set x5.toNat (x1,y.snd))).bind λy =>
   (ab y x5).bind λaw =>
   (ab y x5).bind λa7 =>
    (ab y x5).bind λbG =>
    (oV bG.snd.fst.fst (IntKind.i64.wrap (x1+1))).bind λcI =>
     (ab y x5).bind λew =>
     (some (y.set x5.toNat (ew.fst,(cI.snd.fst,ew.snd.fst.snd),ew.snd.snd))).bind λy =>
      (ab y x5).bind λfi =>
      (ab y x5).bind λkR =>
       (ab y x5).bind λgU =>
       (some (y.set x5.toNat (gU.fst,(gU.snd.fst.fst,cI.fst.fst,gU.snd.fst.snd.snd),gU.snd.snd))).bind
        λy =>
        (ab y x5).bind λgV =>
        (ab y x5).bind λgT =>
         (ab y x5).bind λkc =>
         (some
           (y.set x5.toNat
           (kc.fst,
            (kc.snd.fst.fst,kc.snd.fst.snd.fst,(IntKind.i64.wrap (cI.fst.fst+1)).tmod 3==0),
            kc.snd.snd))).bind
          λy =>
          (kf (IntKind.i64.wrap (IntKind.i64.wrap (cI.fst.fst+1)+1))).bind λLg =>
          (ab y x5).bind λxh =>
           (ab y x5).bind λLh =>
           (ab y x5).bind λxi =>
            (some (y.set x5.toNat (xi.fst,xi.snd.fst,Lg.fst.fst,xi.snd.snd.snd))).bind λy =>
            (kf
              (IntKind.i64.wrap (IntKind.i64.wrap (IntKind.i64.wrap (cI.fst.fst+1)+1)+1))).bind
             λLi =>
             (ab y x5).bind λLj =>
             (ab y x5).bind λZv =>
              (ab y x5).bind λDG =>
              (some
                (y.set x5.toNat
                (DG.fst,DG.snd.fst,DG.snd.snd.fst,Li.fst.fst,DG.snd.snd.snd.snd))).bind
               λy =>
               (ab y x5).bind λaro =>
               (ab y x5).bind λarp =>
                (ab y x5).bind λaqF =>
                (oV aqF.snd.snd.snd.snd.fst
                  (IntKind.i64.wrap
                  (IntKind.i64.wrap (IntKind.i64.wrap (IntKind.i64.wrap (cI.fst.fst+1)+1)+1) +
                   1))).bind
                 λxj =>
                 (ab y x5).bind λxk =>
                 (some
                   (y.set x5.toNat
                   (xk.fst,xk.snd.fst,xk.snd.snd.fst,xk.snd.snd.snd.fst,xj.snd.fst,
                    xk.snd.snd.snd.snd.snd))).bind
                  λy =>
                  (ab y x5).bind λarq =>
                  (ab y x5).bind λars =>
                   (ab y x5).bind λtn =>
                   (some
                     (y.set x5.toNat
                     (tn.fst,tn.snd.fst,tn.snd.snd.fst,tn.snd.snd.snd.fst,
                      tn.snd.snd.snd.snd.fst,xj.fst.fst,tn.snd.snd.snd.snd.snd.snd))).bind
                    λy =>
                    (ab y x5).bind λart =>
                    (ab y x5).bind λaru =>
                     (ab y x5).bind λqC =>
                     (some
                       (y.set x5.toNat
                       (qC.fst,qC.snd.fst,qC.snd.snd.fst,qC.snd.snd.snd.fst,
                        qC.snd.snd.snd.snd.fst,qC.snd.snd.snd.snd.snd.fst,
                        IntKind.i64.wrap (xj.fst.fst+1),
                        qC.snd.snd.snd.snd.snd.snd.snd))).bind
                      λy =>
                      (ab y x5).bind λarv =>
                      (ab y x5).bind λarw =>
                       (ab y x5).bind λqD =>
                       (some
                         (y.set x5.toNat
                         (qD.fst,qD.snd.fst,qD.snd.snd.fst,qD.snd.snd.snd.fst,
                          qD.snd.snd.snd.snd.fst,qD.snd.snd.snd.snd.snd.fst,
                          qD.snd.snd.snd.snd.snd.snd.fst,
                          IntKind.i64.wrap (IntKind.i64.wrap (xj.fst.fst+1)+1)))).bind
                        λy =>
                        yy y
                        (IntKind.i64.wrap
                         (IntKind.i64.wrap (IntKind.i64.wrap (xj.fst.fst+1)+1)+1))
                        (IntKind.i64.wrap (x5+1))
else some ((x1,()),x0,()):=(aP Xa [1,0,1,0] (by kernel_rfl) _).trans (by kernel_rfl)
theorem af8(a0:List al)(a1:Int):uB a0 a1 =
 yy a0 a1 0:=(Eq.trans (by kernel_rfl:uB a0 a1=ax Mx (Tryz.f16.body.getD .skip) Qd (aU 90 [(bM,Mode.mut 2),(ak,Mode.ro)] (a0,a1,()))) (all_eq Xa _)).trans (by kernel_rfl)
def Mw:Env:=FA.env C BB.1 Tryz.f45
def Qc:=FA.out C
def yw(x0:List (List Int))(x1:Int)(x5:Int):Option ((Int×PUnit)×List (List Int)×PUnit):=aL Mw [1,0,1,0] (Tryz.f45.body.getD .skip) Qc (V.d none 2 dE x0::V.d none 0 ak x1::dd 3 (V.d none 0 (Ty.int IntKind.i64) x5::dd 13 ([])))
def zX(a0:List (List Int))(a1:Int):Option ((Int×PUnit)×List (List Int)×PUnit):=OO.ao (a0,a1,())
def ak1:List (Nat×List Nat):=[(1000002,[1,0,1,0])]
theorem W8:okB ak1 (Tryz.f45.body.getD .skip) []=true:=by kernel_rfl
theorem R3(x0:List (List Int))(x1:Int)(x5:Int):yw x0 x1 x5 =
 bif decide (x5<(↑x0.length:Int))then
 (ab x0 x5).bind λy =>
 (ab x0 x5).bind λy =>
  (ab x0 x5).bind λy =>
  (oV y x1).bind λy =>
   (ab x0 x5).bind λaw =>
   (some (x0.set x5.toNat y.snd.fst)).bind λa7=>yw a7 y.fst.fst (IntKind.i64.wrap (x5+1))
else some ((x1,()),x0,()):=(aP W8 [1,0,1,0] (by kernel_rfl) _).trans (by kernel_rfl)
theorem af5(a0:List (List Int))(a1:Int):zX a0 a1 =
 yw a0 a1 0:=(Eq.trans (by kernel_rfl:zX a0 a1=ax Mw (Tryz.f45.body.getD .skip) Qc (aU 19 [(dE,Mode.mut 2),(ak,Mode.ro)] (a0,a1,()))) (all_eq W8 _)).trans (by kernel_rfl)
def MA:Env:=FE.env C BA.1 Tryz.f17
def Qg:=FE.out C
def yC(x0:List ah)(x1:Int)(x5:Int):Option ((Int×PUnit)×List ah×PUnit):=aL MA [1,0,1,0] (Tryz.f17.body.getD .skip) Qg (V.d none 3 bD x0::V.d none 0 ak x1::dd 3 (V.d none 0 (Ty.int IntKind.i64) x5::dd 30 ([])))
def z7(a0:List ah)(a1:Int):Option ((Int×PUnit)×List ah×PUnit):=OS.ao (a0,a1,())
def ak5:List (Nat×List Nat):=[(1000002,[1,0,1,0])]
theorem Xd:okB ak5 (Tryz.f17.body.getD .skip) []=true:=by kernel_rfl
theorem R8(x0:List ah)(x1:Int)(x5:Int):yC x0 x1 x5 =
 bif decide (x5<(↑x0.length:Int))then
 (ab x0 x5).bind λy =>
 (ab x0 x5).bind λy =>
  (ab x0 x5).bind λy =>
  (some (x0.set x5.toNat ((x1,y.fst.snd),y.snd))).bind λy =>
   (ab y x5).bind λaw =>
   (ab y x5).bind λa7 =>
    (ab y x5).bind λbG =>
    (uA bG.fst.snd (IntKind.i64.wrap (x1+1))).bind λcI =>
     (ab y x5).bind λew =>
     (some (y.set x5.toNat ((ew.fst.fst,cI.snd.fst),ew.snd))).bind λy =>
      (ab y x5).bind λfi =>
      (ab y x5).bind λkR =>
       (ab y x5).bind λgU =>
       (zX gU.snd cI.fst.fst).bind λgV =>
        (ab y x5).bind λgT =>
        (some (y.set x5.toNat (gT.fst,gV.snd.fst))).bind λy =>
         yC y gV.fst.fst (IntKind.i64.wrap (x5+1))
else some ((x1,()),x0,()):=(aP Xd [1,0,1,0] (by kernel_rfl) _).trans (by kernel_rfl)
theorem agd(a0:List ah)(a1:Int):z7 a0 a1 =
 yC a0 a1 0:=(Eq.trans (by kernel_rfl:z7 a0 a1=ax MA (Tryz.f17.body.getD .skip) Qg (aU 36 [(bD,Mode.mut 3),(ak,Mode.ro)] (a0,a1,()))) (all_eq Xd _)).trans (by kernel_rfl)
def Mq:Env:=Fu.env C BF.1 Tryz.f88
def P6:=Fu.out C
def yr(x0:List Int)(x1:Int)(x5:Int):Option ((Int×PUnit)×PUnit):=aL Mq [1,0,1,0] (Tryz.f88.body.getD .skip) P6 (V.d none 0 ba x0::V.d none 0 ak x1::dd 3 (V.d none 0 (Ty.int IntKind.i64) x5::dd 15 ([])))
def oU(a0:List Int)(a1:Int):Option ((Int×PUnit)×PUnit):=OH.ao (a0,a1,())
def akV:List (Nat×List Nat):=[(1000002,[1,0,1,0])]
theorem W4:okB akV (Tryz.f88.body.getD .skip) []=true:=by kernel_rfl
theorem RZ(x0:List Int)(x1:Int)(x5:Int):yr x0 x1 x5 =
 bif decide (x5<(↑x0.length:Int))then
 (ab x0 x5).bind λy =>
 bif y != x1 then some ((-1,()),())else yr x0 (IntKind.i64.wrap (x1+1)) (IntKind.i64.wrap (x5+1))
else some ((x1,()),()):=(aP W4 [1,0,1,0] (by kernel_rfl) _).trans (by kernel_rfl)
theorem afX(a0:List Int)(a1:Int):oU a0 a1 =
 yr a0 a1 0:=(Eq.trans (by kernel_rfl:oU a0 a1=ax Mq (Tryz.f88.body.getD .skip) P6 (aU 21 [(ba,Mode.ro),(ak,Mode.ro)] (a0,a1,()))) (all_eq W4 _)).trans (by kernel_rfl)
def Mp:Env:=Ft.env C Bx.1 Tryz.f46
def P5:=Ft.out C
def yp(x0:List aa)(x1:Int)(x5:Int):Option ((Int×PUnit)×PUnit):=aL Mp [1,0,1,0] (Tryz.f46.body.getD .skip) P5 (V.d none 0 cU x0::V.d none 0 ak x1::dd 3 (V.d none 0 (Ty.int IntKind.i64) x5::dd 36 ([])))
def zM(a0:List aa)(a1:Int):Option ((Int×PUnit)×PUnit):=OG.ao (a0,a1,())
def akU:List (Nat×List Nat):=[(1000002,[1,0,1,0])]
theorem W2:okB akU (Tryz.f46.body.getD .skip) []=true:=by kernel_rfl
theorem RX(x0:List aa)(x1:Int)(x5:Int):yp x0 x1 x5 =
 bif decide (x5<(↑x0.length:Int))then
 (ab x0 x5).bind λy =>
 (oU y.fst x1).bind λy =>
  bif decide (y.fst.fst<0)then some ((-1,()),())
  else
  (ab x0 x5).bind λaw =>
   bif aw.snd.fst != y.fst.fst then some ((-1,()),())
   else
   (ab x0 x5).bind λa7 =>
    bif !a7.snd.snd==((IntKind.i64.wrap (y.fst.fst+1)).tmod 3==0)then some ((-1,()),())
    else yp x0 (IntKind.i64.wrap (IntKind.i64.wrap (y.fst.fst+1)+1)) (IntKind.i64.wrap (x5+1))
else some ((x1,()),()):=(aP W2 [1,0,1,0] (by kernel_rfl) _).trans (by kernel_rfl)
theorem afT(a0:List aa)(a1:Int):zM a0 a1 =
 yp a0 a1 0:=(Eq.trans (by kernel_rfl:zM a0 a1=ax Mp (Tryz.f46.body.getD .skip) P5 (aU 42 [(cU,Mode.ro),(ak,Mode.ro)] (a0,a1,()))) (all_eq W2 _)).trans (by kernel_rfl)
def Mr:Env:=Fv.env C Bu.1 Tryz.f47
def P7:=Fv.out C
def yq(x0:List (List Int))(x1:Int)(x5:Int):Option ((Int×PUnit)×PUnit):=aL Mr [1,0,1,0] (Tryz.f47.body.getD .skip) P7 (V.d none 0 dE x0::V.d none 0 ak x1::dd 3 (V.d none 0 (Ty.int IntKind.i64) x5::dd 15 ([])))
def zO(a0:List (List Int))(a1:Int):Option ((Int×PUnit)×PUnit):=OI.ao (a0,a1,())
def akW:List (Nat×List Nat):=[(1000002,[1,0,1,0])]
theorem W3:okB akW (Tryz.f47.body.getD .skip) []=true:=by kernel_rfl
theorem RY(x0:List (List Int))(x1:Int)(x5:Int):yq x0 x1 x5 =
 bif decide (x5<(↑x0.length:Int))then
 (ab x0 x5).bind λy =>
 (oU y x1).bind λy =>
  bif decide (y.fst.fst<0)then some ((-1,()),())else yq x0 y.fst.fst (IntKind.i64.wrap (x5+1))
else some ((x1,()),()):=(aP W3 [1,0,1,0] (by kernel_rfl) _).trans (by kernel_rfl)
theorem afV(a0:List (List Int))(a1:Int):zO a0 a1 =
 yq a0 a1 0:=(Eq.trans (by kernel_rfl:zO a0 a1=ax Mr (Tryz.f47.body.getD .skip) P7 (aU 21 [(dE,Mode.ro),(ak,Mode.ro)] (a0,a1,()))) (all_eq W3 _)).trans (by kernel_rfl)
def Mt:Env:=Fx.env C Bw.1 Tryz.f18
def P9:=Fx.out C
def yu(x0:List ah)(x1:Int)(x5:Int):Option ((Int×PUnit)×PUnit):=aL Mt [1,0,1,0] (Tryz.f18.body.getD .skip) P9 (V.d none 0 bD x0::V.d none 0 ak x1::dd 3 (V.d none 0 (Ty.int IntKind.i64) x5::dd 36 ([])))
def zU(a0:List ah)(a1:Int):Option ((Int×PUnit)×PUnit):=OK.ao (a0,a1,())
def akY:List (Nat×List Nat):=[(1000002,[1,0,1,0])]
theorem W6:okB akY (Tryz.f18.body.getD .skip) []=true:=by kernel_rfl
theorem R1(x0:List ah)(x1:Int)(x5:Int):yu x0 x1 x5 =
 bif decide (x5<(↑x0.length:Int))then
 (ab x0 x5).bind λy =>
 bif y.fst.fst != x1 then some ((-1,()),())
 else
  (ab x0 x5).bind λy =>
  (zM y.fst.snd (IntKind.i64.wrap (x1+1))).bind λy =>
   bif decide (y.fst.fst<0)then some ((-1,()),())
   else
   (ab x0 x5).bind λaw =>
    (zO aw.snd y.fst.fst).bind λy =>
    bif decide (y.fst.fst<0)then some ((-1,()),())
    else yu x0 y.fst.fst (IntKind.i64.wrap (x5+1))
else some ((x1,()),()):=(aP W6 [1,0,1,0] (by kernel_rfl) _).trans (by kernel_rfl)
theorem af0(a0:List ah)(a1:Int):zU a0 a1 =
 yu a0 a1 0:=(Eq.trans (by kernel_rfl:zU a0 a1=ax Mt (Tryz.f18.body.getD .skip) P9 (aU 42 [(bD,Mode.ro),(ak,Mode.ro)] (a0,a1,()))) (all_eq W6 _)).trans (by kernel_rfl)
def Mg:Env:=Fg.env C A1.1 Tryz.f48
def PW:=Fg.out C
def lZ(x0:List al)(x1:List al)(x5:Int)(x6:Int):Option ((List al×PUnit)×PUnit):=aL Mg [1,1,0,1,0] (Tryz.f48.body.getD .skip) PW (V.d none 2 bM x0::V.d none 0 bM x1::dd 3 (V.d none 0 (Ty.int IntKind.i64) x5::V.d none 0 (Ty.int IntKind.i64) x6::dd 54 ([])))
def zv(a0:List al)(a1:List al):Option ((List al×PUnit)×PUnit):=Oi.ao (a0,a1,())
def akJ:List (Nat×List Nat):=[(1000003,[1,1,0,1,0])]
theorem WT:okB akJ (Tryz.f48.body.getD .skip) []=true:=by kernel_rfl
theorem RJ(x0:List al)(x1:List al)(x5:Int)(x6:Int):lZ x0 x1 x5 x6 =
 bif decide (x6<(↑x1.length:Int))then
 (ab x1 x6).bind λy =>
 (ab x1 x6).bind λaw =>
  (uv aw.snd.fst).bind λa7 =>
  (ab x1 x6).bind λbG =>
   bif decide ((0+List.length bG.snd.snd.snd.snd.fst)*8<=140737488355328)then
   bif decide (y.fst>1)then
    bif y.fst==3 then
    bif decide ((x0.length+1)*128<=140737488355328)then
     lZ
     (x0 ++
      [(y.fst,a7.fst.fst,y.snd.snd.fst,y.snd.snd.snd.fst,bG.snd.snd.snd.snd.fst,y.snd.snd.snd.snd.snd.fst,
       IntKind.i64.wrap (y.snd.snd.snd.snd.snd.snd.fst+x5),
       IntKind.i64.wrap (y.snd.snd.snd.snd.snd.snd.snd+x5))])
     x1 x5 (IntKind.i64.wrap (x6+1))
    else none
    else
    bif y.fst==4 then
     bif decide ((x0.length+1)*128<=140737488355328)then
     lZ
      (x0 ++
      [(y.fst,a7.fst.fst,y.snd.snd.fst,y.snd.snd.snd.fst,bG.snd.snd.snd.snd.fst,y.snd.snd.snd.snd.snd.fst,
       IntKind.i64.wrap (y.snd.snd.snd.snd.snd.snd.fst+x5),
       IntKind.i64.wrap (y.snd.snd.snd.snd.snd.snd.snd+x5))])
      x1 x5 (IntKind.i64.wrap (x6+1))
     else none
    else
     bif decide ((x0.length+1)*128<=140737488355328)then
     lZ
      (x0 ++
      [(y.fst,a7.fst.fst,y.snd.snd.fst,y.snd.snd.snd.fst,bG.snd.snd.snd.snd.fst,y.snd.snd.snd.snd.snd.fst,
       IntKind.i64.wrap (y.snd.snd.snd.snd.snd.snd.fst+x5),y.snd.snd.snd.snd.snd.snd.snd)])
      x1 x5 (IntKind.i64.wrap (x6+1))
     else none
   else
    bif y.fst==3 then
    bif decide ((x0.length+1)*128<=140737488355328)then
     lZ
     (x0 ++
      [(y.fst,a7.fst.fst,y.snd.snd.fst,y.snd.snd.snd.fst,bG.snd.snd.snd.snd.fst,y.snd.snd.snd.snd.snd.fst,
       y.snd.snd.snd.snd.snd.snd.fst,IntKind.i64.wrap (y.snd.snd.snd.snd.snd.snd.snd+x5))])
     x1 x5 (IntKind.i64.wrap (x6+1))
    else none
    else
    bif y.fst==4 then
     bif decide ((x0.length+1)*128<=140737488355328)then
     lZ
      (x0 ++
      [(y.fst,a7.fst.fst,y.snd.snd.fst,y.snd.snd.snd.fst,bG.snd.snd.snd.snd.fst,y.snd.snd.snd.snd.snd.fst,
       y.snd.snd.snd.snd.snd.snd.fst,IntKind.i64.wrap (y.snd.snd.snd.snd.snd.snd.snd+x5))])
      x1 x5 (IntKind.i64.wrap (x6+1))
     else none
    else
     bif decide ((x0.length+1)*128<=140737488355328)then
     lZ
      (x0 ++
      [(y.fst,a7.fst.fst,y.snd.snd.fst,y.snd.snd.snd.fst,bG.snd.snd.snd.snd.fst,y.snd.snd.snd.snd.snd)])
      x1 x5 (IntKind.i64.wrap (x6+1))
     else none
   else none
else some ((x0,()),()):=(aP WT [1,1,0,1,0] (by kernel_rfl) _).trans (by kernel_rfl)
theorem afm(a0:List al)(a1:List al):zv a0 a1 =
 lZ a0 a1 (↑a0.length:Int) 0:=(Eq.trans (by kernel_rfl:zv a0 a1=ax Mg (Tryz.f48.body.getD .skip) PW (aU 61 [(bM,Mode.bS 2),(bM,Mode.ro)] (a0,a1,()))) (all_eq WT _)).trans (by kernel_rfl)
def Gc(a0:List Rel)(a1:List al):Option ((fm ×
 Bool×PUnit) ×
 PUnit):=NV.ao (a0,a1,())
theorem aeU(a0:List Rel)(a1:List al):Gc a0 a1 =
 (um a0 a1).bind λy =>
 bif !y.fst.snd.fst then some ((([],[]),false,()),())
 else (zv [] a1).bind λaw=>some (((aw.fst.fst,y.fst.fst),true,()),()):=by kernel_rfl
def FW(a0:Int×aa×ByteArray×ByteArray×List Int×Int×Int×Int):Option ((al×PUnit)×PUnit):=Ng.ao (a0,())
theorem ad2(a0:Int×aa×ByteArray×ByteArray×List Int×Int×Int×Int):FW a0 =
 (q9 a0.snd.fst).bind λy =>
 (ue a0.snd.snd.snd.snd.fst).bind λaw =>
 some (((a0.fst,y.fst.fst,a0.snd.snd.fst,a0.snd.snd.snd.fst,aw.fst.fst,a0.snd.snd.snd.snd.snd),()),()):=by kernel_rfl
def LI:Env:=EF.env C AD.1 Tryz.f49
def Pu:=EF.out C
def xL(x0:List al)(x3:List al)(x9:List al)(aX:Int)(bQ:Int):Option ((List al×PUnit)×PUnit):=aL LI [1,1,0,1,0] (Tryz.f49.body.getD .skip) Pu (V.d none 0 bM x0::dd 2 (V.d none (cM.depth+1) (Ty.slice 68 cM) x3::dd 5 (V.d none 0 bM x9::V.d none 0 (Ty.int IntKind.i64) aX::V.d none 0 (Ty.int IntKind.i64) bQ::dd 10 ([]))))
def y4(a0:List al):Option ((List al×PUnit)×PUnit):=Nh.ao (a0,())
def aka:List (Nat×List Nat):=[(1000003,[1,1,0,1,0])]
theorem Wq:okB aka (Tryz.f49.body.getD .skip) []=true:=by kernel_rfl
theorem QQ(x0:List al)(x3:List al)(x9:List al)(aX:Int)(bQ:Int):xL x0 x3 x9 aX bQ =
 bif decide (bQ<aX)then
 (ab x9 bQ).bind λy =>
 (FW y).bind λy =>
  bif decide ((x3.length+1)*128<=140737488355328)then
  xL x0 (x3++[y.fst.fst]) x9 aX (IntKind.i64.wrap (bQ+1))
  else none
else some ((x3,()),()):=(aP Wq [1,1,0,1,0] (by kernel_rfl) _).trans (by kernel_rfl)
theorem ad4(a0:List al):y4 a0 =
 bif
 decide (0<=0)&&decide (0<=(↑a0.length:Int))&&decide ((↑a0.length:Int)*(↑128:Int)<=140737488355328) &&
  decide ((↑a0.length:Int)<=9223372036854775807)then
 xL a0 (List.replicate (Int.toNat 0) (0,([],0,false),ByteArray.empty,ByteArray.empty,[],0,0,0)) a0
 (↑a0.length:Int) 0
else none:=(Eq.trans (by kernel_rfl:y4 a0=ax LI (Tryz.f49.body.getD .skip) Pu (aU 22 [(bM,Mode.ro)] (a0,()))) (all_eq Wq _)).trans (by kernel_rfl)
def yZ(a0:List Rel)(a1:List al):Option ((fm ×
 Bool×PUnit) ×
 PUnit):=M3.ao (a0,a1,())
theorem adO(a0:List Rel)(a1:List al):yZ a0 a1 =
 (ua a0 a1).bind λy =>
 bif !y.fst.snd.fst then some ((([],[]),false,()),())
 else (y4 a1).bind λaw=>some (((aw.fst.fst,y.fst.fst),true,()),()):=by kernel_rfl
def uz(a0:fm)(a1:fm):Option ((Bool×PUnit)×PUnit):=OF.ao (a0,a1,())
theorem afS(a0:fm)(a1:fm):uz a0 a1 =
 (uy a0.fst a1.fst).bind λy =>
 bif !y.fst.fst then some ((false,()),())
 else (zK a0.snd a1.snd).bind λy=>bif !y.fst.fst then some ((false,()),())else some ((true,()),()):=by kernel_rfl
def Gq(a0:fm)(a1:Int):Option ((Int×PUnit) ×
 fm ×
 PUnit):=OU.ao (a0,a1,())
theorem agh(a0:fm)(a1:Int):Gq a0 a1 =
 (uB a0.fst a1).bind λy =>
 (z7 a0.snd y.fst.fst).bind λaw=>some ((aw.fst.fst,()),(y.snd.fst,aw.snd.fst),()):=by kernel_rfl
def Ms:Env:=Fw.env C Bv.1 Tryz.f50
def P8:=Fw.out C
def yt(x0:List al)(x1:Int)(x5:Int):Option ((Int×PUnit)×PUnit):=aL Ms [1,0,1,0] (Tryz.f50.body.getD .skip) P8 (V.d none 0 bM x0::V.d none 0 ak x1::dd 3 (V.d none 0 (Ty.int IntKind.i64) x5::dd 104 ([])))
def zT(a0:List al)(a1:Int):Option ((Int×PUnit)×PUnit):=OJ.ao (a0,a1,())
def akX:List (Nat×List Nat):=[(1000002,[1,0,1,0])]
theorem W5:okB akX (Tryz.f50.body.getD .skip) []=true:=by kernel_rfl
theorem R0(x0:List al)(x1:Int)(x5:Int):yt x0 x1 x5 =
 bif decide (x5<(↑x0.length:Int))then
 (ab x0 x5).bind λy =>
 bif y.fst != x1 then some ((-1,()),())
 else
  (ab x0 x5).bind λy =>
  (oU y.snd.fst.fst (IntKind.i64.wrap (x1+1))).bind λy =>
   bif decide (y.fst.fst<0)then some ((-1,()),())
   else
   (ab x0 x5).bind λaw =>
    bif aw.snd.fst.snd.fst != y.fst.fst then some ((-1,()),())
    else
    (ab x0 x5).bind λa7 =>
     bif !a7.snd.fst.snd.snd==((IntKind.i64.wrap (y.fst.fst+1)).tmod 3==0)then some ((-1,()),())
     else
     (ab x0 x5).bind λbG =>
      (kf (IntKind.i64.wrap (IntKind.i64.wrap (y.fst.fst+1)+1))).bind λcI =>
      bif !ByteArray.toList bG.snd.snd.fst==ByteArray.toList cI.fst.fst then some ((-1,()),())
      else
       (ab x0 x5).bind λew =>
       (kf (IntKind.i64.wrap (IntKind.i64.wrap (IntKind.i64.wrap (y.fst.fst+1)+1)+1))).bind
        λfi =>
        bif !ByteArray.toList ew.snd.snd.snd.fst==ByteArray.toList fi.fst.fst then some ((-1,()),())
        else
        (ab x0 x5).bind λkR =>
         (oU kR.snd.snd.snd.snd.fst
          (IntKind.i64.wrap
           (IntKind.i64.wrap (IntKind.i64.wrap (IntKind.i64.wrap (y.fst.fst+1)+1)+1)+1))).bind
         λy =>
         bif decide (y.fst.fst<0)then some ((-1,()),())
         else
          (ab x0 x5).bind λgU =>
          bif gU.snd.snd.snd.snd.snd.fst != y.fst.fst then some ((-1,()),())
          else
           (ab x0 x5).bind λgV =>
           bif gV.snd.snd.snd.snd.snd.snd.fst != IntKind.i64.wrap (y.fst.fst+1)then some ((-1,()),())
           else
            (ab x0 x5).bind λgT =>
            bif
             gT.snd.snd.snd.snd.snd.snd.snd !=
              IntKind.i64.wrap (IntKind.i64.wrap (y.fst.fst+1)+1)then
             some ((-1,()),())
            else
             yt x0
             (IntKind.i64.wrap (IntKind.i64.wrap (IntKind.i64.wrap (y.fst.fst+1)+1)+1))
             (IntKind.i64.wrap (x5+1))
else some ((x1,()),()):=(aP W5 [1,0,1,0] (by kernel_rfl) _).trans (by kernel_rfl)
theorem afY(a0:List al)(a1:Int):zT a0 a1 =
 yt a0 a1 0:=(Eq.trans (by kernel_rfl:zT a0 a1=ax Ms (Tryz.f50.body.getD .skip) P8 (aU 110 [(bM,Mode.ro),(ak,Mode.ro)] (a0,a1,()))) (all_eq W5 _)).trans (by kernel_rfl)
def zW(a0:fm)(a1:Int):Option ((Int×PUnit)×PUnit):=OL.ao (a0,a1,())
theorem af2(a0:fm)(a1:Int):zW a0 a1 =
 (zT a0.fst a1).bind λy =>
 bif decide (y.fst.fst<0)then some ((-1,()),())
 else
 (zU a0.snd y.fst.fst).bind λy =>
  bif decide (y.fst.fst<0)then some ((-1,()),())else some ((y.fst.fst,()),()):=by kernel_rfl
def Gj(a0:List Rel)(a1:List al):Option ((Bool×PUnit)×PUnit):=DT.ao (a0,a1,())
theorem afv(a0:List Rel)(a1:List al):Gj a0 a1 =
 (Ae a0 1048576).bind λy =>
 bif decide (y.fst.fst<0)then some ((true,()),())
 else
 (Ac a1 y.fst.fst).bind λy =>
  bif decide (y.fst.fst<0)then some ((true,()),())
  else
  (oX a0).bind λy =>
   (oW a1).bind λaw =>
   (Gc y.fst.fst aw.fst.fst).bind λy =>
    (oX a0).bind λa7 =>
    (oW a1).bind λbG =>
     (yZ a7.fst.fst bG.fst.fst).bind λcI =>
     (uz cI.fst.fst y.fst.fst).bind λew =>
      bif !ew.fst.fst then some ((false,()),())
      else
      bif !cI.fst.snd.fst==y.fst.snd.fst then some ((false,()),())
      else
       (oX a0).bind λfi =>
       (zH a7.fst.fst fi.fst.fst).bind λkR =>
        bif !kR.fst.fst then some ((false,()),())
        else
        (oW a1).bind λgU =>
         (uy bG.fst.fst gU.fst.fst).bind λgV =>
         bif !gV.fst.fst then some ((false,()),())
         else
          (zZ a7.fst.fst 1).bind λgT =>
          (uB bG.fst.fst gT.fst.fst).bind λkc =>
           bif decide (kc.fst.fst<0)then some ((false,()),())
           else
           (uz cI.fst.fst y.fst.fst).bind λLg =>
            bif !Lg.fst.fst then some ((false,()),())
            else
            bif !cI.fst.snd.fst==y.fst.snd.fst then some ((false,()),())
            else
             (Gq cI.fst.fst 1).bind λxh =>
             (zW xh.snd.fst 1).bind λLh =>
              bif decide (Lh.fst.fst<0)then some ((false,()),())
              else
              bif Lh.fst.fst != xh.fst.fst then some ((false,()),())
              else
               (oX a0).bind λxi =>
               (oW a1).bind λLi =>
                (yZ xi.fst.fst Li.fst.fst).bind λLj =>
                (uz Lj.fst.fst y.fst.fst).bind λZv =>
                 bif !Zv.fst.fst then some ((false,()),())
                 else
                 bif !Lj.fst.snd.fst==y.fst.snd.fst then some ((false,()),())
                 else
                  (zW xh.snd.fst 1).bind λy =>
                  bif decide (y.fst.fst<0)then some ((false,()),())
                  else
                   bif y.fst.fst != xh.fst.fst then some ((false,()),())
                   else some ((true,()),()):=by kernel_rfl
end
end Go.Proofs.YthfgcmoipebheaaGreat.P.It
