/- A part of the proof: It3u. No conditions. -/
import Derived.Test.YthfgcmoipebheaaGreatPIt2u
import Derived.Test.YthfgcmoipebheaaGreatPG8
import Derived.Test.YthfgcmoipebheaaGreatChecked
import Derived.KernelRfl
set_option linter.unusedVariables false
set_option maxRecDepth 100000
namespace Go.Proofs.YthfgcmoipebheaaGreat.P.It
open Am
noncomputable section
def r4(a0:List Int)(a1:Int):Option ((Int×PUnit)×PUnit):=Rh.al (a0,a1,())
theorem akj(a0:List Int)(a1:Int):r4 a0 a1 =
 bif decide (IntKind.i64.wrap (a1 - (↑a0.length:Int))<0)then some ((-1,()),())
else some ((IntKind.i64.wrap (a1 - (↑a0.length:Int)),()),()):=by kernel_rfl
def vf(a0:aa)(a1:Int):Option ((Int×PUnit)×PUnit):=Re.al (a0,a1,())
theorem akf(a0:aa)(a1:Int):vf a0 a1 =
 (r4 a0.fst a1).bind λy=>bif decide (y.fst.fst<0)then some ((-1,()),())else some ((y.fst.fst,()),()):=by kernel_rfl
def OM:Env:=Hr.env C CR.1 Tryz.f145
def SS:=Hr.out C
def zm(x0:List aa)(x1:Int)(x5:Int):Option ((Int×PUnit)×PUnit):=aG OM [1,1,1,0,1,0] (Tryz.f145.body.getD .skip) SS (V.d none 0 nU x0::V.d none 0 (Ty.int IntKind.i64) x1::dd 3 (V.d none 0 (Ty.int IntKind.i64) x5::dd 21 ([])))
def A6(a0:List aa)(a1:Int):Option ((Int×PUnit)×PUnit):=Rf.al (a0,a1,())
def apr:List (Nat×List Nat):=[(1000005,[1,1,1,0,1,0])]
theorem aap:okB apr (Tryz.f145.body.getD .skip) []=true:=by kernel_rfl
theorem Vc(x0:List aa)(x1:Int)(x5:Int):zm x0 x1 x5 =
 bif decide (x5<(↑x0.length:Int))then
 (ab x0 x5).bind λy =>
 (vf y x1).bind λy =>
  bif decide (y.fst.fst<0)then some ((-1,()),())else zm x0 y.fst.fst (IntKind.i64.wrap (x5+1))
else some ((x1,()),()):=(aK aap [1,1,1,0,1,0] (by kernel_rfl) _).trans (by kernel_rfl)
theorem akd(a0:List aa)(a1:Int):A6 a0 a1 =
 bif decide (IntKind.i64.wrap (a1 - (↑a0.length:Int))<0)then some ((-1,()),())
else zm a0 (IntKind.i64.wrap (a1 - (↑a0.length:Int))) 0:=(Eq.trans (by kernel_rfl:A6 a0 a1=aw OM (Tryz.f145.body.getD .skip) SS (aS 27 [(nU,Mode.ro),(ah,Mode.ro)] (a0,a1,()))) (all_eq aap _)).trans (by kernel_rfl)
def A7(a0:Int×List aa)(a1:Int):Option ((Int×PUnit)×PUnit):=Rg.al (a0,a1,())
theorem akg(a0:Int×List aa)(a1:Int):A7 a0 a1 =
 (A6 a0.snd a1).bind λy=>bif decide (y.fst.fst<0)then some ((-1,()),())else some ((y.fst.fst,()),()):=by kernel_rfl
def Be(a0:ByteArray×Int×List aa)(a1:Int):Option ((Int×PUnit)×PUnit):=Rn.al (a0,a1,())
theorem aku(a0:ByteArray×Int×List aa)(a1:Int):Be a0 a1 =
 bif decide (IntKind.i64.wrap (a1 - (↑(ByteArray.size a0.fst):Int))<0)then some ((-1,()),())
else
 (A7 a0.snd (IntKind.i64.wrap (a1 - (↑(ByteArray.size a0.fst):Int)))).bind λy =>
 bif decide (y.fst.fst<0)then some ((-1,()),())else some ((y.fst.fst,()),()):=by kernel_rfl
def OQ:Env:=Hv.env C CV.1 Tryz.f64
def SY:=Hv.out C
def zr(x0:List Rw)(x1:Int)(x5:Int):Option ((Int×PUnit)×PUnit):=aG OQ [1,1,1,0,1,0] (Tryz.f64.body.getD .skip) SY (V.d none 0 nY x0::V.d none 0 (Ty.int IntKind.i64) x1::dd 3 (V.d none 0 (Ty.int IntKind.i64) x5::dd 21 ([])))
def Bf(a0:List Rw)(a1:Int):Option ((Int×PUnit)×PUnit):=Ro.al (a0,a1,())
def apv:List (Nat×List Nat):=[(1000005,[1,1,1,0,1,0])]
theorem aat:okB apv (Tryz.f64.body.getD .skip) []=true:=by kernel_rfl
theorem Vg(x0:List Rw)(x1:Int)(x5:Int):zr x0 x1 x5 =
 bif decide (x5<(↑x0.length:Int))then
 (ab x0 x5).bind λy =>
 (Be y x1).bind λy =>
  bif decide (y.fst.fst<0)then some ((-1,()),())else zr x0 y.fst.fst (IntKind.i64.wrap (x5+1))
else some ((x1,()),()):=(aK aat [1,1,1,0,1,0] (by kernel_rfl) _).trans (by kernel_rfl)
theorem aks(a0:List Rw)(a1:Int):Bf a0 a1 =
 bif decide (IntKind.i64.wrap (a1 - (↑a0.length:Int))<0)then some ((-1,()),())
else zr a0 (IntKind.i64.wrap (a1 - (↑a0.length:Int))) 0:=(Eq.trans (by kernel_rfl:Bf a0 a1=aw OQ (Tryz.f64.body.getD .skip) SY (aS 27 [(nY,Mode.ro),(ah,Mode.ro)] (a0,a1,()))) (all_eq aat _)).trans (by kernel_rfl)
def Bb(a0:ByteArray×Int×List Rw)(a1:Int):Option ((Int×PUnit)×PUnit):=Rl.al (a0,a1,())
theorem akq(a0:ByteArray×Int×List Rw)(a1:Int):Bb a0 a1 =
 bif decide (IntKind.i64.wrap (a1 - (↑(ByteArray.size a0.fst):Int))<0)then some ((-1,()),())
else
 (Bf a0.snd.snd (IntKind.i64.wrap (a1 - (↑(ByteArray.size a0.fst):Int)))).bind λy =>
 bif decide (y.fst.fst<0)then some ((-1,()),())else some ((y.fst.fst,()),()):=by kernel_rfl
def OP:Env:=Hu.env C CU.1 Tryz.f6
def SX:=Hu.out C
def zq(x0:List Rel)(x1:Int)(x5:Int):Option ((Int×PUnit)×PUnit):=aG OP [1,1,1,0,1,0] (Tryz.f6.body.getD .skip) SX (V.d none 0 jr x0::V.d none 0 (Ty.int IntKind.i64) x1::dd 3 (V.d none 0 (Ty.int IntKind.i64) x5::dd 21 ([])))
def Bc(a0:List Rel)(a1:Int):Option ((Int×PUnit)×PUnit):=Rm.al (a0,a1,())
def apu:List (Nat×List Nat):=[(1000005,[1,1,1,0,1,0])]
theorem aas:okB apu (Tryz.f6.body.getD .skip) []=true:=by kernel_rfl
theorem Vf(x0:List Rel)(x1:Int)(x5:Int):zq x0 x1 x5 =
 bif decide (x5<(↑x0.length:Int))then
 (ab x0 x5).bind λy =>
 (Bb y x1).bind λy =>
  bif decide (y.fst.fst<0)then some ((-1,()),())else zq x0 y.fst.fst (IntKind.i64.wrap (x5+1))
else some ((x1,()),()):=(aK aas [1,1,1,0,1,0] (by kernel_rfl) _).trans (by kernel_rfl)
theorem ako(a0:List Rel)(a1:Int):Bc a0 a1 =
 bif decide (IntKind.i64.wrap (a1 - (↑a0.length:Int))<0)then some ((-1,()),())
else zq a0 (IntKind.i64.wrap (a1 - (↑a0.length:Int))) 0:=(Eq.trans (by kernel_rfl:Bc a0 a1=aw OP (Tryz.f6.body.getD .skip) SX (aS 27 [(jr,Mode.ro),(ah,Mode.ro)] (a0,a1,()))) (all_eq aas _)).trans (by kernel_rfl)
def A9(a0:Int×aa×ByteArray×ByteArray×List Int×Int×Int×Int)(a1:Int):Option ((Int×PUnit)×PUnit):=Rj.al (a0,a1,())
theorem akm(a0:Int×aa×ByteArray×ByteArray×List Int×Int×Int×Int)(a1:Int):A9 a0 a1 =
 (vf a0.snd.fst a1).bind λy =>
 bif decide (y.fst.fst<0)then some ((-1,()),())
 else
 bif decide (IntKind.i64.wrap (y.fst.fst - (↑(ByteArray.size a0.snd.snd.fst):Int))<0)then some ((-1,()),())
 else
  bif
   decide
   (IntKind.i64.wrap
    (IntKind.i64.wrap (y.fst.fst - (↑(ByteArray.size a0.snd.snd.fst):Int)) -
     (↑(ByteArray.size a0.snd.snd.snd.fst):Int)) <
    0)then
  some ((-1,()),())
  else
  (r4 a0.snd.snd.snd.snd.fst
    (IntKind.i64.wrap
    (IntKind.i64.wrap (y.fst.fst - (↑(ByteArray.size a0.snd.snd.fst):Int)) -
     (↑(ByteArray.size a0.snd.snd.snd.fst):Int)))).bind
   λy=>bif decide (y.fst.fst<0)then some ((-1,()),())else some ((y.fst.fst,()),()):=by kernel_rfl
def OO:Env:=Ht.env C CS.1 Tryz.f7
def SV:=Ht.out C
def zp(x0:List ao)(x1:Int)(x5:Int):Option ((Int×PUnit)×PUnit):=aG OO [1,1,1,0,1,0] (Tryz.f7.body.getD .skip) SV (V.d none 0 nV x0::V.d none 0 (Ty.int IntKind.i64) x1::dd 3 (V.d none 0 (Ty.int IntKind.i64) x5::dd 21 ([])))
def Ba(a0:List ao)(a1:Int):Option ((Int×PUnit)×PUnit):=Rk.al (a0,a1,())
def apt:List (Nat×List Nat):=[(1000005,[1,1,1,0,1,0])]
theorem aar:okB apt (Tryz.f7.body.getD .skip) []=true:=by kernel_rfl
theorem Ve(x0:List ao)(x1:Int)(x5:Int):zp x0 x1 x5 =
 bif decide (x5<(↑x0.length:Int))then
 (ab x0 x5).bind λy =>
 (A9 y x1).bind λy =>
  bif decide (y.fst.fst<0)then some ((-1,()),())else zp x0 y.fst.fst (IntKind.i64.wrap (x5+1))
else some ((x1,()),()):=(aK aar [1,1,1,0,1,0] (by kernel_rfl) _).trans (by kernel_rfl)
theorem akk(a0:List ao)(a1:Int):Ba a0 a1 =
 bif decide (IntKind.i64.wrap (a1 - (↑a0.length:Int))<0)then some ((-1,()),())
else zp a0 (IntKind.i64.wrap (a1 - (↑a0.length:Int))) 0:=(Eq.trans (by kernel_rfl:Ba a0 a1=aw OO (Tryz.f7.body.getD .skip) SV (aS 27 [(nV,Mode.ro),(ah,Mode.ro)] (a0,a1,()))) (all_eq aar _)).trans (by kernel_rfl)
def OT:Env:=Hy.env C CX.1 Tryz.f76
def S1:=Hy.out C
def zy(x0:List Int)(x3:List Int)(x4:Int):Option ((List Int×PUnit)×PUnit):=aG OT [1,1,0,1,0] (Tryz.f76.body.getD .skip) S1 (V.d none 0 bb x0::dd 2 (V.d none (ah.depth+1) (Ty.slice 3 ah) x3::V.d none 0 (Ty.int IntKind.i64) x4::dd 17 ([])))
def pv(a0:List Int):Option ((List Int×PUnit)×PUnit):=Rv.al (a0,())
def apy:List (Nat×List Nat):=[(1000003,[1,1,0,1,0])]
theorem aax:okB apy (Tryz.f76.body.getD .skip) []=true:=by kernel_rfl
theorem Vk(x0:List Int)(x3:List Int)(x4:Int):zy x0 x3 x4 =
 bif decide (x4<(↑x0.length:Int))then
 (ab x0 x4).bind λy =>
 (ab x3 x4).bind λav =>
  (ab x3 x4).bind λa6 =>
  (ab x3 x4).bind λbp=>(some (x3.set x4.toNat y)).bind λy=>zy x0 y (IntKind.i64.wrap (x4+1))
else some ((x3,()),()):=(aK aax [1,1,0,1,0] (by kernel_rfl) _).trans (by kernel_rfl)
theorem akI(a0:List Int):pv a0 =
 bif
 decide (0<=(↑a0.length:Int))&&decide ((↑a0.length:Int)<=(↑a0.length:Int)) &&
  decide ((↑a0.length:Int)*(↑8:Int)<=140737488355328) &&
  decide ((↑a0.length:Int)<=9223372036854775807)then
 zy a0 (List.replicate a0.length (0:Int)) 0
else none:=(Eq.trans (by kernel_rfl:pv a0=aw OT (Tryz.f76.body.getD .skip) S1 (aS 22 [(bb,Mode.ro)] (a0,()))) (all_eq aax _)).trans (by kernel_rfl)
def vg(a0:aa):Option ((aa×PUnit)×PUnit):=Rs.al (a0,())
theorem akE(a0:aa):vg a0 =
 (pv a0.fst).bind λy=>some (((y.fst.fst,a0.snd.fst,a0.snd.snd),()),()):=by kernel_rfl
def OS:Env:=Hx.env C CY.1 Tryz.f147
def S0:=Hx.out C
def zu(x0:List aa)(x3:List aa)(x4:Int):Option ((List aa×PUnit)×PUnit):=aG OS [1,1,0,1,0] (Tryz.f147.body.getD .skip) S0 (V.d none 0 nU x0::dd 2 (V.d none (aM.depth+1) (Ty.slice 66 aM) x3::V.d none 0 (Ty.int IntKind.i64) x4::dd 18 ([])))
def Bi(a0:List aa):Option ((List aa×PUnit)×PUnit):=Rt.al (a0,())
def apx:List (Nat×List Nat):=[(1000003,[1,1,0,1,0])]
theorem aav:okB apx (Tryz.f147.body.getD .skip) []=true:=by kernel_rfl
theorem Vi(x0:List aa)(x3:List aa)(x4:Int):zu x0 x3 x4 =
 bif decide (x4<(↑x0.length:Int))then
 (ab x0 x4).bind λy =>
 (vg y).bind λy =>
  (ab x3 x4).bind λav =>
  (ab x3 x4).bind λa6 =>
   (ab x3 x4).bind λbp =>
   (some (x3.set x4.toNat y.fst.fst)).bind λy=>zu x0 y (IntKind.i64.wrap (x4+1))
else some ((x3,()),()):=(aK aav [1,1,0,1,0] (by kernel_rfl) _).trans (by kernel_rfl)
theorem akC(a0:List aa):Bi a0 =
 bif
 decide (0<=(↑a0.length:Int))&&decide ((↑a0.length:Int)<=(↑a0.length:Int)) &&
  decide ((↑a0.length:Int)*(↑40:Int)<=140737488355328) &&
  decide ((↑a0.length:Int)<=9223372036854775807)then
 zu a0 (List.replicate a0.length ([],0,false)) 0
else none:=(Eq.trans (by kernel_rfl:Bi a0=aw OS (Tryz.f147.body.getD .skip) S0 (aS 23 [(nU,Mode.ro)] (a0,()))) (all_eq aav _)).trans (by kernel_rfl)
def Bj(a0:Int×List aa):Option ((az×PUnit)×PUnit):=Ru.al (a0,())
theorem akF(a0:Int×List aa):Bj a0 =
 (Bi a0.snd).bind λy=>some (((a0.fst,y.fst.fst),()),()):=by kernel_rfl
def Bo(a0:ByteArray×Int×List aa):Option ((Rw×PUnit)×PUnit):=RC.al (a0,())
theorem akT(a0:ByteArray×Int×List aa):Bo a0 =
 (Bj a0.snd).bind λy=>some (((a0.fst,y.fst.fst),()),()):=by kernel_rfl
def OX:Env:=HC.env C C2.1 Tryz.f74
def S6:=HC.out C
def zG(x0:List Rw)(x3:List Rw)(x4:Int):Option ((List Rw×PUnit)×PUnit):=aG OX [1,1,0,1,0] (Tryz.f74.body.getD .skip) S6 (V.d none 0 nY x0::dd 2 (V.d none (ko.depth+1) (Ty.slice 105 ko) x3::V.d none 0 (Ty.int IntKind.i64) x4::dd 18 ([])))
def Bp(a0:List Rw):Option ((List Rw×PUnit)×PUnit):=RD.al (a0,())
def apC:List (Nat×List Nat):=[(1000003,[1,1,0,1,0])]
theorem aaA:okB apC (Tryz.f74.body.getD .skip) []=true:=by kernel_rfl
theorem Vn(x0:List Rw)(x3:List Rw)(x4:Int):zG x0 x3 x4 =
 bif decide (x4<(↑x0.length:Int))then
 (ab x0 x4).bind λy =>
 (Bo y).bind λy =>
  (ab x3 x4).bind λav =>
  (ab x3 x4).bind λa6 =>
   (ab x3 x4).bind λbp =>
   (some (x3.set x4.toNat y.fst.fst)).bind λy=>zG x0 y (IntKind.i64.wrap (x4+1))
else some ((x3,()),()):=(aK aaA [1,1,0,1,0] (by kernel_rfl) _).trans (by kernel_rfl)
theorem akR(a0:List Rw):Bp a0 =
 bif
 decide (0<=(↑a0.length:Int))&&decide ((↑a0.length:Int)<=(↑a0.length:Int)) &&
  decide ((↑a0.length:Int)*(↑48:Int)<=140737488355328) &&
  decide ((↑a0.length:Int)<=9223372036854775807)then
 zG a0 (List.replicate a0.length (ByteArray.empty,0,[])) 0
else none:=(Eq.trans (by kernel_rfl:Bp a0=aw OX (Tryz.f74.body.getD .skip) S6 (aS 23 [(nY,Mode.ro)] (a0,()))) (all_eq aaA _)).trans (by kernel_rfl)
def Bn(a0:ByteArray×Int×List Rw):Option ((Rel×PUnit)×PUnit):=RA.al (a0,())
theorem akP(a0:ByteArray×Int×List Rw):Bn a0 =
 (Bp a0.snd.snd).bind λy=>some (((a0.fst,a0.snd.fst,y.fst.fst),()),()):=by kernel_rfl
def OW:Env:=HB.env C C1.1 Tryz.f9
def S5:=HB.out C
def zF(x0:List Rel)(x3:List Rel)(x4:Int):Option ((List Rel×PUnit)×PUnit):=aG OW [1,1,0,1,0] (Tryz.f9.body.getD .skip) S5 (V.d none 0 jr x0::dd 2 (V.d none (du.depth+1) (Ty.slice 72 du) x3::V.d none 0 (Ty.int IntKind.i64) x4::dd 18 ([])))
def pw(a0:List Rel):Option ((List Rel×PUnit)×PUnit):=RB.al (a0,())
def apB:List (Nat×List Nat):=[(1000003,[1,1,0,1,0])]
theorem aaz:okB apB (Tryz.f9.body.getD .skip) []=true:=by kernel_rfl
theorem Vm(x0:List Rel)(x3:List Rel)(x4:Int):zF x0 x3 x4 =
 bif decide (x4<(↑x0.length:Int))then
 (ab x0 x4).bind λy =>
 (Bn y).bind λy =>
  (ab x3 x4).bind λav =>
  (ab x3 x4).bind λa6 =>
   (ab x3 x4).bind λbp =>
   (some (x3.set x4.toNat y.fst.fst)).bind λy=>zF x0 y (IntKind.i64.wrap (x4+1))
else some ((x3,()),()):=(aK aaz [1,1,0,1,0] (by kernel_rfl) _).trans (by kernel_rfl)
theorem akN(a0:List Rel):pw a0 =
 bif
 decide (0<=(↑a0.length:Int))&&decide ((↑a0.length:Int)<=(↑a0.length:Int)) &&
  decide ((↑a0.length:Int)*(↑48:Int)<=140737488355328) &&
  decide ((↑a0.length:Int)<=9223372036854775807)then
 zF a0 (List.replicate a0.length (ByteArray.empty,0,[])) 0
else none:=(Eq.trans (by kernel_rfl:pw a0=aw OW (Tryz.f9.body.getD .skip) S5 (aS 23 [(jr,Mode.ro)] (a0,()))) (all_eq aaz _)).trans (by kernel_rfl)
def Bl(a0:Int×aa×ByteArray×ByteArray×List Int×Int×Int×Int):Option ((ao×PUnit)×PUnit):=Ry.al (a0,())
theorem akL(a0:Int×aa×ByteArray×ByteArray×List Int×Int×Int×Int):Bl a0 =
 (vg a0.snd.fst).bind λy =>
 (pv a0.snd.snd.snd.snd.fst).bind λav =>
 some
  (((a0.fst,y.fst.fst,a0.snd.snd.fst,a0.snd.snd.snd.fst,av.fst.fst,a0.snd.snd.snd.snd.snd.fst,
   a0.snd.snd.snd.snd.snd.snd.fst,a0.snd.snd.snd.snd.snd.snd.snd),
   ()),
  ()):=by kernel_rfl
def OV:Env:=HA.env C CZ.1 Tryz.f10
def S4:=HA.out C
def zD(x0:List ao)(x3:List ao)(x4:Int):Option ((List ao×PUnit)×PUnit):=aG OV [1,1,0,1,0] (Tryz.f10.body.getD .skip) S4 (V.d none 0 nV x0::dd 2 (V.d none (cY.depth+1) (Ty.slice 68 cY) x3::V.d none 0 (Ty.int IntKind.i64) x4::dd 18 ([])))
def Bm(a0:List ao):Option ((List ao×PUnit)×PUnit):=Rz.al (a0,())
def apA:List (Nat×List Nat):=[(1000003,[1,1,0,1,0])]
theorem aay:okB apA (Tryz.f10.body.getD .skip) []=true:=by kernel_rfl
theorem Vl(x0:List ao)(x3:List ao)(x4:Int):zD x0 x3 x4 =
 bif decide (x4<(↑x0.length:Int))then
 (ab x0 x4).bind λy =>
 (Bl y).bind λy =>
  (ab x3 x4).bind λav =>
  (ab x3 x4).bind λa6 =>
   (ab x3 x4).bind λbp =>
   (some (x3.set x4.toNat y.fst.fst)).bind λy=>zD x0 y (IntKind.i64.wrap (x4+1))
else some ((x3,()),()):=(aK aay [1,1,0,1,0] (by kernel_rfl) _).trans (by kernel_rfl)
theorem akJ(a0:List ao):Bm a0 =
 bif
 decide (0<=(↑a0.length:Int))&&decide ((↑a0.length:Int)<=(↑a0.length:Int)) &&
  decide ((↑a0.length:Int)*(↑128:Int)<=140737488355328) &&
  decide ((↑a0.length:Int)<=9223372036854775807)then
 zD a0 (List.replicate a0.length (0,([],0,false),ByteArray.empty,ByteArray.empty,[],0,0,0)) 0
else none:=(Eq.trans (by kernel_rfl:Bm a0=aw OV (Tryz.f10.body.getD .skip) S4 (aS 23 [(nV,Mode.ro)] (a0,()))) (all_eq aay _)).trans (by kernel_rfl)
def gv(a0:Int)(a1:Int)(a2:Int):Option ((Bool×PUnit)×PUnit):=Qm.al (a0,a1,a2,())
theorem aiT(a0:Int)(a1:Int)(a2:Int):gv a0 a1 a2 =
 bif decide (a0>=a1)then some ((decide (a0<=a2),()),())else some ((false,()),()):=by kernel_rfl
def Oo:Env:=G5.env C Ch.1 Tryz.f123
def Sw:=G5.out C
def uM(x0:ByteArray)(x1:Int)(x2:Int)(x7:Int):Option ((Bool×PUnit)×PUnit):=aG Oo [1,0,1,0] (Tryz.f123.body.getD .skip) Sw (V.d none 0 cO x0::V.d none 0 iL x1::V.d none 0 iL x2::dd 4 (V.d none 0 (Ty.int IntKind.i64) x7::dd 21 ([])))
def rW(a0:ByteArray)(a1:Int)(a2:Int):Option ((Bool×PUnit)×PUnit):=QH.al (a0,a1,a2,())
def ao4:List (Nat×List Nat):=[(1000002,[1,0,1,0])]
theorem Z4:okB ao4 (Tryz.f123.body.getD .skip) []=true:=by kernel_rfl
theorem UM(x0:ByteArray)(x1:Int)(x2:Int)(x7:Int):uM x0 x1 x2 x7 =
 bif decide (x7<(↑x0.size:Int))then
 (mW x0 x7).bind λy =>
 bif decide (y<x1)then some ((false,()),())
 else
  (mW x0 x7).bind λy =>
  bif decide (y>x2)then some ((false,()),())else uM x0 x1 x2 (IntKind.i64.wrap (x7+1))
else (gv (↑x0.size:Int) 1 6).bind λy=>some ((y.fst.fst,()),()):=(aK Z4 [1,0,1,0] (by kernel_rfl) _).trans (by kernel_rfl)
theorem ajm(a0:ByteArray)(a1:Int)(a2:Int):rW a0 a1 a2 =
 uM a0 a1 a2 0:=(Eq.trans (by kernel_rfl:rW a0 a1 a2=aw Oo (Tryz.f123.body.getD .skip) Sw (aS 29 [(cO,Mode.ro),(iL,Mode.ro),(iL,Mode.ro)] (a0,a1,a2,()))) (all_eq Z4 _)).trans (by kernel_rfl)
def An(a0:Int):Option ((Bool×PUnit)×PUnit):=P6.al (a0,())
theorem aix(a0:Int):An a0 =
 (gv a0 (-400000000) 400000000).bind λy=>some ((y.fst.fst,()),()):=by kernel_rfl
def u7(a0:Int):Option ((Int×PUnit)×PUnit):=Ql.al (a0,())
theorem VX(a0:Int):u7 a0 =
 some
 ((bif true then if a0<IntKind.i64.wrap (0 - a0)then IntKind.i64.wrap (0 - a0)else a0
  else if IntKind.i64.wrap (0 - a0)<a0 then IntKind.i64.wrap (0 - a0)else a0,
  ()),
 ()):=by kernel_rfl
def Fi:Env:=GU.env C Cg.1 Tryz.f136
def FD:=GU.out C
def yO(x0:List Int)(x5:Int)(x6:Int)(x7:Int):Option ((Int×PUnit)×PUnit):=aG Fi [1,1,0,1,0,0,1,0,0,1,0] (Tryz.f136.body.getD .skip) FD (V.d none 0 bb x0::dd 4 (V.d none 0 ah x5::V.d none 0 (Ty.int IntKind.i64) x6::V.d none 0 ah x7::dd 20 ([])))
def rH(x0:List Int)(x5:Int)(x6:Int):Option ((Int×PUnit)×PUnit):=aG Fi [1,1,0,1,0] (Tryz.f136.body.getD .skip) FD (V.d none 0 bb x0::dd 4 (V.d none 0 ah x5::V.d none 0 (Ty.int IntKind.i64) x6::dd 21 ([])))
def pn(a0:List Int)(a1:Int):Option ((Int×PUnit)×PUnit):=Qp.al (a0,a1,())
def aoT:List (Nat×List Nat):=[(1000003,[1,1,0,1,0]),(1000006,[1,1,0,1,0,0,1,0,0,1,0])]
theorem LF:okB aoT (Tryz.f136.body.getD .skip) []=true:=by kernel_rfl
theorem afV(x0:List Int)(x5:Int)(x6:Int)(x7:Int):yO x0 x5 x6 x7 =
 bif x7 != 0 then bif x7 != 0 then yO x0 x7 x6 (x5.tmod x7)else none
else rH x0 x5 (IntKind.i64.wrap (x6+1)):=(aK LF [1,1,0,1,0,0,1,0,0,1,0] (by kernel_rfl) _).trans (by kernel_rfl)
theorem yN(x0:List Int)(x5:Int)(x6:Int):rH x0 x5 x6 =
 bif decide (x6<(↑x0.length:Int))then
 (ab x0 x6).bind λy=>(u7 y).bind λy=>yO x0 x5 x6 y.fst.fst
else some ((x5,()),()):=(aK LF [1,1,0,1,0] (by kernel_rfl) _).trans (by kernel_rfl)
theorem V2(a0:List Int)(a1:Int):pn a0 a1 =
 (u7 a1).bind λy=>rH a0 y.fst.fst 0:=(Eq.trans (by kernel_rfl:pn a0 a1=aw Fi (Tryz.f136.body.getD .skip) FD (aS 28 [(bb,Mode.ro),(ah,Mode.ro)] (a0,a1,()))) (all_eq LF _)).trans (by kernel_rfl)
def N1:Env:=Gz.env C Cj.1 Tryz.f124
def R8:=Gz.out C
def rA(x1:aa)(x3:Int):Option ((Bool×PUnit)×PUnit):=aG N1 [1,1,0,1,0] (Tryz.f124.body.getD .skip) R8 (V.dead::(V.box none 0 aM x1::V.dead::(V.d none 0 (Ty.int IntKind.i64) x3::dd 30 ([]))))
def mD(a0:aa):Option ((Bool×PUnit)×PUnit):=P1.al (a0,())
def aoA:List (Nat×List Nat):=[(1000004,[1,1,0,1,0])]
theorem ZI:okB aoA (Tryz.f124.body.getD .skip) []=true:=by kernel_rfl
theorem T7(x1:aa)(x3:Int):rA x1 x3 =
 bif decide (x3<(↑(List.length x1.fst):Int))then
 (ab x1.fst x3).bind λy =>
 (An y).bind λy =>
  bif !y.fst.fst then some ((false,()),())else rA x1 (IntKind.i64.wrap (x3+1))
else (pn x1.fst x1.snd.fst).bind λy=>some ((decide (y.fst.fst<=1),()),()):=(aK ZI [1,1,0,1,0] (by kernel_rfl) _).trans (by kernel_rfl)
theorem air(a0:aa):mD a0 =
 bif decide ((↑(List.length a0.fst):Int)>4)then some ((false,()),())
else (An a0.snd.fst).bind λy=>bif !y.fst.fst then some ((false,()),())else rA a0 0:=(Eq.trans (by kernel_rfl:mD a0=aw N1 (Tryz.f124.body.getD .skip) R8 (aS 34 [(aM,Mode.ro)] (a0,()))) (all_eq ZI _)).trans (by kernel_rfl)
def N2:Env:=GA.env C B0.1 Tryz.f94
def R9:=GA.out C
def rB(x1:Int×List aa)(x3:Int):Option ((Bool×PUnit)×PUnit):=aG N2 [1,0,1,0] (Tryz.f94.body.getD .skip) R9 (V.dead::(V.box none 0 aC x1::V.dead::(V.d none 0 (Ty.int IntKind.i64) x3::dd 35 ([]))))
def mE(a0:Int×List aa):Option ((Bool×PUnit)×PUnit):=P2.al (a0,())
def aoB:List (Nat×List Nat):=[(1000002,[1,0,1,0])]
theorem ZJ:okB aoB (Tryz.f94.body.getD .skip) []=true:=by kernel_rfl
theorem Ua(x1:Int×List aa)(x3:Int):rB x1 x3 =
 bif decide (x3<(↑(List.length x1.snd):Int))then
 (ab x1.snd x3).bind λy =>
 (mD y).bind λy =>
  bif !y.fst.fst then some ((false,()),())
  else
  (ab x1.snd x3).bind λy =>
   bif (↑(List.length y.fst):Int) != x1.fst then some ((false,()),())
   else rB x1 (IntKind.i64.wrap (x3+1))
else
 (gv x1.fst 0 4).bind λy =>
 bif y.fst.fst then some ((decide ((↑(List.length x1.snd):Int)<=16),()),())else some ((false,()),()):=(aK ZJ [1,0,1,0] (by kernel_rfl) _).trans (by kernel_rfl)
theorem ais(a0:Int×List aa):mE a0 =
 rB a0 0:=(Eq.trans (by kernel_rfl:mE a0=aw N2 (Tryz.f94.body.getD .skip) R9 (aS 39 [(aC,Mode.ro)] (a0,()))) (all_eq ZJ _)).trans (by kernel_rfl)
def N6:Env:=GG.env C B1.1 Tryz.f92
def Sd:=GG.out C
def rE(x1:ByteArray×Int×List Rw)(x3:Int):Option ((Bool×PUnit)×PUnit):=aG N6 [1,0,1,0] (Tryz.f92.body.getD .skip) Sd (V.dead::(V.box none 0 du x1::V.dead::(V.d none 0 (Ty.int IntKind.i64) x3::dd 51 ([]))))
def Ao(a0:ByteArray×Int×List Rw):Option ((Bool×PUnit)×PUnit):=P8.al (a0,())
def aoG:List (Nat×List Nat):=[(1000002,[1,0,1,0])]
theorem ZN:okB aoG (Tryz.f92.body.getD .skip) []=true:=by kernel_rfl
theorem Uh(x1:ByteArray×Int×List Rw)(x3:Int):rE x1 x3 =
 bif decide (x3<(↑(List.length x1.snd.snd):Int))then
 (ab x1.snd.snd x3).bind λy =>
 (rW y.fst 97 122).bind λy =>
  bif !y.fst.fst then some ((false,()),())
  else
  (ab x1.snd.snd x3).bind λy =>
   (mE y.snd).bind λy =>
   bif !y.fst.fst then some ((false,()),())
   else
    (ab x1.snd.snd x3).bind λy =>
    bif y.snd.fst != x1.snd.fst then some ((false,()),())else rE x1 (IntKind.i64.wrap (x3+1))
else
 (rW x1.fst 65 90).bind λy =>
 bif y.fst.fst then
  (gv x1.snd.fst 0 4).bind λy =>
  bif y.fst.fst then some ((decide ((↑(List.length x1.snd.snd):Int)<=8),()),())else some ((false,()),())
 else some ((false,()),()):=(aK ZN [1,0,1,0] (by kernel_rfl) _).trans (by kernel_rfl)
theorem aiz(a0:ByteArray×Int×List Rw):Ao a0 =
 rE a0 0:=(Eq.trans (by kernel_rfl:Ao a0=aw N6 (Tryz.f92.body.getD .skip) Sd (aS 55 [(du,Mode.ro)] (a0,()))) (all_eq ZN _)).trans (by kernel_rfl)
def N0:Env:=Gy.env C B5.1 Tryz.f56
def R7:=Gy.out C
def yF(x0:List Rel)(x1:ByteArray)(x5:Int):Option ((Int×PUnit)×PUnit):=aG N0 [1,0,1,0] (Tryz.f56.body.getD .skip) R7 (V.d none 0 aY x0::V.d none 0 cO x1::dd 3 (V.d none 0 (Ty.int IntKind.i64) x5::dd 14 ([])))
def n9(a0:List Rel)(a1:ByteArray):Option ((Int×PUnit)×PUnit):=PZ.al (a0,a1,())
def aoz:List (Nat×List Nat):=[(1000002,[1,0,1,0])]
theorem ZH:okB aoz (Tryz.f56.body.getD .skip) []=true:=by kernel_rfl
theorem T6(x0:List Rel)(x1:ByteArray)(x5:Int):yF x0 x1 x5 =
 bif decide (x5<(↑x0.length:Int))then
 (ab x0 x5).bind λy =>
 bif ByteArray.toList y.fst==x1.toList then some ((x5,()),())
 else yF x0 x1 (IntKind.i64.wrap (x5+1))
else some ((-1,()),()):=(aK ZH [1,0,1,0] (by kernel_rfl) _).trans (by kernel_rfl)
theorem aio(a0:List Rel)(a1:ByteArray):n9 a0 a1 =
 yF a0 a1 0:=(Eq.trans (by kernel_rfl:n9 a0 a1=aw N0 (Tryz.f56.body.getD .skip) R7 (aS 20 [(aY,Mode.ro),(cO,Mode.ro)] (a0,a1,()))) (all_eq ZH _)).trans (by kernel_rfl)
def N3:Env:=GB.env C BY.1 Tryz.f52
def Sa:=GB.out C
def rC(x0:List Rel)(x3:Int):Option ((Bool×PUnit)×PUnit):=aG N3 [1,0,1,0] (Tryz.f52.body.getD .skip) Sa (V.d none 0 aY x0::dd 2 (V.d none 0 (Ty.int IntKind.i64) x3::dd 27 ([])))
def uY(a0:List Rel):Option ((Bool×PUnit)×PUnit):=P3.al (a0,())
def aoC:List (Nat×List Nat):=[(1000002,[1,0,1,0])]
theorem ZK:okB aoC (Tryz.f52.body.getD .skip) []=true:=by kernel_rfl
theorem Ub(x0:List Rel)(x3:Int):rC x0 x3 =
 bif decide (x3<(↑x0.length:Int))then
 (ab x0 x3).bind λy =>
 (Ao y).bind λy =>
  bif !y.fst.fst then some ((false,()),())
  else
  bif decide (0<=0)&&decide (0<=x3)&&decide (x3<=(↑x0.length:Int))then
   (ab x0 x3).bind λy =>
   (n9 (List.drop (Int.toNat 0) (List.take x3.toNat x0)) y.fst).bind λy =>
    bif decide (y.fst.fst>=0)then some ((false,()),())else rC x0 (IntKind.i64.wrap (x3+1))
  else none
else some ((decide ((↑x0.length:Int)<=6),()),()):=(aK ZK [1,0,1,0] (by kernel_rfl) _).trans (by kernel_rfl)
theorem ait(a0:List Rel):uY a0 =
 rC a0 0:=(Eq.trans (by kernel_rfl:uY a0=aw N3 (Tryz.f52.body.getD .skip) Sa (aS 31 [(aY,Mode.ro)] (a0,()))) (all_eq ZK _)).trans (by kernel_rfl)
def H7(a0:aa):Option ((Bool×PUnit)×PUnit):=QF.al (a0,())
theorem aji(a0:aa):H7 a0 =
 bif (↑(List.length a0.fst):Int)==0 then
 bif a0.snd.fst==0 then some ((!a0.snd.snd,()),())else some ((false,()),())
else some ((false,()),()):=by kernel_rfl
def yc:Env:=G4.env C Ct.1 Tryz.f102
def ym:=G4.out C
def rK(x0:List Rel)(x3:Int×aa×ByteArray×ByteArray×List Int×Int×Int×Int)(x5:Int)(x6:Int):Option ((Bool×PUnit)×PUnit):=aG yc [1,1,1,0,1,0,1,1,1,0,1,0,1,0] (Tryz.f102.body.getD .skip) ym (V.d none 0 aY x0::dd 2 (V.box none 0 cY x3::V.dead::(V.d none 0 ah x5::V.d none 0 (Ty.int IntKind.i64) x6::dd 133 ([]))))
def fp(x0:List Rel)(x3:Int×aa×ByteArray×ByteArray×List Int×Int×Int×Int):Option ((Bool×PUnit)×PUnit):=hG yc [1,1,1] (Tryz.f102.body.getD .skip) ym (V.d none 0 aY x0::dd 2 (V.box none 0 cY x3::dd 136 ([])))
def re(x0:List Rel)(x3:Int×aa×ByteArray×ByteArray×List Int×Int×Int×Int):Option ((Bool×PUnit)×PUnit):=hG yc [1,1] (Tryz.f102.body.getD .skip) ym (V.d none 0 aY x0::dd 2 (V.box none 0 cY x3::dd 136 ([])))
def AJ(a0:List Rel)(a1:Int×aa×ByteArray×ByteArray×List Int×Int×Int×Int):Option ((Bool×PUnit)×PUnit):=QG.al (a0,a1,())
def ao3:List (Nat×List Nat):=[(2000003,[1,1]),(2000005,[1,1,1]),(1000011,[1,1,1,0,1,0,1,1,1,0,1,0,1,0])]
theorem D7:okB ao3 (Tryz.f102.body.getD .skip) []=true:=by kernel_rfl
theorem UL(x0:List Rel)(x3:Int×aa×ByteArray×ByteArray×List Int×Int×Int×Int)(x5:Int)(x6:Int):rK x0 x3 x5 x6 =
 bif decide (x6<(↑(List.length x3.snd.snd.snd.snd.fst):Int))then
 (ab x3.snd.snd.snd.snd.fst x6).bind λy =>
 (gv y 0 3).bind λy =>
  bif !y.fst.fst then some ((false,()),())else rK x0 x3 x5 (IntKind.i64.wrap (x6+1))
else
 bif decide (x5>=0)then
 (ab x0 x5).bind λy =>
  bif y.snd.fst==(↑(List.length x3.snd.snd.snd.snd.fst):Int)then
  bif ByteArray.toList x3.snd.snd.snd.fst==(ByteArray.mk #[]).toList then some ((true,()),())
  else (rW x3.snd.snd.snd.fst 97 122).bind λy=>some ((y.fst.fst,()),())
  else some ((false,()),())
 else some ((false,()),()):=(aK D7 [1,1,1,0,1,0,1,1,1,0,1,0,1,0] (by kernel_rfl) _).trans (by kernel_rfl)
theorem afL(x0:List Rel)(x3:Int×aa×ByteArray×ByteArray×List Int×Int×Int×Int):fp x0 x3 =
 bif x3.fst==0 then
 (mD x3.snd.fst).bind λy =>
 bif y.fst.fst then some (((↑(List.length x3.snd.fst.fst):Int)==4,()),())else some ((false,()),())
else
 bif x3.fst==1 then (n9 x0 x3.snd.snd.fst).bind λy=>rK x0 x3 y.fst.fst 0
 else
 (gv x3.fst 2 6).bind λy =>
  bif y.fst.fst then (gv x3.snd.snd.snd.snd.snd.fst 0 3).bind λy=>some ((y.fst.fst,()),())
  else some ((false,()),()):=(join_eq D7 [1,1,1] _).trans (by kernel_rfl)
theorem afJ(x0:List Rel)(x3:Int×aa×ByteArray×ByteArray×List Int×Int×Int×Int):re x0 x3 =
 bif x3.fst != 5 then
 bif x3.fst != 6 then
 bif x3.snd.snd.snd.snd.snd.fst != 0 then some ((false,()),())
 else
  bif x3.fst != 3 then
  bif x3.fst != 4 then
   bif x3.snd.snd.snd.snd.snd.snd.snd != 0 then some ((false,()),())
   else
   bif decide (x3.fst<=1)then
    bif x3.snd.snd.snd.snd.snd.snd.fst != 0 then some ((false,()),())else fp x0 x3
   else fp x0 x3
  else
   bif decide (x3.fst<=1)then
   bif x3.snd.snd.snd.snd.snd.snd.fst != 0 then some ((false,()),())else fp x0 x3
   else fp x0 x3
  else
  bif decide (x3.fst<=1)then
   bif x3.snd.snd.snd.snd.snd.snd.fst != 0 then some ((false,()),())else fp x0 x3
  else fp x0 x3
 else
 bif x3.fst != 3 then
  bif x3.fst != 4 then
  bif x3.snd.snd.snd.snd.snd.snd.snd != 0 then some ((false,()),())
  else
   bif decide (x3.fst<=1)then
   bif x3.snd.snd.snd.snd.snd.snd.fst != 0 then some ((false,()),())else fp x0 x3
   else fp x0 x3
  else
  bif decide (x3.fst<=1)then
   bif x3.snd.snd.snd.snd.snd.snd.fst != 0 then some ((false,()),())else fp x0 x3
  else fp x0 x3
 else
  bif decide (x3.fst<=1)then
  bif x3.snd.snd.snd.snd.snd.snd.fst != 0 then some ((false,()),())else fp x0 x3
  else fp x0 x3
else
 bif x3.fst != 3 then
 bif x3.fst != 4 then
  bif x3.snd.snd.snd.snd.snd.snd.snd != 0 then some ((false,()),())
  else
  bif decide (x3.fst<=1)then
   bif x3.snd.snd.snd.snd.snd.snd.fst != 0 then some ((false,()),())else fp x0 x3
  else fp x0 x3
 else
  bif decide (x3.fst<=1)then
  bif x3.snd.snd.snd.snd.snd.snd.fst != 0 then some ((false,()),())else fp x0 x3
  else fp x0 x3
 else
 bif decide (x3.fst<=1)then
  bif x3.snd.snd.snd.snd.snd.snd.fst != 0 then some ((false,()),())else fp x0 x3
 else fp x0 x3:=(join_eq D7 [1,1] _).trans (by kernel_rfl)
theorem ajk(a0:List Rel)(a1:Int×aa×ByteArray×ByteArray×List Int×Int×Int×Int):AJ a0 a1 =
 bif a1.fst != 0 then
 (H7 a1.snd.fst).bind λy =>
 bif !y.fst.fst then some ((false,()),())
 else
  bif a1.fst != 1 then
  bif !ByteArray.toList a1.snd.snd.fst==(ByteArray.mk #[]).toList then some ((false,()),())
  else
   bif !ByteArray.toList a1.snd.snd.snd.fst==(ByteArray.mk #[]).toList then some ((false,()),())
   else
   bif decide ((↑(List.length a1.snd.snd.snd.snd.fst):Int)>0)then some ((false,()),())else re a0 a1
  else re a0 a1
else
 bif a1.fst != 1 then
 bif !ByteArray.toList a1.snd.snd.fst==(ByteArray.mk #[]).toList then some ((false,()),())
 else
  bif !ByteArray.toList a1.snd.snd.snd.fst==(ByteArray.mk #[]).toList then some ((false,()),())
  else
  bif decide ((↑(List.length a1.snd.snd.snd.snd.fst):Int)>0)then some ((false,()),())else re a0 a1
 else re a0 a1:=(Eq.trans (by kernel_rfl:AJ a0 a1=aw yc (Tryz.f102.body.getD .skip) ym (aS 140 [(aY,Mode.ro),(cY,Mode.ro)] (a0,a1,()))) (all_eq D7 _)).trans (by kernel_rfl)
def ya:Env:=GD.env C Cu.1 Tryz.f67
def yk:=GD.out C
def nZ(x0:List Rel)(x1:List ao)(x5:List Int)(x6:Int)(x7:Int)(x8:Int):Option ((Bool×PUnit)×PUnit):=hG ya [1,1,1,0,1,0,0,1,0,0,1,1,1,1,1] (Tryz.f67.body.getD .skip) yk (V.d none 0 aY x0::V.d none 0 bJ x1::dd 3 (V.d none (ah.depth+1) (Ty.slice 3 ah) x5::V.d none 0 (Ty.int IntKind.i64) x6::V.d none 0 (Ty.int IntKind.i64) x7::V.d none 0 (Ty.int IntKind.i64) x8::dd 108 ([])))
def kz(x0:List Rel)(x1:List ao)(x5:List Int)(x6:Int)(x7:Int):Option ((Bool×PUnit)×PUnit):=hG ya [1,1,1,0,1,0,0,1,0,0,1,1,1] (Tryz.f67.body.getD .skip) yk (V.d none 0 aY x0::V.d none 0 bJ x1::dd 3 (V.d none (ah.depth+1) (Ty.slice 3 ah) x5::V.d none 0 (Ty.int IntKind.i64) x6::V.d none 0 (Ty.int IntKind.i64) x7::dd 109 ([])))
def rD(x0:List Rel)(x1:List ao)(x5:List Int)(x6:Int):Option ((Bool×PUnit)×PUnit):=aG ya [1,1,1,0,1,0] (Tryz.f67.body.getD .skip) yk (V.d none 0 aY x0::V.d none 0 bJ x1::dd 3 (V.d none (ah.depth+1) (Ty.slice 3 ah) x5::V.d none 0 (Ty.int IntKind.i64) x6::dd 110 ([])))
def Al(a0:List Rel)(a1:List ao):Option ((Bool×PUnit)×PUnit):=P5.al (a0,a1,())
def aoE:List (Nat×List Nat):=[(1000005,[1,1,1,0,1,0]),(2000014,[1,1,1,0,1,0,0,1,0,0,1,1,1]),(2000017,[1,1,1,0,1,0,0,1,0,0,1,1,1,1,1])]
theorem D5:okB aoE (Tryz.f67.body.getD .skip) []=true:=by kernel_rfl
theorem afI(x0:List Rel)(x1:List ao)(x5:List Int)(x6:Int)(x7:Int)(x8:Int):nZ x0 x1 x5 x6 x7 x8 =
 bif
 decide (0<=0)&&decide (0<=IntKind.i64.wrap (x8 - x7)) &&
  decide (IntKind.i64.wrap (x8 - x7)<=(↑x5.length:Int))then
 bif
  decide
  ((0+(List.drop (Int.toNat 0) (List.take (IntKind.i64.wrap (x8 - x7)).toNat x5)).length)*8 <=
   140737488355328)then
 bif
  decide
   (((List.drop (Int.toNat 0) (List.take (IntKind.i64.wrap (x8 - x7)).toNat x5)).length+1)*8 <=
   140737488355328)then
  rD x0 x1 (List.drop (Int.toNat 0) (List.take (IntKind.i64.wrap (x8 - x7)).toNat x5)++[x6])
  (IntKind.i64.wrap (x6+1))
 else none
 else none
else none:=(join_eq D5 [1,1,1,0,1,0,0,1,0,0,1,1,1,1,1] _).trans (by kernel_rfl)
theorem afG(x0:List Rel)(x1:List ao)(x5:List Int)(x6:Int)(x7:Int):kz x0 x1 x5 x6 x7 =
 bif decide ((↑x5.length:Int)<x7)then some ((false,()),())
else
 bif x7==1 then
 (ab x5 (IntKind.i64.wrap ((↑x5.length:Int) - 1))).bind λy =>
  (ab x5 (IntKind.i64.wrap ((↑x5.length:Int) - 1))).bind λy =>
  (ab x1 x6).bind λav =>
   bif y != av.snd.snd.snd.snd.snd.snd.fst then some ((false,()),())
   else
   bif x7==2 then
    (ab x5 (IntKind.i64.wrap ((↑x5.length:Int) - 1))).bind λy =>
    (ab x5 (IntKind.i64.wrap ((↑x5.length:Int) - 1))).bind λy =>
     (ab x1 x6).bind λa6 =>
     bif y != a6.snd.snd.snd.snd.snd.snd.snd then some ((false,()),())
     else
      (ab x5 (IntKind.i64.wrap ((↑x5.length:Int) - 2))).bind λy =>
      (ab x5 (IntKind.i64.wrap ((↑x5.length:Int) - 2))).bind λy =>
       (ab x1 x6).bind λbp =>
       bif y != bp.snd.snd.snd.snd.snd.snd.fst then some ((false,()),())
       else nZ x0 x1 x5 x6 x7 (↑x5.length:Int)
   else nZ x0 x1 x5 x6 x7 (↑x5.length:Int)
 else
 bif x7==2 then
  (ab x5 (IntKind.i64.wrap ((↑x5.length:Int) - 1))).bind λy =>
  (ab x5 (IntKind.i64.wrap ((↑x5.length:Int) - 1))).bind λy =>
   (ab x1 x6).bind λav =>
   bif y != av.snd.snd.snd.snd.snd.snd.snd then some ((false,()),())
   else
    (ab x5 (IntKind.i64.wrap ((↑x5.length:Int) - 2))).bind λy =>
    (ab x5 (IntKind.i64.wrap ((↑x5.length:Int) - 2))).bind λy =>
     (ab x1 x6).bind λa6 =>
     bif y != a6.snd.snd.snd.snd.snd.snd.fst then some ((false,()),())
     else nZ x0 x1 x5 x6 x7 (↑x5.length:Int)
 else nZ x0 x1 x5 x6 x7 (↑x5.length:Int):=(join_eq D5 [1,1,1,0,1,0,0,1,0,0,1,1,1] _).trans (by kernel_rfl)
theorem Ue(x0:List Rel)(x1:List ao)(x5:List Int)(x6:Int):rD x0 x1 x5 x6 =
 bif decide (x6<(↑x1.length:Int))then
 (ab x1 x6).bind λy =>
 (AJ x0 y).bind λy =>
  bif !y.fst.fst then some ((false,()),())
  else
  (ab x1 x6).bind λy =>
   bif y.fst==3 then kz x0 x1 x5 x6 2
   else
   (ab x1 x6).bind λy =>
    bif y.fst==4 then kz x0 x1 x5 x6 2
    else
    (ab x1 x6).bind λy =>
     bif decide (y.fst>1)then kz x0 x1 x5 x6 1 else kz x0 x1 x5 x6 0
else some (((↑x5.length:Int)==1,()),()):=(aK D5 [1,1,1,0,1,0] (by kernel_rfl) _).trans (by kernel_rfl)
theorem aiv(a0:List Rel)(a1:List ao):Al a0 a1 =
 (uY a0).bind λy =>
 bif !y.fst.fst then some ((false,()),())
 else
 (gv (↑a1.length:Int) 1 12).bind λy =>
  bif !y.fst.fst then some ((false,()),())else rD a0 a1 [] 0:=(Eq.trans (by kernel_rfl:Al a0 a1=aw ya (Tryz.f67.body.getD .skip) yk (aS 117 [(aY,Mode.ro),(bJ,Mode.ro)] (a0,a1,()))) (all_eq D5 _)).trans (by kernel_rfl)
def N5:Env:=GF.env C B3.1 Tryz.f30
def Sc:=GF.out C
def uB(x0:List Rel)(x1:List ao)(x5:Int):Option ((Bool×PUnit)×PUnit):=aG N5 [1,0,1,0] (Tryz.f30.body.getD .skip) Sc (V.d none 0 aY x0::V.d none 0 bJ x1::dd 3 (V.d none 0 (Ty.int IntKind.i64) x5::dd 23 ([])))
def u3(a0:List Rel)(a1:List ao):Option ((Bool×PUnit)×PUnit):=P7.al (a0,a1,())
def aoF:List (Nat×List Nat):=[(1000002,[1,0,1,0])]
theorem ZM:okB aoF (Tryz.f30.body.getD .skip) []=true:=by kernel_rfl
theorem Ug(x0:List Rel)(x1:List ao)(x5:Int):uB x0 x1 x5 =
 bif decide (x5<(↑x1.length:Int))then
 (ab x1 x5).bind λy =>
 bif y.fst==2 then some ((false,()),())
 else
  (ab x1 x5).bind λy =>
  bif y.fst==6 then some ((false,()),())else uB x0 x1 (IntKind.i64.wrap (x5+1))
else (Al x0 x1).bind λy=>some ((y.fst.fst,()),()):=(aK ZM [1,0,1,0] (by kernel_rfl) _).trans (by kernel_rfl)
theorem aiy(a0:List Rel)(a1:List ao):u3 a0 a1 =
 uB a0 a1 0:=(Eq.trans (by kernel_rfl:u3 a0 a1=aw N5 (Tryz.f30.body.getD .skip) Sc (aS 29 [(aY,Mode.ro),(bJ,Mode.ro)] (a0,a1,()))) (all_eq ZM _)).trans (by kernel_rfl)
def Oe:Env:=GS.env C Cc.1 Tryz.f105
def Sl:=GS.out C
def yM(x1:aa)(x3:Int):Option ((Bool×PUnit)×PUnit):=aG Oe [1,0,1,0] (Tryz.f105.body.getD .skip) Sl (V.dead::(V.box none 0 aM x1::V.dead::(V.d none 0 (Ty.int IntKind.i64) x3::dd 13 ([]))))
def u9(a0:aa):Option ((Bool×PUnit)×PUnit):=Qo.al (a0,())
def aoS:List (Nat×List Nat):=[(1000002,[1,0,1,0])]
theorem ZV:okB aoS (Tryz.f105.body.getD .skip) []=true:=by kernel_rfl
theorem Uu(x1:aa)(x3:Int):yM x1 x3 =
 bif decide (x3<(↑(List.length x1.fst):Int))then
 (ab x1.fst x3).bind λy =>
 bif y != 0 then some ((false,()),())else yM x1 (IntKind.i64.wrap (x3+1))
else some ((true,()),()):=(aK ZV [1,0,1,0] (by kernel_rfl) _).trans (by kernel_rfl)
theorem aiV(a0:aa):u9 a0 =
 yM a0 0:=(Eq.trans (by kernel_rfl:u9 a0=aw Oe (Tryz.f105.body.getD .skip) Sl (aS 17 [(aM,Mode.ro)] (a0,()))) (all_eq ZV _)).trans (by kernel_rfl)
def V4(a0:aa):Option ((Bool×PUnit)×PUnit):=Qs.al (a0,())
theorem ai0(a0:aa):V4 a0 =
 bif decide (a0.snd.fst<0)then some ((true,()),())
else bif a0.snd.fst==0 then some ((!a0.snd.snd,()),())else some ((false,()),()):=by kernel_rfl
def AD(a0:Int):Option ((az×PUnit)×PUnit):=Qz.al (a0,())
theorem ai8(a0:Int):AD a0 =
 bif
 decide (0<=a0)&&decide (a0<=a0)&&decide (a0*(↑8:Int)<=140737488355328) &&
  decide (a0<=9223372036854775807)then
 some (((a0,[(List.replicate a0.toNat (0:Int),1,false)]),()),())
else none:=by kernel_rfl
def va(a0:aa):Option ((aa×PUnit)×PUnit):=Qv.al (a0,())
theorem ai3(a0:aa):va a0 =
 bif decide ((0+List.length a0.fst)*8<=140737488355328)then some (((a0.fst,a0.snd.fst,a0.snd.snd),()),())
else none:=by kernel_rfl
def rU(a0:aa):Option ((Int×PUnit)×PUnit):=Qq.al (a0,())
theorem aiX(a0:aa):rU a0 =
 (pn a0.fst 0).bind λy=>some ((y.fst.fst,()),()):=by kernel_rfl
def Of:Env:=GV.env C Ck.1 Tryz.f153
def Sm:=GV.out C
def yP(x2:aa)(x3:aa)(x5:Int)(x6:Int)(x7:Int):Option ((Int×PUnit)×PUnit):=aG Of [1,1,1,0,1,0] (Tryz.f153.body.getD .skip) Sm (dd 2 (V.box none 0 aM x2::V.box none 0 aM x3::V.dead::(V.d none 0 (Ty.int IntKind.i64) x5::V.d none 0 (Ty.int IntKind.i64) x6::V.d none 0 (Ty.int IntKind.i64) x7::dd 42 ([]))))
def rV(a0:aa)(a1:aa):Option ((Int×PUnit)×PUnit):=Qu.al (a0,a1,())
def aoU:List (Nat×List Nat):=[(1000004,[1,1,1,0,1,0])]
theorem ZW:okB aoU (Tryz.f153.body.getD .skip) []=true:=by kernel_rfl
theorem Ux(x2:aa)(x3:aa)(x5:Int)(x6:Int)(x7:Int):yP x2 x3 x5 x6 x7 =
 bif decide (x7<(↑(List.length x2.fst):Int))then
 bif decide (x7<(↑(List.length x3.fst):Int))then
 (ab x2.fst x7).bind λy =>
  bif x5 != 0 then
  (ab x3.fst x7).bind λav =>
   bif x6 != 0 then
   bif IntKind.i64.wrap (y.tdiv x5) != IntKind.i64.wrap (av.tdiv x6)then
    bif decide (IntKind.i64.wrap (y.tdiv x5)<IntKind.i64.wrap (av.tdiv x6))then some ((-1,()),())
    else some ((1,()),())
   else yP x2 x3 x5 x6 (IntKind.i64.wrap (x7+1))
   else none
  else none
 else some ((0,()),())
else some ((0,()),()):=(aK ZW [1,1,1,0,1,0] (by kernel_rfl) _).trans (by kernel_rfl)
theorem ai1(a0:aa)(a1:aa):rV a0 a1 =
 (rU a0).bind λy =>
 (rU a1).bind λav =>
 yP a0 a1 (bif true then if 1<y.fst.fst then y.fst.fst else 1 else if y.fst.fst<1 then y.fst.fst else 1)
  (bif true then if 1<av.fst.fst then av.fst.fst else 1 else if av.fst.fst<1 then av.fst.fst else 1) 0:=(Eq.trans (by kernel_rfl:rV a0 a1=aw Of (Tryz.f153.body.getD .skip) Sm (aS 50 [(aM,Mode.ro),(aM,Mode.ro)] (a0,a1,()))) (all_eq ZW _)).trans (by kernel_rfl)
def AA(a0:aa)(a1:aa):Option ((Bool×PUnit)×PUnit):=Qr.al (a0,a1,())
theorem aiY(a0:aa)(a1:aa):AA a0 a1 =
 (rU a1).bind λy =>
 (rU a0).bind λav =>
 bif
  decide
   (IntKind.i64.wrap
    (a0.snd.fst*bif true then if 1<y.fst.fst then y.fst.fst else 1 else if y.fst.fst<1 then y.fst.fst else 1) >
   IntKind.i64.wrap
    (a1.snd.fst *
    bif true then if 1<av.fst.fst then av.fst.fst else 1 else if av.fst.fst<1 then av.fst.fst else 1))then
  some ((true,()),())
 else
  bif
   IntKind.i64.wrap
    (a0.snd.fst *
    bif true then if 1<y.fst.fst then y.fst.fst else 1 else if y.fst.fst<1 then y.fst.fst else 1) ==
   IntKind.i64.wrap
    (a1.snd.fst *
    bif true then if 1<av.fst.fst then av.fst.fst else 1 else if av.fst.fst<1 then av.fst.fst else 1)then
  bif a0.snd.snd then some ((true,()),())else some ((!a1.snd.snd,()),())
  else some ((false,()),()):=by kernel_rfl
def Oj:Env:=G0.env C Cl.1 Tryz.f135
def Sr:=G0.out C
def yS(x0:List aa)(x3:aa)(x5:Int):Option ((List aa×PUnit)×PUnit):=aG Oj [1,1,0,0] (Tryz.f135.body.getD .skip) Sr (V.d none 0 di x0::dd 2 (V.box none 0 aM x3::V.dead::(V.d none 0 (Ty.int IntKind.i64) x5::dd 56 ([]))))
def AF(a0:List aa)(a1:aa):Option ((List aa×PUnit)×PUnit):=QB.al (a0,a1,())
def aoZ:List (Nat×List Nat):=[(1000002,[1,1,0,0])]
theorem Z0:okB aoZ (Tryz.f135.body.getD .skip) []=true:=by kernel_rfl
theorem UG(x0:List aa)(x3:aa)(x5:Int):yS x0 x3 x5 =
 bif decide (x5<(↑x0.length:Int))then
 (ab x0 x5).bind λy =>
 (rV y x3).bind λy =>
  bif decide (y.fst.fst<0)then yS x0 x3 (IntKind.i64.wrap (x5+1))
  else
  bif decide (x5<(↑x0.length:Int))then
   (ab x0 x5).bind λy =>
   (rV y x3).bind λy =>
    bif y.fst.fst==0 then
    (ab x0 x5).bind λy =>
     (AA y x3).bind λy =>
     bif y.fst.fst then some ((x0,()),())
     else
      bif decide ((0+x0.length)*40<=140737488355328)then
      (ab x0 x5).bind λy =>
       (ab x0 x5).bind λy =>
       (ab x0 x5).bind λy=>(some (x0.set x5.toNat x3)).bind λy=>some ((y,()),())
      else none
    else
    bif decide (0<=0)&&decide (0<=x5)&&decide (x5<=(↑x0.length:Int))then
     bif decide ((0+(List.drop (Int.toNat 0) (List.take x5.toNat x0)).length)*40<=140737488355328)then
     bif decide (((List.drop (Int.toNat 0) (List.take x5.toNat x0)).length+1)*40<=140737488355328)then
      bif
       decide (0<=x5)&&decide (x5<=(↑x0.length:Int)) &&
       decide ((↑x0.length:Int)<=(↑x0.length:Int))then
      bif
       decide
        (((List.drop (Int.toNat 0) (List.take x5.toNat x0)++[x3]).length +
         (List.drop x5.toNat (List.take x0.length x0)).length) *
         40 <=
        140737488355328)then
       some
       ((List.drop (Int.toNat 0) (List.take x5.toNat x0)++[x3]++List.drop x5.toNat (List.take x0.length x0),
        ()),
        ())
      else none
      else none
     else none
     else none
    else none
  else
   bif decide (0<=0)&&decide (0<=x5)&&decide (x5<=(↑x0.length:Int))then
   bif decide ((0+(List.drop (Int.toNat 0) (List.take x5.toNat x0)).length)*40<=140737488355328)then
    bif decide (((List.drop (Int.toNat 0) (List.take x5.toNat x0)).length+1)*40<=140737488355328)then
    bif decide (0<=x5)&&decide (x5<=(↑x0.length:Int))&&decide ((↑x0.length:Int)<=(↑x0.length:Int))then
     bif
      decide
      (((List.drop (Int.toNat 0) (List.take x5.toNat x0)++[x3]).length +
        (List.drop x5.toNat (List.take x0.length x0)).length) *
       40 <=
       140737488355328)then
     some
      ((List.drop (Int.toNat 0) (List.take x5.toNat x0)++[x3]++List.drop x5.toNat (List.take x0.length x0),
       ()),
      ())
     else none
    else none
    else none
   else none
   else none
else
 bif decide (x5<(↑x0.length:Int))then
 (ab x0 x5).bind λy =>
  (rV y x3).bind λy =>
  bif y.fst.fst==0 then
   (ab x0 x5).bind λy =>
   (AA y x3).bind λy =>
    bif y.fst.fst then some ((x0,()),())
    else
    bif decide ((0+x0.length)*40<=140737488355328)then
     (ab x0 x5).bind λy =>
     (ab x0 x5).bind λy =>
      (ab x0 x5).bind λy=>(some (x0.set x5.toNat x3)).bind λy=>some ((y,()),())
    else none
  else
   bif decide (0<=0)&&decide (0<=x5)&&decide (x5<=(↑x0.length:Int))then
   bif decide ((0+(List.drop (Int.toNat 0) (List.take x5.toNat x0)).length)*40<=140737488355328)then
    bif decide (((List.drop (Int.toNat 0) (List.take x5.toNat x0)).length+1)*40<=140737488355328)then
    bif decide (0<=x5)&&decide (x5<=(↑x0.length:Int))&&decide ((↑x0.length:Int)<=(↑x0.length:Int))then
     bif
      decide
      (((List.drop (Int.toNat 0) (List.take x5.toNat x0)++[x3]).length +
        (List.drop x5.toNat (List.take x0.length x0)).length) *
       40 <=
       140737488355328)then
     some
      ((List.drop (Int.toNat 0) (List.take x5.toNat x0)++[x3]++List.drop x5.toNat (List.take x0.length x0),
       ()),
      ())
     else none
    else none
    else none
   else none
   else none
 else
 bif decide (0<=0)&&decide (0<=x5)&&decide (x5<=(↑x0.length:Int))then
  bif decide ((0+(List.drop (Int.toNat 0) (List.take x5.toNat x0)).length)*40<=140737488355328)then
  bif decide (((List.drop (Int.toNat 0) (List.take x5.toNat x0)).length+1)*40<=140737488355328)then
   bif decide (0<=x5)&&decide (x5<=(↑x0.length:Int))&&decide ((↑x0.length:Int)<=(↑x0.length:Int))then
   bif
    decide
     (((List.drop (Int.toNat 0) (List.take x5.toNat x0)++[x3]).length +
      (List.drop x5.toNat (List.take x0.length x0)).length) *
      40 <=
     140737488355328)then
    some
    ((List.drop (Int.toNat 0) (List.take x5.toNat x0)++[x3]++List.drop x5.toNat (List.take x0.length x0),()),
     ())
   else none
   else none
  else none
  else none
 else none:=(aK Z0 [1,1,0,0] (by kernel_rfl) _).trans (by kernel_rfl)
theorem aja(a0:List aa)(a1:aa):AF a0 a1 =
 yS a0 a1 0:=(Eq.trans (by kernel_rfl:AF a0 a1=aw Oj (Tryz.f135.body.getD .skip) Sr (aS 62 [(di,Mode.ro),(aM,Mode.ro)] (a0,a1,()))) (all_eq Z0 _)).trans (by kernel_rfl)
def Oi:Env:=GZ.env C Cq.1 Tryz.f104
def Sq:=GZ.out C
def uL(x0:Int)(x1:List aa)(x4:Int×List aa)(x5:Int×List aa)(x6:Int):Option ((az×PUnit)×PUnit):=aG Oi [1,1,0,1,0] (Tryz.f104.body.getD .skip) Sq (V.d none 0 ah x0::V.d none 0 di x1::dd 2 (V.box none 0 aC x4::V.box none 0 aC x5::V.d none 0 (Ty.int IntKind.i64) x6::dd 31 ([])))
def pq(a0:Int)(a1:List aa):Option ((az×PUnit)×PUnit):=QA.al (a0,a1,())
def aoY:List (Nat×List Nat):=[(1000003,[1,1,0,1,0])]
theorem ZZ:okB aoY (Tryz.f104.body.getD .skip) []=true:=by kernel_rfl
theorem UF(x0:Int)(x1:List aa)(x4:Int×List aa)(x5:Int×List aa)(x6:Int):uL x0 x1 x4 x5 x6 =
 bif decide (x6<(↑x1.length:Int))then
 (ab x1 x6).bind λy =>
 (u9 y).bind λy =>
  bif y.fst.fst then
  (ab x1 x6).bind λy =>
   (V4 y).bind λy =>
   bif !y.fst.fst then (AD x0).bind λy=>some ((y.fst.fst,()),())
   else uL x0 x1 x4 x5 (IntKind.i64.wrap (x6+1))
  else
  (ab x1 x6).bind λy =>
   (va y).bind λy =>
   (AF x5.snd y.fst.fst).bind λy=>uL x0 x1 x4 (x5.fst,y.fst.fst) (IntKind.i64.wrap (x6+1))
else some ((x5,()),()):=(aK ZZ [1,1,0,1,0] (by kernel_rfl) _).trans (by kernel_rfl)
theorem ai9(a0:Int)(a1:List aa):pq a0 a1 =
 uL a0 a1 (0,[]) (a0,[]) 0:=(Eq.trans (by kernel_rfl:pq a0 a1=aw Oi (Tryz.f104.body.getD .skip) Sq (aS 38 [(ah,Mode.ro),(di,Mode.ro)] (a0,a1,()))) (all_eq ZZ _)).trans (by kernel_rfl)
def Od:Env:=GR.env C Cp.1 Tryz.f106
def Sk:=GR.out C
def uI(x0:List Int)(x6:aa)(x8:Int)(x9:aa)(aF:Int):Option ((aa×Bool×PUnit)×PUnit):=aG Od [1,1,1,0,1,0] (Tryz.f106.body.getD .skip) Sk (V.d none 0 bb x0::dd 5 (V.box none aM.depth aM x6::V.dead::(V.d none 0 (Ty.int IntKind.i64) x8::V.box none aM.depth aM x9::V.d none 0 (Ty.int IntKind.i64) aF::dd 31 ([]))))
def mF(a0:List Int)(a1:Int)(a2:Bool):Option ((aa×Bool×PUnit)×PUnit):=Qn.al (a0,a1,a2,())
def aoR:List (Nat×List Nat):=[(1000004,[1,1,1,0,1,0])]
theorem ZU:okB aoR (Tryz.f106.body.getD .skip) []=true:=by kernel_rfl
theorem Ut(x0:List Int)(x6:aa)(x8:Int)(x9:aa)(aF:Int):uI x0 x6 x8 x9 aF =
 bif decide (aF<(↑x0.length:Int))then
 (ab x0 aF).bind λy =>
 bif x8 != 0 then
  bif decide ((List.length x9.fst+1)*8<=140737488355328)then
  uI x0 x6 x8 (x9.fst++[IntKind.i64.wrap (y.tdiv x8)],x9.snd) (IntKind.i64.wrap (aF+1))
  else none
 else none
else
 (mD x9).bind λy=>bif !y.fst.fst then some ((([],0,false),false,()),())else some ((x9,true,()),()):=(aK ZU [1,1,1,0,1,0] (by kernel_rfl) _).trans (by kernel_rfl)
theorem aiU(a0:List Int)(a1:Int)(a2:Bool):mF a0 a1 a2 =
 (pn a0 a1).bind λy =>
 bif (bif true then if 1<y.fst.fst then y.fst.fst else 1 else if y.fst.fst<1 then y.fst.fst else 1) != 0 then
 uI a0 ([],0,false)
  (bif true then if 1<y.fst.fst then y.fst.fst else 1 else if y.fst.fst<1 then y.fst.fst else 1)
  ([],
  IntKind.i64.wrap
   (a1.tdiv (bif true then if 1<y.fst.fst then y.fst.fst else 1 else if y.fst.fst<1 then y.fst.fst else 1)),
  a2)
  0
 else none:=(Eq.trans (by kernel_rfl:mF a0 a1 a2=aw Od (Tryz.f106.body.getD .skip) Sk (aS 42 [(bb,Mode.ro),(ah,Mode.ro),(aQ,Mode.ro)] (a0,a1,a2,()))) (all_eq ZU _)).trans (by kernel_rfl)
def N7:Env:=GI.env C Ci.1 Tryz.f107
def Se:=GI.out C
def uD(x1:Int)(x3:Int)(x4:aa)(x6:aa)(x8:aa)(aF:List Int)(bc:Int):Option ((aa×Bool×PUnit)×PUnit):=aG N7 [1,1,1,0,1,0] (Tryz.f107.body.getD .skip) Se (V.dead::(V.d none 0 ah x1::V.dead::(V.d none 0 ah x3::V.box none 0 aM x4::V.dead::(V.box none 0 aM x6::V.dead::(V.box none aM.depth aM x8::V.dead::(V.d none (ah.depth+1) (Ty.slice 3 ah) aF::V.d none 0 (Ty.int IntKind.i64) bc::dd 86 ([])))))))
def Ar(a0:aa)(a1:Int)(a2:aa)(a3:Int):Option ((aa×Bool×PUnit)×PUnit):=Qb.al (a0,a1,a2,a3,())
def aoI:List (Nat×List Nat):=[(1000005,[1,1,1,0,1,0])]
theorem ZO:okB aoI (Tryz.f107.body.getD .skip) []=true:=by kernel_rfl
theorem Uk(x1:Int)(x3:Int)(x4:aa)(x6:aa)(x8:aa)(aF:List Int)(bc:Int):uD x1 x3 x4 x6 x8 aF bc =
 bif decide (bc<(↑(List.length x4.fst):Int))then
 (ab x4.fst bc).bind λy =>
 (ab x6.fst bc).bind λav =>
  bif decide ((aF.length+1)*8<=140737488355328)then
  uD x1 x3 x4 x6 x8 (aF++[IntKind.i64.wrap (IntKind.i64.wrap (x1*y)+IntKind.i64.wrap (x3*av))])
   (IntKind.i64.wrap (bc+1))
  else none
else
 bif x4.snd.snd then
 bif decide (x1>0)then
  (mF aF (IntKind.i64.wrap (IntKind.i64.wrap (x1*x4.snd.fst)+IntKind.i64.wrap (x3*x6.snd.fst)))
   true).bind
  λy=>some ((y.fst.fst,y.fst.snd.fst,()),())
 else
  bif x6.snd.snd then
  (mF aF (IntKind.i64.wrap (IntKind.i64.wrap (x1*x4.snd.fst)+IntKind.i64.wrap (x3*x6.snd.fst)))
    (decide (x3>0))).bind
   λy=>some ((y.fst.fst,y.fst.snd.fst,()),())
  else
  (mF aF (IntKind.i64.wrap (IntKind.i64.wrap (x1*x4.snd.fst)+IntKind.i64.wrap (x3*x6.snd.fst)))
    false).bind
   λy=>some ((y.fst.fst,y.fst.snd.fst,()),())
 else
 bif x6.snd.snd then
  (mF aF (IntKind.i64.wrap (IntKind.i64.wrap (x1*x4.snd.fst)+IntKind.i64.wrap (x3*x6.snd.fst)))
   (decide (x3>0))).bind
  λy=>some ((y.fst.fst,y.fst.snd.fst,()),())
 else
  (mF aF (IntKind.i64.wrap (IntKind.i64.wrap (x1*x4.snd.fst)+IntKind.i64.wrap (x3*x6.snd.fst)))
   false).bind
  λy=>some ((y.fst.fst,y.fst.snd.fst,()),()):=(aK ZO [1,1,1,0,1,0] (by kernel_rfl) _).trans (by kernel_rfl)
theorem aiE(a0:aa)(a1:Int)(a2:aa)(a3:Int):Ar a0 a1 a2 a3 =
 (mD a0).bind λy =>
 bif !y.fst.fst then some ((([],0,false),false,()),())
 else
 (mD a2).bind λy =>
  bif !y.fst.fst then some ((([],0,false),false,()),())
  else
  bif (↑(List.length a0.fst):Int) != (↑(List.length a2.fst):Int)then some ((([],0,false),false,()),())
  else
   (gv a1 0 400000000).bind λy =>
   bif !y.fst.fst then some ((([],0,false),false,()),())
   else
    (gv a3 0 400000000).bind λy =>
    bif !y.fst.fst then some ((([],0,false),false,()),())else uD a1 a3 a0 a2 ([],0,false) [] 0:=(Eq.trans (by kernel_rfl:Ar a0 a1 a2 a3=aw N7 (Tryz.f107.body.getD .skip) Se (aS 98 [(aM,Mode.ro),(ah,Mode.ro),(aM,Mode.ro),(ah,Mode.ro)] (a0,a1,a2,a3,()))) (all_eq ZO _)).trans (by kernel_rfl)
def yb:Env:=GX.env C B7.1 Tryz.f72
def yl:=GX.out C
def rI(x1:Int)(x2:Int×List aa)(x4:Int×List aa)(x6:List aa)(x8:Int)(x9:Int):Option ((az×Bool×PUnit)×PUnit):=aG yb [1,1,1,0,1,0,0,1,0,0,1,0] (Tryz.f72.body.getD .skip) yl (V.dead::(V.d none 0 ah x1::V.box none 0 aC x2::V.dead::(V.box none aC.depth aC x4::V.dead::(V.d none 1 (Ty.slice 66 aM) x6::V.dead::(V.d none 0 (Ty.int IntKind.i64) x8::V.d none 0 (Ty.int IntKind.i64) x9::dd 103 ([]))))))
def rJ(x1:Int)(x2:Int×List aa)(x4:Int×List aa)(x6:List aa)(x8:Int):Option ((az×Bool×PUnit)×PUnit):=aG yb [1,1,1,0,1,0] (Tryz.f72.body.getD .skip) yl (V.dead::(V.d none 0 ah x1::V.box none 0 aC x2::V.dead::(V.box none aC.depth aC x4::V.dead::(V.d none 1 (Ty.slice 66 aM) x6::V.dead::(V.d none 0 (Ty.int IntKind.i64) x8::dd 104 ([]))))))
def uJ(x1:Int)(x2:Int×List aa)(x4:Int×List aa)(x6:List aa)(x7:Int):Option ((az×Bool×PUnit)×PUnit):=aG yb [1,1,0,1,0] (Tryz.f72.body.getD .skip) yl (V.dead::(V.d none 0 ah x1::V.box none 0 aC x2::V.dead::(V.box none aC.depth aC x4::V.dead::(V.d none 1 (Ty.slice 66 aM) x6::V.d none 0 (Ty.int IntKind.i64) x7::dd 105 ([])))))
def vb(a0:Int×List aa)(a1:Int):Option ((az×Bool×PUnit)×PUnit):=Qx.al (a0,a1,())
def aoW:List (Nat×List Nat):=[(1000003,[1,1,0,1,0]),(1000008,[1,1,1,0,1,0]),(1000011,[1,1,1,0,1,0,0,1,0,0,1,0])]
theorem D6:okB aoW (Tryz.f72.body.getD .skip) []=true:=by kernel_rfl
theorem UA(x1:Int)(x2:Int×List aa)(x4:Int×List aa)(x6:List aa)(x8:Int)(x9:Int):rI x1 x2 x4 x6 x8 x9 =
 bif decide (x9<(↑(List.length x2.snd):Int))then
 (ab x2.snd x8).bind λy =>
 (ab y.fst x1).bind λy =>
  (ab x2.snd x9).bind λav =>
  (ab av.fst x1).bind λa6 =>
   bif decide (y<=0)then rI x1 x2 x4 x6 x8 (IntKind.i64.wrap (x9+1))
   else
   bif decide (a6>=0)then rI x1 x2 x4 x6 x8 (IntKind.i64.wrap (x9+1))
   else
    (ab x2.snd x8).bind λbp =>
    (ab x2.snd x9).bind λcJ =>
     (Ar bp (IntKind.i64.wrap (0 - a6)) cJ y).bind λy =>
     bif !y.fst.snd.fst then some (((0,[]),false,()),())
     else
      bif decide ((x6.length+1)*40<=140737488355328)then
      rI x1 x2 x4 (x6++[y.fst.fst]) x8 (IntKind.i64.wrap (x9+1))
      else none
else rJ x1 x2 x4 x6 (IntKind.i64.wrap (x8+1)):=(aK D6 [1,1,1,0,1,0,0,1,0,0,1,0] (by kernel_rfl) _).trans (by kernel_rfl)
theorem UD(x1:Int)(x2:Int×List aa)(x4:Int×List aa)(x6:List aa)(x8:Int):rJ x1 x2 x4 x6 x8 =
 bif decide (x8<(↑(List.length x2.snd):Int))then rI x1 x2 x4 x6 x8 0
else
 (pq x2.fst x6).bind λy =>
 bif decide ((↑(List.length y.fst.fst.snd):Int)>16)then some (((0,[]),false,()),())
 else some ((y.fst.fst,true,()),()):=(aK D6 [1,1,1,0,1,0] (by kernel_rfl) _).trans (by kernel_rfl)
theorem UC(x1:Int)(x2:Int×List aa)(x4:Int×List aa)(x6:List aa)(x7:Int):uJ x1 x2 x4 x6 x7 =
 bif decide (x7<(↑(List.length x2.snd):Int))then
 (ab x2.snd x7).bind λy =>
 (ab y.fst x1).bind λy =>
  bif y==0 then
  (ab x2.snd x7).bind λy =>
   bif decide ((x6.length+1)*40<=140737488355328)then
   uJ x1 x2 x4 (x6++[y]) (IntKind.i64.wrap (x7+1))
   else none
  else uJ x1 x2 x4 x6 (IntKind.i64.wrap (x7+1))
else rJ x1 x2 x4 x6 0:=(aK D6 [1,1,0,1,0] (by kernel_rfl) _).trans (by kernel_rfl)
theorem ai5(a0:Int×List aa)(a1:Int):vb a0 a1 =
 uJ a1 a0 (0,[]) [] 0:=(Eq.trans (by kernel_rfl:vb a0 a1=aw yb (Tryz.f72.body.getD .skip) yl (aS 113 [(aC,Mode.ro),(ah,Mode.ro)] (a0,a1,()))) (all_eq D6 _)).trans (by kernel_rfl)
def N4:Env:=GC.env C Co.1 Tryz.f131
def Sb:=GC.out C
def yG(x4:Int×List aa)(x5:Int):Option ((Bool×Bool×PUnit)×PUnit):=aG N4 [1,1,1,0,1,0] (Tryz.f131.body.getD .skip) Sb (dd 4 (V.box none 0 aC x4::V.d none 0 (Ty.int IntKind.i64) x5::dd 30 ([])))
def uZ(a0:Int×List aa):Option ((Bool×Bool×PUnit)×PUnit):=P4.al (a0,())
def aoD:List (Nat×List Nat):=[(1000005,[1,1,1,0,1,0])]
theorem ZL:okB aoD (Tryz.f131.body.getD .skip) []=true:=by kernel_rfl
theorem Uc(x4:Int×List aa)(x5:Int):yG x4 x5 =
 bif decide (x5>=0)then
 (vb x4 x5).bind λy =>
 bif !y.fst.snd.fst then some ((false,false,()),())else yG y.fst.fst (IntKind.i64.wrap (x5 - 1))
else some ((decide ((↑(List.length x4.snd):Int)>0),true,()),()):=(aK ZL [1,1,1,0,1,0] (by kernel_rfl) _).trans (by kernel_rfl)
theorem aiu(a0:Int×List aa):uZ a0 =
 (mE a0).bind λy =>
 bif !y.fst.fst then some ((false,false,()),())
 else (pq a0.fst a0.snd).bind λy=>yG y.fst.fst (IntKind.i64.wrap (a0.fst - 1)):=(Eq.trans (by kernel_rfl:uZ a0=aw N4 (Tryz.f131.body.getD .skip) Sb (aS 36 [(aC,Mode.ro)] (a0,()))) (all_eq ZL _)).trans (by kernel_rfl)
def Og:Env:=GW.env C Cm.1 Tryz.f73
def Sn:=GW.out C
def yQ(x1:Int×List aa)(x2:Int×List aa)(x3:Int×List aa)(x4:Int):Option ((az×PUnit)×PUnit):=aG Og [1,1,0,1,0] (Tryz.f73.body.getD .skip) Sn (V.dead::(V.box none 0 aC x1::V.box none aC.depth aC x2::V.box none aC.depth aC x3::V.d none 0 (Ty.int IntKind.i64) x4::dd 22 ([])))
def po(a0:Int×List aa):Option ((az×PUnit)×PUnit):=Qw.al (a0,())
def aoV:List (Nat×List Nat):=[(1000003,[1,1,0,1,0])]
theorem ZX:okB aoV (Tryz.f73.body.getD .skip) []=true:=by kernel_rfl
theorem Uz(x1:Int×List aa)(x2:Int×List aa)(x3:Int×List aa)(x4:Int):yQ x1 x2 x3 x4 =
 bif decide (x4<(↑(List.length x1.snd):Int))then
 (ab x1.snd x4).bind λy =>
 (va y).bind λy =>
  bif decide ((List.length x3.snd+1)*40<=140737488355328)then
  yQ x1 x2 (x3.fst,x3.snd++[y.fst.fst]) (IntKind.i64.wrap (x4+1))
  else none
else some ((x3,()),()):=(aK ZX [1,1,0,1,0] (by kernel_rfl) _).trans (by kernel_rfl)
theorem ai4(a0:Int×List aa):po a0 =
 yQ a0 (0,[]) (a0.fst,[]) 0:=(Eq.trans (by kernel_rfl:po a0=aw Og (Tryz.f73.body.getD .skip) Sn (aS 27 [(aC,Mode.ro)] (a0,()))) (all_eq ZX _)).trans (by kernel_rfl)
def N8:Env:=GJ.env C B2.1 Tryz.f152
def Sf:=GJ.out C
def yH(x1:aa)(x2:aa)(x4:aa)(x5:Int):Option ((aa×Bool×PUnit)×PUnit):=aG N8 [1,1,1,0,1,0] (Tryz.f152.body.getD .skip) Sf (V.dead::(V.box none 0 aM x1::V.box none aM.depth aM x2::V.dead::(V.box none aM.depth aM x4::V.d none 0 (Ty.int IntKind.i64) x5::dd 30 ([]))))
def As(a0:aa):Option ((aa×Bool×PUnit)×PUnit):=Qc.al (a0,())
def aoJ:List (Nat×List Nat):=[(1000005,[1,1,1,0,1,0])]
theorem ZP:okB aoJ (Tryz.f152.body.getD .skip) []=true:=by kernel_rfl
theorem Ul(x1:aa)(x2:aa)(x4:aa)(x5:Int):yH x1 x2 x4 x5 =
 bif decide (x5<(↑(List.length x1.fst):Int))then
 (ab x1.fst x5).bind λy =>
 bif decide ((List.length x4.fst+1)*8<=140737488355328)then
  yH x1 x2 (x4.fst++[IntKind.i64.wrap (0 - y)],x4.snd) (IntKind.i64.wrap (x5+1))
 else none
else some ((x4,true,()),()):=(aK ZP [1,1,1,0,1,0] (by kernel_rfl) _).trans (by kernel_rfl)
theorem aiG(a0:aa):As a0 =
 (mD a0).bind λy =>
 bif !y.fst.fst then some ((([],0,false),false,()),())
 else yH a0 ([],0,false) ([],IntKind.i64.wrap (0 - a0.snd.fst),!a0.snd.snd) 0:=(Eq.trans (by kernel_rfl:As a0=aw N8 (Tryz.f152.body.getD .skip) Sf (aS 36 [(aM,Mode.ro)] (a0,()))) (all_eq ZP _)).trans (by kernel_rfl)
def Aq(a0:Int×List aa)(a1:Int×List aa):Option ((az×Bool×PUnit)×PUnit):=Qa.al (a0,a1,())
theorem aiD(a0:Int×List aa)(a1:Int×List aa):Aq a0 a1 =
 (mE a0).bind λy =>
 bif !y.fst.fst then some (((0,[]),false,()),())
 else
 (mE a1).bind λy =>
  bif !y.fst.fst then some (((0,[]),false,()),())
  else
  bif a0.fst != a1.fst then some (((0,[]),false,()),())
  else
   bif decide ((0+List.length a0.snd)*40<=140737488355328)then
   bif decide ((List.length a0.snd+List.length a1.snd)*40<=140737488355328)then
    (pq a0.fst (a0.snd++a1.snd)).bind λy =>
    bif decide ((↑(List.length y.fst.fst.snd):Int)>16)then some (((0,[]),false,()),())
    else some ((y.fst.fst,true,()),())
   else none
   else none:=by kernel_rfl
def H4(a0:Int×List aa)(a1:aa):Option ((Bool×Bool×PUnit)×PUnit):=P0.al (a0,a1,())
theorem aip(a0:Int×List aa)(a1:aa):H4 a0 a1 =
 (As a1).bind λy =>
 (Aq a0 ((↑(List.length a1.fst):Int),[y.fst.fst])).bind λav =>
 bif !y.fst.snd.fst then some ((false,false,()),())
 else
  bif !av.fst.snd.fst then some ((false,false,()),())
  else (uZ av.fst.fst).bind λy=>some ((y.fst.fst,y.fst.snd.fst,()),()):=by kernel_rfl
def Oh:Env:=GY.env C BZ.1 Tryz.f103
def Sp:=GY.out C
def uK(x1:Int×List aa)(x2:Int×List aa)(x6:Int×List aa)(x7:Int):Option ((az×Bool×PUnit)×PUnit):=aG Oh [1,1,1,1,1,0,1,0] (Tryz.f103.body.getD .skip) Sp (V.dead::(V.box none 0 aC x1::V.box none 0 aC x2::dd 3 (V.box none 0 aC x6::V.d none 0 (Ty.int IntKind.i64) x7::dd 56 ([]))))
def AB(a0:Int×List aa):Option ((az×Bool×PUnit)×PUnit):=Qy.al (a0,())
def aoX:List (Nat×List Nat):=[(1000008,[1,1,1,1,1,0,1,0])]
theorem ZY:okB aoX (Tryz.f103.body.getD .skip) []=true:=by kernel_rfl
theorem UE(x1:Int×List aa)(x2:Int×List aa)(x6:Int×List aa)(x7:Int):uK x1 x2 x6 x7 =
 bif decide (x7<(↑(List.length x6.snd):Int))then
 bif decide (0<=0)&&decide (0<=x7)&&decide (x7<=(↑(List.length x6.snd):Int))then
 bif decide ((0+(List.drop (Int.toNat 0) (List.take x7.toNat x6.snd)).length)*40<=140737488355328)then
  bif
   decide (0<=IntKind.i64.wrap (x7+1))&&decide (IntKind.i64.wrap (x7+1)<=(↑(List.length x6.snd):Int)) &&
   decide ((↑(List.length x6.snd):Int)<=(↑(List.length x6.snd):Int))then
  bif
   decide
    (((List.drop (Int.toNat 0) (List.take x7.toNat x6.snd)).length +
     (List.drop (IntKind.i64.wrap (x7+1)).toNat (List.take (List.length x6.snd) x6.snd)).length) *
     40 <=
    140737488355328)then
   (ab x6.snd x7).bind λy =>
   (H4
     (x1.fst,
     List.drop (Int.toNat 0) (List.take x7.toNat x6.snd) ++
      List.drop (IntKind.i64.wrap (x7+1)).toNat (List.take (List.length x6.snd) x6.snd))
     y).bind
    λy =>
    bif !y.fst.snd.fst then some (((0,[]),false,()),())
    else
    bif y.fst.fst then
     (po
      (x1.fst,
       List.drop (Int.toNat 0) (List.take x7.toNat x6.snd) ++
       List.drop (IntKind.i64.wrap (x7+1)).toNat (List.take (List.length x6.snd) x6.snd))).bind
     λy=>uK x1 x2 y.fst.fst x7
    else uK x1 x2 x6 (IntKind.i64.wrap (x7+1))
  else none
  else none
 else none
 else none
else some ((x6,true,()),()):=(aK ZY [1,1,1,1,1,0,1,0] (by kernel_rfl) _).trans (by kernel_rfl)
theorem ai6(a0:Int×List aa):AB a0 =
 (uZ a0).bind λy =>
 bif !y.fst.snd.fst then some (((0,[]),false,()),())
 else
 bif y.fst.fst then (AD a0.fst).bind λy=>some ((y.fst.fst,true,()),())
 else (po a0).bind λy=>uK a0 (0,[]) y.fst.fst 0:=(Eq.trans (by kernel_rfl:AB a0=aw Oh (Tryz.f103.body.getD .skip) Sp (aS 64 [(aC,Mode.ro)] (a0,()))) (all_eq ZY _)).trans (by kernel_rfl)
def pg(a0:List af)(a1:Int×List aa)(a2:List (List Int)):Option ((List af×Bool×PUnit)×PUnit):=Qg.al (a0,a1,a2,())
theorem aiN(a0:List af)(a1:Int×List aa)(a2:List (List Int)):pg a0 a1 a2 =
 (pq a1.fst a1.snd).bind λy =>
 (AB y.fst.fst).bind λy =>
 bif !y.fst.snd.fst then some (([],false,()),())
 else
  bif decide ((↑a0.length:Int)>=24)then some (([],false,()),())
  else
  bif (↑(List.length y.fst.fst.snd):Int)==1 then
   (ab y.fst.fst.snd 0).bind λav =>
   (u9 av).bind λa6 =>
    bif a6.fst.fst then some ((a0,true,()),())
    else
    bif decide ((0+a0.length)*56<=140737488355328)then
     bif decide ((a0.length+1)*56<=140737488355328)then some ((a0++[(y.fst.fst,a2)],true,()),())
     else none
    else none
  else
   bif decide ((0+a0.length)*56<=140737488355328)then
   bif decide ((a0.length+1)*56<=140737488355328)then some ((a0++[(y.fst.fst,a2)],true,()),())else none
   else none:=by kernel_rfl
def Fg:Env:=GK.env C Cb.1 Tryz.f69
def FB:=GK.out C
def uE(x1:List Int)(x2:Int×List aa)(x4:Int×List aa)(x6:Int×List aa)(x7:Int)(x8:List Int)(x9:Int):Option ((az×Bool×PUnit)×PUnit):=aG Fg [1,1,1,0,1,0,0,1,0,0,1,0,1,0] (Tryz.f69.body.getD .skip) FB (V.dead::(V.d none 0 bb x1::V.box none 0 aC x2::V.dead::(V.box none aC.depth aC x4::V.dead::(V.box none aC.depth aC x6::V.d none 0 (Ty.int IntKind.i64) x7::V.d none (ah.depth+1) (Ty.slice 3 ah) x8::V.d none 0 (Ty.int IntKind.i64) x9::dd 85 ([])))))
def yI(x1:List Int)(x2:Int×List aa)(x4:Int×List aa)(x6:Int×List aa)(x7:Int):Option ((az×Bool×PUnit)×PUnit):=aG Fg [1,1,1,0,1,0] (Tryz.f69.body.getD .skip) FB (V.dead::(V.d none 0 bb x1::V.box none 0 aC x2::V.dead::(V.box none aC.depth aC x4::V.dead::(V.box none aC.depth aC x6::V.d none 0 (Ty.int IntKind.i64) x7::dd 87 ([])))))
def u4(a0:Int×List aa)(a1:List Int):Option ((az×Bool×PUnit)×PUnit):=Qd.al (a0,a1,())
def aoK:List (Nat×List Nat):=[(1000005,[1,1,1,0,1,0]),(1000009,[1,1,1,0,1,0,0,1,0,0,1,0,1,0])]
theorem LC:okB aoK (Tryz.f69.body.getD .skip) []=true:=by kernel_rfl
theorem Un(x1:List Int)(x2:Int×List aa)(x4:Int×List aa)(x6:Int×List aa)(x7:Int)(x8:List Int)(x9:Int):uE x1 x2 x4 x6 x7 x8 x9 =
 bif decide (x9<(↑x1.length:Int))then
 (ab x1 x9).bind λy =>
 (gv y 0 3).bind λy =>
  bif !y.fst.fst then some (((0,[]),false,()),())
  else
  (ab x1 x9).bind λy =>
   (ab x1 x9).bind λav =>
   (ab x8 av).bind λa6 =>
    (ab x8 av).bind λbp =>
    (ab x2.snd x7).bind λcJ =>
     (ab cJ.fst x9).bind λej =>
     (ab x8 y).bind λdS =>
      (ab x8 y).bind λgJ =>
      (ab x8 y).bind λgq =>
       (some (x8.set y.toNat (IntKind.i64.wrap (bp+ej)))).bind λy =>
       uE x1 x2 x4 x6 x7 y (IntKind.i64.wrap (x9+1))
else
 (ab x2.snd x7).bind λy =>
 (ab x2.snd x7).bind λav =>
  (mF x8 y.snd.fst av.snd.snd).bind λy =>
  bif !y.fst.snd.fst then some (((0,[]),false,()),())
  else
   bif decide ((List.length x6.snd+1)*40<=140737488355328)then
   yI x1 x2 x4 (x6.fst,x6.snd++[y.fst.fst]) (IntKind.i64.wrap (x7+1))
   else none:=(aK LC [1,1,1,0,1,0,0,1,0,0,1,0,1,0] (by kernel_rfl) _).trans (by kernel_rfl)
theorem Um(x1:List Int)(x2:Int×List aa)(x4:Int×List aa)(x6:Int×List aa)(x7:Int):yI x1 x2 x4 x6 x7 =
 bif decide (x7<(↑(List.length x2.snd):Int))then uE x1 x2 x4 x6 x7 (List.replicate (Int.toNat 4) (0:Int)) 0
else some ((x6,true,()),()):=(aK LC [1,1,1,0,1,0] (by kernel_rfl) _).trans (by kernel_rfl)
theorem aiI(a0:Int×List aa)(a1:List Int):u4 a0 a1 =
 (mE a0).bind λy =>
 bif !y.fst.fst then some (((0,[]),false,()),())
 else bif (↑a1.length:Int) != a0.fst then some (((0,[]),false,()),())else yI a1 a0 (0,[]) (4,[]) 0:=(Eq.trans (by kernel_rfl:u4 a0 a1=aw Fg (Tryz.f69.body.getD .skip) FB (aS 95 [(aC,Mode.ro),(bb,Mode.ro)] (a0,a1,()))) (all_eq LC _)).trans (by kernel_rfl)
def Ob:Env:=GP.env C Cr.1 Tryz.f71
def Si:=GP.out C
def yL(x0:List (List Int))(x3:List (List Int))(x4:Int):Option ((List (List Int)×PUnit)×PUnit):=aG Ob [1,1,0,1,0] (Tryz.f71.body.getD .skip) Si (V.d none 0 cT x0::dd 2 (V.d none (bb.depth+1) (Ty.slice 58 bb) x3::V.d none 0 (Ty.int IntKind.i64) x4::dd 17 ([])))
def pk(a0:List (List Int)):Option ((List (List Int)×PUnit)×PUnit):=Qj.al (a0,())
def aoP:List (Nat×List Nat):=[(1000003,[1,1,0,1,0])]
theorem ZS:okB aoP (Tryz.f71.body.getD .skip) []=true:=by kernel_rfl
theorem Ur(x0:List (List Int))(x3:List (List Int))(x4:Int):yL x0 x3 x4 =
 bif decide (x4<(↑x0.length:Int))then
 (ab x0 x4).bind λy =>
 bif decide ((0+y.length)*8<=140737488355328)then
  bif decide ((x3.length+1)*24<=140737488355328)then yL x0 (x3++[y]) (IntKind.i64.wrap (x4+1))
  else none
 else none
else some ((x3,()),()):=(aK ZS [1,1,0,1,0] (by kernel_rfl) _).trans (by kernel_rfl)
theorem aiQ(a0:List (List Int)):pk a0 =
 yL a0 [] 0:=(Eq.trans (by kernel_rfl:pk a0=aw Ob (Tryz.f71.body.getD .skip) Si (aS 22 [(cT,Mode.ro)] (a0,()))) (all_eq ZS _)).trans (by kernel_rfl)
def Oa:Env:=GN.env C Ce.1 Tryz.f32
def Sh:=GN.out C
def yK(x0:List af)(x3:List af)(x4:Int):Option ((List af×PUnit)×PUnit):=aG Oa [1,1,0,1,0] (Tryz.f32.body.getD .skip) Sh (V.d none 0 bE x0::dd 2 (V.d none (cU.depth+1) (Ty.slice 81 cU) x3::V.d none 0 (Ty.int IntKind.i64) x4::dd 24 ([])))
def ph(a0:List af):Option ((List af×PUnit)×PUnit):=Qh.al (a0,())
def aoN:List (Nat×List Nat):=[(1000003,[1,1,0,1,0])]
theorem ZR:okB aoN (Tryz.f32.body.getD .skip) []=true:=by kernel_rfl
theorem Uq(x0:List af)(x3:List af)(x4:Int):yK x0 x3 x4 =
 bif decide (x4<(↑x0.length:Int))then
 (ab x0 x4).bind λy =>
 (po y.fst).bind λy =>
  (ab x0 x4).bind λav =>
  (pk av.snd).bind λa6 =>
   bif decide ((x3.length+1)*56<=140737488355328)then
   yK x0 (x3++[(y.fst.fst,a6.fst.fst)]) (IntKind.i64.wrap (x4+1))
   else none
else some ((x3,()),()):=(aK ZR [1,1,0,1,0] (by kernel_rfl) _).trans (by kernel_rfl)
theorem aiO(a0:List af):ph a0 =
 yK a0 [] 0:=(Eq.trans (by kernel_rfl:ph a0=aw Oa (Tryz.f32.body.getD .skip) Sh (aS 29 [(bE,Mode.ro)] (a0,()))) (all_eq ZR _)).trans (by kernel_rfl)
def tZ:Env:=GO.env C B8.1 Tryz.f31
def ua:=GO.out C
def n3(x0:List Rel)(x2:List (List af))(x4:Int×aa×ByteArray×ByteArray×List Int×Int×Int×Int)(x8:List af)(x9:Bool)(aF:Int)(bc:Int):Option ((List af×Bool×PUnit) ×
 List (List af)×PUnit):=aG tZ [1,1,1,0,1,0,1,1,1,0,1,1,0] (Tryz.f31.body.getD .skip) ua (V.d none 0 aY x0::V.dead::(V.d none 1 jt x2::V.dead::(V.box none 0 cY x4::dd 3 (V.d none 0 (Ty.slice 81 cU) x8::V.d none 0 Ty.bool x9::V.d none 0 ah aF::V.d none 0 (Ty.int IntKind.i64) bc::dd 217 ([])))))
def uF(x2:List (List af))(x4:Int×aa×ByteArray×ByteArray×List Int×Int×Int×Int)(x8:List af)(x9:Bool)(x14:List af)(x15:List af)(x16:Int)(cZ:Int):Option ((List af×Bool×PUnit) ×
 List (List af)×PUnit):=aG tZ [1,1,1,0,1,0,1,1,1,1,1,1,1,0,1,1,1,0,0,1,0,0,1,0] (Tryz.f31.body.getD .skip) ua (dd 2 (V.d none 1 jt x2::V.dead::(V.box none 0 cY x4::dd 3 (V.d none 0 (Ty.slice 81 cU) x8::V.d none 0 Ty.bool x9::dd 4 (V.d none 0 bE x14::V.d none 0 bE x15::V.d none 0 (Ty.int IntKind.i64) x16::V.d none 0 (Ty.int IntKind.i64) cZ::dd 145 (V.view 2 [] jt::dd 4 (V.view 2 [] jt::dd 60 ([]))))))))
def o6(x2:List (List af))(x4:Int×aa×ByteArray×ByteArray×List Int×Int×Int×Int)(x8:List af)(x9:Bool)(x14:List af)(x15:List af)(x16:Int):Option ((List af×Bool×PUnit) ×
 List (List af)×PUnit):=aG tZ [1,1,1,0,1,0,1,1,1,1,1,1,1,0,1,1,1,0] (Tryz.f31.body.getD .skip) ua (dd 2 (V.d none 1 jt x2::V.dead::(V.box none 0 cY x4::dd 3 (V.d none 0 (Ty.slice 81 cU) x8::V.d none 0 Ty.bool x9::dd 4 (V.d none 0 bE x14::V.d none 0 bE x15::V.d none 0 (Ty.int IntKind.i64) x16::dd 146 (V.view 2 [] jt::dd 4 (V.view 2 [] jt::dd 60 ([]))))))))
def uG(x2:List (List af))(x4:Int×aa×ByteArray×ByteArray×List Int×Int×Int×Int)(x8:List af)(x9:Bool)(fK:List af)(cn:Int):Option ((List af×Bool×PUnit) ×
 List (List af)×PUnit):=aG tZ [1,1,1,0,1,0,1,1,1,1,1,1,1,1,1,1,0] (Tryz.f31.body.getD .skip) ua (dd 2 (V.d none 1 jt x2::V.dead::(V.box none 0 cY x4::dd 3 (V.d none 0 (Ty.slice 81 cU) x8::V.d none 0 Ty.bool x9::dd 10 (V.d none 0 bE fK::V.d none 0 (Ty.int IntKind.i64) cn::dd 5 (V.view 2 [] jt::dd 201 ([])))))))
def u6(a0:List Rel)(a1:Int×aa×ByteArray×ByteArray×List Int×Int×Int×Int)(a2:List (List af)):Option ((List af×Bool×PUnit) ×
 List (List af)×PUnit):=Qi.al (a0,a1,a2,())
def aoO:List (Nat×List Nat):=[(1000017,[1,1,1,0,1,0,1,1,1,0,1,1,0]),(1000031,[1,1,1,0,1,0,1,1,1,1,1,1,1,0,1,1,1,0]),(1000034,[1,1,1,0,1,0,1,1,1,1,1,1,1,0,1,1,1,0,0,1,0,0,1,0]),(1000006,[1,1,1,0,1,0,1,1,1,1,1,1,1,1,1,1,0])]
theorem wV:okB aoO (Tryz.f31.body.getD .skip) []=true:=by kernel_rfl
theorem FP(x0:List Rel)(x2:List (List af))(x4:Int×aa×ByteArray×ByteArray×List Int×Int×Int×Int)(x8:List af)(x9:Bool)(aF:Int)(bc:Int):n3 x0 x2 x4 x8 x9 aF bc =
 (ab x0 aF).bind λy =>
 bif decide (bc<(↑(List.length y.snd.snd):Int))then
 bif x9 then
  bif !ByteArray.toList x4.snd.snd.snd.fst==(ByteArray.mk #[]).toList then
  (ab x0 aF).bind λy =>
   (ab y.snd.snd bc).bind λy =>
   bif !ByteArray.toList y.fst==ByteArray.toList x4.snd.snd.snd.fst then
    n3 x0 x2 x4 x8 x9 aF (IntKind.i64.wrap (bc+1))
   else
    (ab x0 aF).bind λy =>
    (ab y.snd.snd bc).bind λy =>
     (u4 y.snd x4.snd.snd.snd.snd.fst).bind λy =>
     bif !y.fst.snd.fst then some (([],false,()),x2,())
     else
      (pg x8 y.fst.fst [[aF,bc]]).bind λy =>
      n3 x0 x2 x4 y.fst.fst y.fst.snd.fst aF (IntKind.i64.wrap (bc+1))
  else
  (ab x0 aF).bind λy =>
   (ab y.snd.snd bc).bind λy =>
   (u4 y.snd x4.snd.snd.snd.snd.fst).bind λy =>
    bif !y.fst.snd.fst then some (([],false,()),x2,())
    else
    (pg x8 y.fst.fst [[aF,bc]]).bind λy =>
     n3 x0 x2 x4 y.fst.fst y.fst.snd.fst aF (IntKind.i64.wrap (bc+1))
 else some ((x8,x9,()),x2,())
 else some ((x8,x9,()),x2,()):=(aK wV [1,1,1,0,1,0,1,1,1,0,1,1,0] (by kernel_rfl) _).trans (by kernel_rfl)
theorem FR(x2:List (List af))(x4:Int×aa×ByteArray×ByteArray×List Int×Int×Int×Int)(x8:List af)(x9:Bool)(x14:List af)(x15:List af)(x16:Int)(cZ:Int):uF x2 x4 x8 x9 x14 x15 x16 cZ =
 bif decide (cZ<(↑x15.length:Int))then
 bif x9 then
 (ab x14 x16).bind λy =>
  (ab x15 cZ).bind λav =>
  (Aq y.fst av.fst).bind λy =>
   bif !y.fst.snd.fst then some (([],false,()),x2,())
   else
   (ab x14 x16).bind λa6 =>
    (pk a6.snd).bind λbp =>
    (ab x15 cZ).bind λcJ =>
     (pk cJ.snd).bind λej =>
     bif decide ((List.length bp.fst.fst+List.length ej.fst.fst)*24<=140737488355328)then
      (pg x8 y.fst.fst (bp.fst.fst++ej.fst.fst)).bind λy =>
      uF x2 x4 y.fst.fst y.fst.snd.fst x14 x15 x16 (IntKind.i64.wrap (cZ+1))
     else none
 else o6 x2 x4 x8 x9 x14 x15 (IntKind.i64.wrap (x16+1))
else o6 x2 x4 x8 x9 x14 x15 (IntKind.i64.wrap (x16+1)):=(aK wV [1,1,1,0,1,0,1,1,1,1,1,1,1,0,1,1,1,0,0,1,0,0,1,0] (by kernel_rfl) _).trans (by kernel_rfl)
theorem FQ(x2:List (List af))(x4:Int×aa×ByteArray×ByteArray×List Int×Int×Int×Int)(x8:List af)(x9:Bool)(x14:List af)(x15:List af)(x16:Int):o6 x2 x4 x8 x9 x14 x15 x16 =
 bif decide (x16<(↑x14.length:Int))then
 bif x9 then uF x2 x4 x8 x9 x14 x15 x16 0 else some ((x8,x9,()),x2,())
else some ((x8,x9,()),x2,()):=(aK wV [1,1,1,0,1,0,1,1,1,1,1,1,1,0,1,1,1,0] (by kernel_rfl) _).trans (by kernel_rfl)
theorem FU(x2:List (List af))(x4:Int×aa×ByteArray×ByteArray×List Int×Int×Int×Int)(x8:List af)(x9:Bool)(fK:List af)(cn:Int):uG x2 x4 x8 x9 fK cn =
 bif decide (cn<(↑fK.length:Int))then
 bif x9 then
 (ab fK cn).bind λy =>
  (vb y.fst x4.snd.snd.snd.snd.snd.fst).bind λy =>
  bif !y.fst.snd.fst then some (([],false,()),x2,())
  else
   (ab fK cn).bind λav =>
   (pk av.snd).bind λa6 =>
    (pg x8 y.fst.fst a6.fst.fst).bind λy =>
    uG x2 x4 y.fst.fst y.fst.snd.fst fK (IntKind.i64.wrap (cn+1))
 else some ((x8,x9,()),x2,())
else some ((x8,x9,()),x2,()):=(aK wV [1,1,1,0,1,0,1,1,1,1,1,1,1,1,1,1,0] (by kernel_rfl) _).trans (by kernel_rfl)
theorem aiP(a0:List Rel)(a1:Int×aa×ByteArray×ByteArray×List Int×Int×Int×Int)(a2:List (List af)):u6 a0 a1 a2 =
 bif a1.fst==0 then (pg [] (4,[a1.snd.fst]) []).bind λy=>some ((y.fst.fst,y.fst.snd.fst,()),a2,())
else
 bif a1.fst==1 then (n9 a0 a1.snd.snd.fst).bind λy=>n3 a0 a2 a1 [] true y.fst.fst 0
 else
 bif a1.fst==4 then
  (ab a2 a1.snd.snd.snd.snd.snd.snd.fst).bind λy =>
  (ab a2 a1.snd.snd.snd.snd.snd.snd.fst).bind λy =>
   (ph y).bind λy =>
   (ab a2 a1.snd.snd.snd.snd.snd.snd.snd).bind λav =>
    (ab a2 a1.snd.snd.snd.snd.snd.snd.snd).bind λa6 =>
    (ph a6).bind λbp =>
     bif decide ((List.length y.fst.fst+List.length bp.fst.fst)*56<=140737488355328)then
     some ((y.fst.fst++bp.fst.fst,decide ((↑(y.fst.fst++bp.fst.fst).length:Int)<=24),()),a2,())
     else none
 else
  bif a1.fst==3 then
  (ab a2 a1.snd.snd.snd.snd.snd.snd.fst).bind λy =>
   (ab a2 a1.snd.snd.snd.snd.snd.snd.fst).bind λy =>
   (ab a2 a1.snd.snd.snd.snd.snd.snd.snd).bind λav =>
    (ab a2 a1.snd.snd.snd.snd.snd.snd.snd).bind λa6=>o6 a2 a1 [] true y a6 0
  else
  (ab a2 a1.snd.snd.snd.snd.snd.snd.fst).bind λy =>
   (ab a2 a1.snd.snd.snd.snd.snd.snd.fst).bind λy=>uG a2 a1 [] true y 0:=(Eq.trans (by kernel_rfl:u6 a0 a1 a2=aw tZ (Tryz.f31.body.getD .skip) ua (aS 229 [(aY,Mode.ro),(cY,Mode.ro),(jt,Mode.mut 1)] (a0,a1,a2,()))) (all_eq wV _)).trans (by kernel_rfl)
def N9:Env:=GL.env C Cd.1 Tryz.f8
def Sg:=GL.out C
def yJ(x0:List Rel)(x1:List ao)(x6:List (List af))(x7:Int):Option ((List af×Bool×PUnit)×PUnit):=aG N9 [1,1,1,0,1,0] (Tryz.f8.body.getD .skip) Sg (V.d none 0 aY x0::V.d none 0 bJ x1::dd 4 (V.d none 1 (Ty.slice 26 bE) x6::V.d none 0 (Ty.int IntKind.i64) x7::dd 38 ([])))
def u5(a0:List Rel)(a1:List ao):Option ((List af×Bool×PUnit)×PUnit):=Qe.al (a0,a1,())
def aoL:List (Nat×List Nat):=[(1000005,[1,1,1,0,1,0])]
theorem ZQ:okB aoL (Tryz.f8.body.getD .skip) []=true:=by kernel_rfl
theorem Uo(x0:List Rel)(x1:List ao)(x6:List (List af))(x7:Int):yJ x0 x1 x6 x7 =
 bif decide (x7<(↑x1.length:Int))then
 (ab x1 x7).bind λy =>
 (u6 x0 y x6).bind λy =>
  bif !y.fst.snd.fst then some (([],false,()),())
  else
  bif decide ((List.length y.snd.fst+1)*24<=140737488355328)then
   yJ x0 x1 (y.snd.fst++[y.fst.fst]) (IntKind.i64.wrap (x7+1))
  else none
else
 (ab x6 (IntKind.i64.wrap ((↑x6.length:Int) - 1))).bind λy =>
 (ab x6 (IntKind.i64.wrap ((↑x6.length:Int) - 1))).bind λy =>
  (ph y).bind λy=>some ((y.fst.fst,true,()),()):=(aK ZQ [1,1,1,0,1,0] (by kernel_rfl) _).trans (by kernel_rfl)
theorem aiK(a0:List Rel)(a1:List ao):u5 a0 a1 =
 (u3 a0 a1).bind λy=>bif !y.fst.fst then some (([],false,()),())else yJ a0 a1 [] 0:=(Eq.trans (by kernel_rfl:u5 a0 a1=aw N9 (Tryz.f8.body.getD .skip) Sg (aS 46 [(aY,Mode.ro),(bJ,Mode.ro)] (a0,a1,()))) (all_eq ZQ _)).trans (by kernel_rfl)
def NW:Env:=Gt.env C Ca.1 Tryz.f148
def R3:=Gt.out C
def uA(x0:ByteArray)(x1:Int)(x2:Int)(x7:Int):Option ((Bool×PUnit)×PUnit):=aG NW [1,1,0,1,0] (Tryz.f148.body.getD .skip) R3 (V.d none 0 cO x0::V.d none 0 iL x1::V.d none 0 iL x2::dd 4 (V.d none 0 (Ty.int IntKind.i64) x7::dd 26 ([])))
def uX(a0:ByteArray)(a1:Int)(a2:Int):Option ((Bool×PUnit)×PUnit):=PO.al (a0,a1,a2,())
def aou:List (Nat×List Nat):=[(1000004,[1,1,0,1,0])]
theorem ZD:okB aou (Tryz.f148.body.getD .skip) []=true:=by kernel_rfl
theorem TO(x0:ByteArray)(x1:Int)(x2:Int)(x7:Int):uA x0 x1 x2 x7 =
 bif decide (x7<(↑x0.size:Int))then
 (mW x0 x7).bind λy =>
 bif decide (y<x1)then some ((false,()),())
 else
  (mW x0 x7).bind λy =>
  bif decide (y>x2)then some ((false,()),())else uA x0 x1 x2 (IntKind.i64.wrap (x7+1))
else some ((true,()),()):=(aK ZD [1,1,0,1,0] (by kernel_rfl) _).trans (by kernel_rfl)
theorem aia(a0:ByteArray)(a1:Int)(a2:Int):uX a0 a1 a2 =
 bif decide ((↑a0.size:Int)<1)then some ((false,()),())
else bif decide ((↑a0.size:Int)>6)then some ((false,()),())else uA a0 a1 a2 0:=(Eq.trans (by kernel_rfl:uX a0 a1 a2=aw NW (Tryz.f148.body.getD .skip) R3 (aS 34 [(cO,Mode.ro),(iL,Mode.ro),(iL,Mode.ro)] (a0,a1,a2,()))) (all_eq ZD _)).trans (by kernel_rfl)
def HT(a0:ByteArray):Option ((Bool×PUnit)×PUnit):=PL.al (a0,())
theorem ah5(a0:ByteArray):HT a0 =
 (uX a0 65 90).bind λy=>some ((y.fst.fst,()),()):=by kernel_rfl
def Ag(a0:ByteArray):Option ((Bool×PUnit)×PUnit):=PK.al (a0,())
theorem ah4(a0:ByteArray):Ag a0 =
 (uX a0 97 122).bind λy=>some ((y.fst.fst,()),()):=by kernel_rfl
def zS(a0:Int):Option ((Bool×PUnit)×PUnit):=O8.al (a0,())
theorem ahf(a0:Int):zS a0 =
 bif decide (a0 >= -400000000)then some ((decide (a0<=400000000),()),())else some ((false,()),()):=by kernel_rfl
def rM(a0:Int):Option ((Int×PUnit)×PUnit):=Pm.al (a0,())
theorem HH(a0:Int):rM a0 =
 bif decide (a0<0)then some ((IntKind.i64.wrap (0 - a0),()),())else some ((a0,()),()):=by kernel_rfl
def NO:Env:=Gh.env C BF.1 Tryz.f150
def RU:=Gh.out C
def yu(x0:Int)(x1:Int):Option ((Int×PUnit)×PUnit):=aG NO [1,1,0,0] (Tryz.f150.body.getD .skip) RU (V.d none 0 ah x0::V.d none 0 ah x1::dd 14 ([]))
def o9(a0:Int)(a1:Int):Option ((Int×PUnit)×PUnit):=Pq.al (a0,a1,())
def aoj:List (Nat×List Nat):=[(1000002,[1,1,0,0])]
theorem Zv:okB aoj (Tryz.f150.body.getD .skip) []=true:=by kernel_rfl
theorem afP(x0:Int)(x1:Int):yu x0 x1 =
 bif x1 != 0 then bif x1 != 0 then yu x1 (x0.tmod x1)else none else some ((x0,()),()):=(aK Zv [1,1,0,0] (by kernel_rfl) _).trans (by kernel_rfl)
theorem VB(a0:Int)(a1:Int):o9 a0 a1 =
 (rM a0).bind λy=>(rM a1).bind λav=>yu y.fst.fst av.fst.fst:=(Eq.trans (by kernel_rfl:o9 a0 a1=aw NO (Tryz.f150.body.getD .skip) RU (aS 16 [(ah,Mode.ro),(ah,Mode.ro)] (a0,a1,()))) (all_eq Zv _)).trans (by kernel_rfl)
def NT:Env:=Gp.env C BI.1 Tryz.f151
def R0:=Gp.out C
def uy(x0:List Int)(x3:Int)(x6:List Int)(x7:Int)(x8:Int):Option ((Int×PUnit)×PUnit):=aG NT [1,1,0,1,0] (Tryz.f151.body.getD .skip) R0 (V.d none 0 bb x0::dd 2 (V.d none 0 (Ty.int IntKind.i64) x3::dd 2 (V.d none 0 bb x6::V.d none 0 (Ty.int IntKind.i64) x7::V.d none 0 (Ty.int IntKind.i64) x8::dd 8 ([]))))
def mB(a0:List Int):Option ((Int×PUnit)×PUnit):=PD.al (a0,())
def aoq:List (Nat×List Nat):=[(1000003,[1,1,0,1,0])]
theorem ZA:okB aoq (Tryz.f151.body.getD .skip) []=true:=by kernel_rfl
theorem yB(x0:List Int)(x3:Int)(x6:List Int)(x7:Int)(x8:Int):uy x0 x3 x6 x7 x8 =
 bif decide (x8<x7)then
 (ab x6 x8).bind λy =>
 (o9 x3 y).bind λy=>uy x0 y.fst.fst x6 x7 (IntKind.i64.wrap (x8+1))
else some ((x3,()),()):=(aK ZA [1,1,0,1,0] (by kernel_rfl) _).trans (by kernel_rfl)
theorem VI(a0:List Int):mB a0 =
 uy a0 0 a0 (↑a0.length:Int) 0:=(Eq.trans (by kernel_rfl:mB a0=aw NT (Tryz.f151.body.getD .skip) R0 (aS 17 [(bb,Mode.ro)] (a0,()))) (all_eq ZA _)).trans (by kernel_rfl)
def NC:Env:=F2.env C BP.1 Tryz.f129
def RJ:=F2.out C
def rh(x1:aa)(x16:List Int)(cZ:Int)(jw:Int):Option ((Bool×PUnit)×PUnit):=aG NC [1,1,0,1,0] (Tryz.f129.body.getD .skip) RJ (V.dead::(V.box none 0 aM x1::dd 14 (V.d none 0 bb x16::V.d none 0 (Ty.int IntKind.i64) cZ::V.d none 0 (Ty.int IntKind.i64) jw::dd 14 ([]))))
def kA(a0:aa):Option ((Bool×PUnit)×PUnit):=O3.al (a0,())
def an4:List (Nat×List Nat):=[(1000004,[1,1,0,1,0])]
theorem Zk:okB an4 (Tryz.f129.body.getD .skip) []=true:=by kernel_rfl
theorem Te(x1:aa)(x16:List Int)(cZ:Int)(jw:Int):rh x1 x16 cZ jw =
 bif decide (jw<cZ)then
 (ab x16 jw).bind λy =>
 (zS y).bind λy =>
  bif !y.fst.fst then some ((false,()),())else rh x1 x16 cZ (IntKind.i64.wrap (jw+1))
else
 (mB x1.fst).bind λy =>
 (o9 y.fst.fst x1.snd.fst).bind λy=>some ((decide (y.fst.fst<=1),()),()):=(aK Zk [1,1,0,1,0] (by kernel_rfl) _).trans (by kernel_rfl)
theorem ag9(a0:aa):kA a0 =
 bif decide ((↑(List.length a0.fst):Int)>4)then some ((false,()),())
else
 (zS a0.snd.fst).bind λy =>
 bif !y.fst.fst then some ((false,()),())else rh a0 a0.fst (↑(List.length a0.fst):Int) 0:=(Eq.trans (by kernel_rfl:kA a0=aw NC (Tryz.f129.body.getD .skip) RJ (aS 33 [(aM,Mode.ro)] (a0,()))) (all_eq Zk _)).trans (by kernel_rfl)
def ND:Env:=F3.env C Bw.1 Tryz.f99
def RK:=F3.out C
def ud(x1:Int×List aa)(fK:List aa)(cn:Int)(c7:Int):Option ((Bool×PUnit)×PUnit):=aG ND [1,1,0,1,0] (Tryz.f99.body.getD .skip) RK (V.dead::(V.box none 0 aC x1::dd 18 (V.d none 0 (Ty.slice 66 aM) fK::V.d none 0 (Ty.int IntKind.i64) cn::V.d none 0 (Ty.int IntKind.i64) c7::dd 15 ([]))))
def kB(a0:Int×List aa):Option ((Bool×PUnit)×PUnit):=O4.al (a0,())
def an5:List (Nat×List Nat):=[(1000004,[1,1,0,1,0])]
theorem Zl:okB an5 (Tryz.f99.body.getD .skip) []=true:=by kernel_rfl
theorem Tf(x1:Int×List aa)(fK:List aa)(cn:Int)(c7:Int):ud x1 fK cn c7 =
 bif decide (c7<cn)then
 (ab fK c7).bind λy =>
 (kA y).bind λav =>
  bif !av.fst.fst then some ((false,()),())
  else
  bif (↑(List.length y.fst):Int) != x1.fst then some ((false,()),())
  else ud x1 fK cn (IntKind.i64.wrap (c7+1))
else some ((true,()),()):=(aK Zl [1,1,0,1,0] (by kernel_rfl) _).trans (by kernel_rfl)
theorem aha(a0:Int×List aa):kB a0 =
 bif decide (a0.fst<0)then some ((false,()),())
else
 bif decide (a0.fst>4)then some ((false,()),())
 else
 bif decide ((↑(List.length a0.snd):Int)>16)then some ((false,()),())
 else ud a0 a0.snd (↑(List.length a0.snd):Int) 0:=(Eq.trans (by kernel_rfl:kB a0=aw ND (Tryz.f99.body.getD .skip) RK (aS 38 [(aC,Mode.ro)] (a0,()))) (all_eq Zl _)).trans (by kernel_rfl)
def NH:Env:=F7.env C Bx.1 Tryz.f96
def RN:=F7.out C
def ug(x1:ByteArray×Int×List Rw)(bS:List Rw)(fX:Int)(cP:Int):Option ((Bool×PUnit)×PUnit):=aG NH [1,1,0,1,0] (Tryz.f96.body.getD .skip) RN (V.dead::(V.box none 0 du x1::dd 24 (V.d none 0 (Ty.slice 105 ko) bS::V.d none 0 (Ty.int IntKind.i64) fX::V.d none 0 (Ty.int IntKind.i64) cP::dd 22 ([]))))
def zT(a0:ByteArray×Int×List Rw):Option ((Bool×PUnit)×PUnit):=Pa.al (a0,())
def an9:List (Nat×List Nat):=[(1000004,[1,1,0,1,0])]
theorem Zo:okB an9 (Tryz.f96.body.getD .skip) []=true:=by kernel_rfl
theorem Tk(x1:ByteArray×Int×List Rw)(bS:List Rw)(fX:Int)(cP:Int):ug x1 bS fX cP =
 bif decide (cP<fX)then
 (ab bS cP).bind λy =>
 (Ag y.fst).bind λav =>
  bif !av.fst.fst then some ((false,()),())
  else
  (kB y.snd).bind λa6 =>
   bif !a6.fst.fst then some ((false,()),())
   else
   bif y.snd.fst != x1.snd.fst then some ((false,()),())
   else ug x1 bS fX (IntKind.i64.wrap (cP+1))
else some ((true,()),()):=(aK Zo [1,1,0,1,0] (by kernel_rfl) _).trans (by kernel_rfl)
theorem ahh(a0:ByteArray×Int×List Rw):zT a0 =
 (HT a0.fst).bind λy =>
 bif !y.fst.fst then some ((false,()),())
 else
 bif decide (a0.snd.fst<0)then some ((false,()),())
 else
  bif decide (a0.snd.fst>4)then some ((false,()),())
  else
  bif decide ((↑(List.length a0.snd.snd):Int)>8)then some ((false,()),())
  else ug a0 a0.snd.snd (↑(List.length a0.snd.snd):Int) 0:=(Eq.trans (by kernel_rfl:zT a0=aw NH (Tryz.f96.body.getD .skip) RN (aS 51 [(du,Mode.ro)] (a0,()))) (all_eq Zo _)).trans (by kernel_rfl)
def NB:Env:=F1.env C Bz.1 Tryz.f97
def RI:=F1.out C
def yn(x0:List Rel)(x1:ByteArray)(x7:List Rel)(x8:Int)(x9:Int):Option ((Int×PUnit)×PUnit):=aG NB [1,0,1,0] (Tryz.f97.body.getD .skip) RI (V.d none 0 aY x0::V.d none 0 cO x1::dd 5 (V.d none 0 aY x7::V.d none 0 (Ty.int IntKind.i64) x8::V.d none 0 (Ty.int IntKind.i64) x9::dd 10 ([])))
def rL(a0:List Rel)(a1:ByteArray):Option ((Int×PUnit)×PUnit):=O1.al (a0,a1,())
def an3:List (Nat×List Nat):=[(1000002,[1,0,1,0])]
theorem Zj:okB an3 (Tryz.f97.body.getD .skip) []=true:=by kernel_rfl
theorem Td(x0:List Rel)(x1:ByteArray)(x7:List Rel)(x8:Int)(x9:Int):yn x0 x1 x7 x8 x9 =
 bif decide (x9<x8)then
 (ab x7 x9).bind λy =>
 bif ByteArray.toList y.fst==x1.toList then some ((x9,()),())
 else yn x0 x1 x7 x8 (IntKind.i64.wrap (x9+1))
else some ((-1,()),()):=(aK Zj [1,0,1,0] (by kernel_rfl) _).trans (by kernel_rfl)
theorem ag6(a0:List Rel)(a1:ByteArray):rL a0 a1 =
 yn a0 a1 a0 (↑a0.length:Int) 0:=(Eq.trans (by kernel_rfl:rL a0 a1=aw NB (Tryz.f97.body.getD .skip) RI (aS 20 [(aY,Mode.ro),(cO,Mode.ro)] (a0,a1,()))) (all_eq Zj _)).trans (by kernel_rfl)
def NF:Env:=F4.env C Bu.1 Tryz.f59
def RL:=F4.out C
def ue(x0:List Rel)(x8:List Rel)(x9:Int)(aF:Int):Option ((Bool×PUnit)×PUnit):=aG NF [1,1,0,1,0] (Tryz.f59.body.getD .skip) RL (V.d none 0 aY x0::dd 7 (V.d none 0 aY x8::V.d none 0 (Ty.int IntKind.i64) x9::V.d none 0 (Ty.int IntKind.i64) aF::dd 16 ([])))
def uO(a0:List Rel):Option ((Bool×PUnit)×PUnit):=O5.al (a0,())
def an6:List (Nat×List Nat):=[(1000004,[1,1,0,1,0])]
theorem Zm:okB an6 (Tryz.f59.body.getD .skip) []=true:=by kernel_rfl
theorem Tg(x0:List Rel)(x8:List Rel)(x9:Int)(aF:Int):ue x0 x8 x9 aF =
 bif decide (aF<x9)then
 (ab x8 aF).bind λy =>
 (zT y).bind λav =>
  bif !av.fst.fst then some ((false,()),())
  else
  (rL x0 y.fst).bind λy =>
   bif y.fst.fst != aF then some ((false,()),())else ue x0 x8 x9 (IntKind.i64.wrap (aF+1))
else some ((true,()),()):=(aK Zm [1,1,0,1,0] (by kernel_rfl) _).trans (by kernel_rfl)
theorem ahb(a0:List Rel):uO a0 =
 bif decide ((↑a0.length:Int)>6)then some ((false,()),())else ue a0 a0 (↑a0.length:Int) 0:=(Eq.trans (by kernel_rfl:uO a0=aw NF (Tryz.f59.body.getD .skip) RL (aS 27 [(aY,Mode.ro)] (a0,()))) (all_eq Zm _)).trans (by kernel_rfl)
def HW(a0:aa):Option ((Bool×PUnit)×PUnit):=PQ.al (a0,())
theorem aib(a0:aa):HW a0 =
 bif (↑(List.length a0.fst):Int)==0 then
 bif a0.snd.fst==0 then some ((!a0.snd.snd,()),())else some ((false,()),())
else some ((false,()),()):=by kernel_rfl
def uW(a0:Int):Option ((Bool×PUnit)×PUnit):=PN.al (a0,())
theorem ah9(a0:Int):uW a0 =
 bif decide (a0>=0)then some ((decide (a0<4),()),())else some ((false,()),()):=by kernel_rfl
def ra:Env:=Gr.env C BR.1 Tryz.f109
def rf:=Gr.out C
def yD(x3:Int×aa×ByteArray×ByteArray×List Int×Int×Int×Int)(kr:List Int)(gn:Int)(tW:Int):Option ((Bool×PUnit)×PUnit):=aG ra [1,1,1,0,1,0,1,1,1,0,1,1,0,1,0] (Tryz.f109.body.getD .skip) rf (dd 3 (V.box none 0 cY x3::dd 87 (V.d none 0 bb kr::V.d none 0 (Ty.int IntKind.i64) gn::V.d none 0 (Ty.int IntKind.i64) tW::dd 16 ([]))))
def yh(x3:Int×aa×ByteArray×ByteArray×List Int×Int×Int×Int):Option ((Bool×PUnit)×PUnit):=hG ra [1,1,1,0,1,0,1,1,1,0,1,1] (Tryz.f109.body.getD .skip) rf (dd 3 (V.box none 0 cY x3::dd 106 ([])))
def Fo(x3:Int×aa×ByteArray×ByteArray×List Int×Int×Int×Int)(E3:Bool):Option ((Bool×PUnit)×PUnit):=hG ra [1,1,1,0,1,0,1,1,1,1,1] (Tryz.f109.body.getD .skip) rf (dd 3 (V.box none 0 cY x3::dd 97 (V.d none 0 Ty.bool E3::dd 8 ([]))))
def yi(x0:List Rel)(x3:Int×aa×ByteArray×ByteArray×List Int×Int×Int×Int):Option ((Bool×PUnit)×PUnit):=hG ra [1,1,1] (Tryz.f109.body.getD .skip) rf (V.d none 0 aY x0::dd 2 (V.box none 0 cY x3::dd 106 ([])))
def Fp(x0:List Rel)(x3:Int×aa×ByteArray×ByteArray×List Int×Int×Int×Int):Option ((Bool×PUnit)×PUnit):=hG ra [1,1] (Tryz.f109.body.getD .skip) rf (V.d none 0 aY x0::dd 2 (V.box none 0 cY x3::dd 106 ([])))
def Ae(a0:List Rel)(a1:Int×aa×ByteArray×ByteArray×List Int×Int×Int×Int):Option ((Bool×PUnit)×PUnit):=PG.al (a0,a1,())
def aos:List (Nat×List Nat):=[(2000003,[1,1]),(2000005,[1,1,1]),(2000012,[1,1,1,0,1,0,1,1,1,0,1,1]),(1000013,[1,1,1,0,1,0,1,1,1,0,1,1,0,1,0]),(2000021,[1,1,1,0,1,0,1,1,1,1,1])]
theorem sY:okB aos (Tryz.f109.body.getD .skip) []=true:=by kernel_rfl
theorem TL(x3:Int×aa×ByteArray×ByteArray×List Int×Int×Int×Int)(kr:List Int)(gn:Int)(tW:Int):yD x3 kr gn tW =
 bif decide (tW<gn)then
 (ab kr tW).bind λy =>
 (uW y).bind λy =>
  bif !y.fst.fst then some ((false,()),())else yD x3 kr gn (IntKind.i64.wrap (tW+1))
else some ((true,()),()):=(aK sY [1,1,1,0,1,0,1,1,1,0,1,1,0,1,0] (by kernel_rfl) _).trans (by kernel_rfl)
theorem afB(x3:Int×aa×ByteArray×ByteArray×List Int×Int×Int×Int):yh x3 =
 yD x3 x3.snd.snd.snd.snd.fst (↑(List.length x3.snd.snd.snd.snd.fst):Int) 0:=(join_eq sY [1,1,1,0,1,0,1,1,1,0,1,1] _).trans (by kernel_rfl)
theorem RH(x3:Int×aa×ByteArray×ByteArray×List Int×Int×Int×Int)(E3:Bool):Fo x3 E3 =
 bif E3 then (uW x3.snd.snd.snd.snd.snd.fst).bind λy=>some ((y.fst.fst,()),())
else some ((x3.snd.snd.snd.snd.snd.fst==0,()),()):=(join_eq sY [1,1,1,0,1,0,1,1,1,1,1] _).trans (by kernel_rfl)
theorem afE(x0:List Rel)(x3:Int×aa×ByteArray×ByteArray×List Int×Int×Int×Int):yi x0 x3 =
 bif x3.fst==0 then
 bif x3.snd.snd.snd.snd.snd.fst==0 then
 (kA x3.snd.fst).bind λy =>
  bif y.fst.fst then some (((↑(List.length x3.snd.fst.fst):Int)==4,()),())else some ((false,()),())
 else some ((false,()),())
else
 bif x3.fst==1 then
 (rL x0 x3.snd.snd.fst).bind λy =>
  bif x3.snd.snd.snd.snd.snd.fst != 0 then some ((false,()),())
  else
  bif decide (y.fst.fst<0)then some ((false,()),())
  else
   (ab x0 y.fst.fst).bind λy =>
   bif y.snd.fst != (↑(List.length x3.snd.snd.snd.snd.fst):Int)then some ((false,()),())
   else
    bif !ByteArray.toList x3.snd.snd.snd.fst==(ByteArray.mk #[]).toList then
    (Ag x3.snd.snd.snd.fst).bind λy=>bif !y.fst.fst then some ((false,()),())else yh x3
    else yh x3
 else bif x3.fst==5 then Fo x3 true else Fo x3 (x3.fst==6):=(join_eq sY [1,1,1] _).trans (by kernel_rfl)
theorem afD(x0:List Rel)(x3:Int×aa×ByteArray×ByteArray×List Int×Int×Int×Int):Fp x0 x3 =
 bif x3.fst != 1 then
 bif !ByteArray.toList x3.snd.snd.fst==(ByteArray.mk #[]).toList then some ((false,()),())
 else
 bif !ByteArray.toList x3.snd.snd.snd.fst==(ByteArray.mk #[]).toList then some ((false,()),())
 else
  bif decide ((↑(List.length x3.snd.snd.snd.snd.fst):Int)>0)then some ((false,()),())else yi x0 x3
else yi x0 x3:=(join_eq sY [1,1] _).trans (by kernel_rfl)
theorem ahY(a0:List Rel)(a1:Int×aa×ByteArray×ByteArray×List Int×Int×Int×Int):Ae a0 a1 =
 bif a1.fst != 0 then
 (HW a1.snd.fst).bind λy=>bif !y.fst.fst then some ((false,()),())else Fp a0 a1
else Fp a0 a1:=(Eq.trans (by kernel_rfl:Ae a0 a1=aw ra (Tryz.f109.body.getD .skip) rf (aS 110 [(aY,Mode.ro),(cY,Mode.ro)] (a0,a1,()))) (all_eq sY _)).trans (by kernel_rfl)
def HY(a0:Int):Option ((Int×PUnit)×PUnit):=PV.al (a0,())
theorem aij(a0:Int):HY a0 =
 bif a0==0 then some ((0,()),())
else
 bif a0==1 then some ((0,()),())
 else
 bif a0==2 then some ((1,()),())
 else
  bif a0==5 then some ((1,()),())
  else
  bif a0==6 then some ((1,()),())
  else bif a0==3 then some ((2,()),())else bif a0==4 then some ((2,()),())else some ((-1,()),()):=by kernel_rfl
def E7:Env:=F5.env C BV.1 Tryz.f77
def Ft:=F5.out C
def yg(x0:List Rel)(x1:List ao)(x5:List Int)(fW:List ao)(dB:Int)(bS:Int):Option ((Bool×PUnit)×PUnit):=hG E7 [1,1,1,0,1,0,0,1,1,1] (Tryz.f77.body.getD .skip) Ft (V.d none 0 aY x0::V.d none 0 bJ x1::dd 3 (V.d none (ah.depth+1) (Ty.slice 3 ah) x5::dd 18 (V.d none 0 bJ fW::V.d none 0 (Ty.int IntKind.i64) dB::V.d none 0 (Ty.int IntKind.i64) bS::dd 95 ([]))))
def uf(x0:List Rel)(x1:List ao)(x5:List Int)(fW:List ao)(dB:Int)(bS:Int):Option ((Bool×PUnit)×PUnit):=aG E7 [1,1,1,0,1,0] (Tryz.f77.body.getD .skip) Ft (V.d none 0 aY x0::V.d none 0 bJ x1::dd 3 (V.d none (ah.depth+1) (Ty.slice 3 ah) x5::dd 18 (V.d none 0 bJ fW::V.d none 0 (Ty.int IntKind.i64) dB::V.d none 0 (Ty.int IntKind.i64) bS::dd 95 ([]))))
def zO(a0:List Rel)(a1:List ao):Option ((Bool×PUnit)×PUnit):=O7.al (a0,a1,())
def an7:List (Nat×List Nat):=[(1000005,[1,1,1,0,1,0]),(2000023,[1,1,1,0,1,0,0,1,1,1])]
theorem Lu:okB an7 (Tryz.f77.body.getD .skip) []=true:=by kernel_rfl
theorem afA(x0:List Rel)(x1:List ao)(x5:List Int)(fW:List ao)(dB:Int)(bS:Int):yg x0 x1 x5 fW dB bS =
 uf x0 x1 x5 fW dB (IntKind.i64.wrap (bS+1)):=(join_eq Lu [1,1,1,0,1,0,0,1,1,1] _).trans (by kernel_rfl)
theorem Th(x0:List Rel)(x1:List ao)(x5:List Int)(fW:List ao)(dB:Int)(bS:Int):uf x0 x1 x5 fW dB bS =
 bif decide (bS<dB)then
 (ab fW bS).bind λy =>
 (Ae x0 y).bind λav =>
  bif !av.fst.fst then some ((false,()),())
  else
  (HY y.fst).bind λa6 =>
   bif a6.fst.fst==0 then
   bif y.snd.snd.snd.snd.snd.snd.fst != 0 then some ((false,()),())
   else
    bif y.snd.snd.snd.snd.snd.snd.snd != 0 then some ((false,()),())
    else
    (ab x5 bS).bind λy =>
     (ab x5 bS).bind λy =>
     (ab x5 bS).bind λy=>(some (x5.set bS.toNat bS)).bind λy=>yg x0 x1 y fW dB bS
   else
   bif a6.fst.fst==1 then
    bif bS==0 then some ((false,()),())
    else
    bif y.snd.snd.snd.snd.snd.snd.fst != IntKind.i64.wrap (bS - 1)then some ((false,()),())
    else
     bif y.snd.snd.snd.snd.snd.snd.snd != 0 then some ((false,()),())
     else
     (ab x5 (IntKind.i64.wrap (bS - 1))).bind λy =>
      (ab x5 (IntKind.i64.wrap (bS - 1))).bind λy =>
      (ab x5 bS).bind λbp =>
       (ab x5 bS).bind λcJ =>
       (ab x5 bS).bind λej =>
        (some (x5.set bS.toNat y)).bind λy=>yg x0 x1 y fW dB bS
   else
    bif a6.fst.fst==2 then
    bif bS==0 then some ((false,()),())
    else
     bif y.snd.snd.snd.snd.snd.snd.snd != IntKind.i64.wrap (bS - 1)then some ((false,()),())
     else
     (ab x5 (IntKind.i64.wrap (bS - 1))).bind λbp =>
      (ab x5 (IntKind.i64.wrap (bS - 1))).bind λcJ =>
      bif cJ==0 then some ((false,()),())
      else
       (ab x5 (IntKind.i64.wrap (bS - 1))).bind λej =>
       (ab x5 (IntKind.i64.wrap (bS - 1))).bind λdS =>
        bif y.snd.snd.snd.snd.snd.snd.fst != IntKind.i64.wrap (dS - 1)then some ((false,()),())
        else
        (ab x5 y.snd.snd.snd.snd.snd.snd.fst).bind λgJ =>
         (ab x5 y.snd.snd.snd.snd.snd.snd.fst).bind λy =>
         (ab x5 bS).bind λgq =>
          (ab x5 bS).bind λgr =>
          (ab x5 bS).bind λfN =>
           (some (x5.set bS.toNat y)).bind λy=>yg x0 x1 y fW dB bS
    else some ((false,()),())
else
 (ab x5 (IntKind.i64.wrap ((↑x1.length:Int) - 1))).bind λy =>
 (ab x5 (IntKind.i64.wrap ((↑x1.length:Int) - 1))).bind λy=>some ((y==0,()),()):=(aK Lu [1,1,1,0,1,0] (by kernel_rfl) _).trans (by kernel_rfl)
theorem ahd(a0:List Rel)(a1:List ao):zO a0 a1 =
 (uO a0).bind λy =>
 bif !y.fst.fst then some ((false,()),())
 else
 bif decide ((↑a1.length:Int)<1)then some ((false,()),())
 else
  bif decide ((↑a1.length:Int)>12)then some ((false,()),())
  else
  bif
   decide (0<=(↑a1.length:Int))&&decide ((↑a1.length:Int)<=(↑a1.length:Int)) &&
    decide ((↑a1.length:Int)*(↑8:Int)<=140737488355328) &&
    decide ((↑a1.length:Int)<=9223372036854775807)then
   uf a0 a1 (List.replicate a1.length (0:Int)) a1 (↑a1.length:Int) 0
  else none:=(Eq.trans (by kernel_rfl:zO a0 a1=aw E7 (Tryz.f77.body.getD .skip) Ft (aS 122 [(aY,Mode.ro),(bJ,Mode.ro)] (a0,a1,()))) (all_eq Lu _)).trans (by kernel_rfl)
def NG:Env:=F6.env C By.1 Tryz.f35
def RM:=F6.out C
def yo(x1:List ao)(bc:List ao)(bV:Int)(cd:Int):Option ((Bool×PUnit)×PUnit):=aG NG [1,1,0,1,0] (Tryz.f35.body.getD .skip) RM (V.dead::(V.d none 0 bJ x1::dd 9 (V.d none 0 bJ bc::V.d none 0 (Ty.int IntKind.i64) bV::V.d none 0 (Ty.int IntKind.i64) cd::dd 12 ([]))))
def uP(a0:List Rel)(a1:List ao):Option ((Bool×PUnit)×PUnit):=O9.al (a0,a1,())
def an8:List (Nat×List Nat):=[(1000004,[1,1,0,1,0])]
theorem Zn:okB an8 (Tryz.f35.body.getD .skip) []=true:=by kernel_rfl
theorem Tj(x1:List ao)(bc:List ao)(bV:Int)(cd:Int):yo x1 bc bV cd =
 bif decide (cd<bV)then
 (ab bc cd).bind λy =>
 bif y.fst==2 then some ((false,()),())
 else bif y.fst==6 then some ((false,()),())else yo x1 bc bV (IntKind.i64.wrap (cd+1))
else some ((true,()),()):=(aK Zn [1,1,0,1,0] (by kernel_rfl) _).trans (by kernel_rfl)
theorem ahg(a0:List Rel)(a1:List ao):uP a0 a1 =
 (zO a0 a1).bind λy =>
 bif !y.fst.fst then some ((false,()),())else yo a1 a1 (↑a1.length:Int) 0:=(Eq.trans (by kernel_rfl:uP a0 a1=aw NG (Tryz.f35.body.getD .skip) RM (aS 26 [(aY,Mode.ro),(bJ,Mode.ro)] (a0,a1,()))) (all_eq Zn _)).trans (by kernel_rfl)
def uU(a0:List Int):Option ((List Int×PUnit)×PUnit):=Px.al (a0,())
theorem VF(a0:List Int):uU a0 =
 bif decide ((0+a0.length)*8<=140737488355328)then some ((a0,()),())else none:=by kernel_rfl
def rN(a0:aa):Option ((aa×PUnit)×PUnit):=Ps.al (a0,())
theorem ahG(a0:aa):rN a0 =
 (uU a0.fst).bind λy=>some (((y.fst.fst,a0.snd.fst,a0.snd.snd),()),()):=by kernel_rfl
def Af(a0:aa):Option ((Bool×PUnit)×PUnit):=PI.al (a0,())
theorem ah1(a0:aa):Af a0 =
 (mB a0.fst).bind λy=>some ((y.fst.fst != 0,()),()):=by kernel_rfl
def uV(a0:Int):Option ((az×PUnit)×PUnit):=PF.al (a0,())
theorem ahX(a0:Int):uV a0 =
 bif
 decide (0<=a0)&&decide (a0<=a0)&&decide (a0*(↑8:Int)<=140737488355328) &&
  decide (a0<=9223372036854775807)then
 some (((a0,[(List.replicate a0.toNat (0:Int),1,false)]),()),())
else none:=by kernel_rfl
def rP(a0:aa):Option ((Int×PUnit)×PUnit):=PC.al (a0,())
theorem ahU(a0:aa):rP a0 =
 (mB a0.fst).bind λy=>bif y.fst.fst==0 then some ((1,()),())else some ((y.fst.fst,()),()):=by kernel_rfl
def Aj(a0:Int)(a1:Int):Option ((Int×PUnit)×PUnit):=PY.al (a0,a1,())
theorem ain(a0:Int)(a1:Int):Aj a0 a1 =
 bif decide (a0<a1)then some ((-1,()),())else bif decide (a0>a1)then some ((1,()),())else some ((0,()),()):=by kernel_rfl
def NP:Env:=Gi.env C BX.1 Tryz.f169
def RW:=Gi.out C
def yv(x2:aa)(x3:aa)(x5:Int)(x6:Int)(x15:Int)(x16:Int):Option ((Int×PUnit)×PUnit):=aG NP [1,1,0,1,0] (Tryz.f169.body.getD .skip) RW (dd 2 (V.box none 0 aM x2::V.box none 0 aM x3::V.dead::(V.d none 0 ah x5::V.d none 0 ah x6::dd 8 (V.d none 0 (Ty.int IntKind.i64) x15::V.d none 0 (Ty.int IntKind.i64) x16::dd 21 ([])))))
def uS(a0:aa)(a1:aa):Option ((Int×PUnit)×PUnit):=Pr.al (a0,a1,())
def aok:List (Nat×List Nat):=[(1000003,[1,1,0,1,0])]
theorem Zw:okB aok (Tryz.f169.body.getD .skip) []=true:=by kernel_rfl
theorem TB(x2:aa)(x3:aa)(x5:Int)(x6:Int)(x15:Int)(x16:Int):yv x2 x3 x5 x6 x15 x16 =
 bif decide (x16<x15)then
 (ab x2.fst x16).bind λy =>
 bif x5 != 0 then
  (ab x3.fst x16).bind λav =>
  bif x6 != 0 then
   (Aj (IntKind.i64.wrap (y.tdiv x5)) (IntKind.i64.wrap (av.tdiv x6))).bind λy =>
   bif y.fst.fst != 0 then some ((y.fst.fst,()),())
   else yv x2 x3 x5 x6 x15 (IntKind.i64.wrap (x16+1))
  else none
 else none
else some ((0,()),()):=(aK Zw [1,1,0,1,0] (by kernel_rfl) _).trans (by kernel_rfl)
theorem ahF(a0:aa)(a1:aa):uS a0 a1 =
 (rP a0).bind λy =>
 (rP a1).bind λav =>
 yv a0 a1 y.fst.fst av.fst.fst (↑(List.length a0.fst):Int) 0:=(Eq.trans (by kernel_rfl:uS a0 a1=aw NP (Tryz.f169.body.getD .skip) RW (aS 38 [(aM,Mode.ro),(aM,Mode.ro)] (a0,a1,()))) (all_eq Zw _)).trans (by kernel_rfl)
def Vr(a0:aa)(a1:aa):Option ((Int×PUnit)×PUnit):=yd.al (a0,a1,())
theorem ag3(a0:aa)(a1:aa):Vr a0 a1 =
 (kA a0).bind λy =>
 bif !y.fst.fst then some ((2,()),())
 else
 (kA a1).bind λy =>
  bif !y.fst.fst then some ((2,()),())
  else
  bif (↑(List.length a0.fst):Int) != (↑(List.length a1.fst):Int)then some ((2,()),())
  else
   (uS a0 a1).bind λy =>
   bif y.fst.fst != 0 then some ((y.fst.fst,()),())
   else
    (rP a1).bind λy =>
    (rP a0).bind λav =>
     (Aj (IntKind.i64.wrap (a0.snd.fst*y.fst.fst)) (IntKind.i64.wrap (a1.snd.fst*av.fst.fst))).bind
     λy =>
     bif y.fst.fst != 0 then some ((y.fst.fst,()),())
     else
      bif a0.snd.snd==a1.snd.snd then some ((0,()),())
      else bif a0.snd.snd then some ((1,()),())else some ((-1,()),()):=by kernel_rfl
def V6(x0:(List ((List Int)×(Int×Bool))))(x1:Value):Option (Unit×(List ((List Int)×(Int×Bool)))×Unit):=Fl.al (x0,(x1,()))
def Fe:Env:=Gv.env C Cx.1 Tryz.f161
def Fz:=Gv.out C
def ru(x4:Int×List aa)(x5:Int×List aa)(x8:Int×List aa)(qW:Int)(fm:Int):Option ((az×PUnit)×PUnit):=aG Fe [1,1,1,1,1,0,1,0] (Tryz.f161.body.getD .skip) Fz (dd 4 (V.box none aC.depth aC x4::V.bQ 0 1 ((Ty.int IntKind.i64).pair (Ty.slice 66 (bb.pair (ah.pair aQ)).agg)) x5::dd 2 (V.box none aC.depth aC x8::dd 37 (V.same 5 (Ty.slice 66 (bb.pair (ah.pair aQ)).agg)::V.d none 0 (Ty.int IntKind.i64) qW::V.d none 0 (Ty.int IntKind.i64) fm::dd 27 ([])))))
def ry(x0:Int)(x1:List aa)(x4:Int×List aa)(x5:List aa)(bV:List aa)(cd:Int)(x14:Int):Option ((az×PUnit)×PUnit):=aG Fe [1,1,0,1,0] (Tryz.f161.body.getD .skip) Fz (V.d none 0 ah x0::V.d none 0 di x1::dd 2 (V.box none aC.depth aC x4::V.d none (aM.depth+1) (Ty.slice 66 aM) x5::dd 6 (V.d none 0 di bV::V.d none 0 (Ty.int IntKind.i64) cd::V.d none 0 (Ty.int IntKind.i64) x14::dd 61 ([]))))
def pf(a0:Int)(a1:List aa):Option ((az×PUnit)×PUnit):=PU.al (a0,a1,())
def aow:List (Nat×List Nat):=[(1000003,[1,1,0,1,0]),(1000013,[1,1,1,1,1,0,1,0])]
theorem LA:okB aow (Tryz.f161.body.getD .skip) []=true:=by kernel_rfl
theorem TQ(x4:Int×List aa)(x5:Int×List aa)(x8:Int×List aa)(qW:Int)(fm:Int):ru x4 x5 x8 qW fm =
 bif decide (fm<qW)then
 (ab x5.snd fm).bind λy =>
 bif V.dead.idle&&decide (x5.fst<=fm)then
  (ab x5.snd fm).bind λy =>
  bif decide (IntKind.i64.wrap (fm+1)<(↑(List.length x5.snd):Int))then
   (ab x5.snd (IntKind.i64.wrap (fm+1))).bind λav =>
   bif decide (fm+1<=IntKind.i64.wrap (fm+1))then
    (ab x5.snd (IntKind.i64.wrap (fm+1))).bind λa6 =>
    bif decide (fm+1<=IntKind.i64.wrap (fm+1))then
     (ab x5.snd (IntKind.i64.wrap (fm+1))).bind λbp =>
     (uS y bp).bind λcJ =>
      bif cJ.fst.fst==0 then ru x4 (fm+1,x5.snd) x8 qW (IntKind.i64.wrap (fm+1))
      else
      bif decide ((List.length x8.snd+1)*40<=140737488355328)then
       ru x4 (fm+1,x5.snd) (x8.fst,x8.snd++[y]) qW (IntKind.i64.wrap (fm+1))
      else none
    else none
   else none
  else
   bif decide ((List.length x8.snd+1)*40<=140737488355328)then
   ru x4 (fm+1,x5.snd) (x8.fst,x8.snd++[y]) qW (IntKind.i64.wrap (fm+1))
   else none
 else none
else some ((x8,()),()):=(aK LA [1,1,1,1,1,0,1,0] (by kernel_rfl) _).trans (by kernel_rfl)
theorem TS(x0:Int)(x1:List aa)(x4:Int×List aa)(x5:List aa)(bV:List aa)(cd:Int)(x14:Int):ry x0 x1 x4 x5 bV cd x14 =
 bif decide (x14<cd)then
 (ab bV x14).bind λy =>
 (Af y).bind λav =>
  bif !av.fst.fst then
  bif decide (y.snd.fst>0)then (uV x0).bind λy=>some ((y.fst.fst,()),())
  else
   bif y.snd.fst==0 then
   bif y.snd.snd then (uV x0).bind λy=>some ((y.fst.fst,()),())
   else ry x0 x1 x4 x5 bV cd (IntKind.i64.wrap (x14+1))
   else ry x0 x1 x4 x5 bV cd (IntKind.i64.wrap (x14+1))
  else
  (rN y).bind λy =>
   bif decide ((x5.length+1)*40<=140737488355328)then
   ry x0 x1 x4 (x5++[y.fst.fst]) bV cd (IntKind.i64.wrap (x14+1))
   else none
else
 Option.bind
 (Go.Proofs.YthfgcmoipebheaaGreat.P.It.V6 x5
  (Value.func (Fn.func 168) #[] #[]))
 λy=>ru x4 (0,y.snd.fst) (x0,[]) (↑(List.length y.snd.fst):Int) 0:=(aK LA [1,1,0,1,0] (by kernel_rfl) _).trans (by kernel_rfl)
theorem aih(a0:Int)(a1:List aa):pf a0 a1 =
 ry a0 a1 (0,[]) [] a1 (↑a1.length:Int) 0:=(Eq.trans (by kernel_rfl:pf a0 a1=aw Fe (Tryz.f161.body.getD .skip) Fz (aS 76 [(ah,Mode.ro),(di,Mode.ro)] (a0,a1,()))) (all_eq LA _)).trans (by kernel_rfl)
def Vy(a0:Int×List aa):Option ((az×Bool×PUnit)×PUnit):=Pg.al (a0,())
theorem ahs(a0:Int×List aa):Vy a0 =
 (kB a0).bind λy =>
 bif !y.fst.fst then some (((0,[]),false,()),())
 else (pf a0.fst a0.snd).bind λy=>some ((y.fst.fst,true,()),()):=by kernel_rfl
def NX:Env:=Gu.env C BA.1 Tryz.f141
def R4:=Gu.out C
def rr(x0:List Int)(x6:aa)(x8:Int)(x9:aa)(bS:List Int)(fX:Int)(cP:Int):Option ((aa×Bool×PUnit)×PUnit):=aG NX [1,1,1,1,0,1,0] (Tryz.f141.body.getD .skip) R4 (V.d none 0 bb x0::dd 5 (V.box none aM.depth aM x6::V.dead::(V.d none 0 (Ty.int IntKind.i64) x8::V.box none aM.depth aM x9::dd 16 (V.d none 0 bb bS::V.d none 0 (Ty.int IntKind.i64) fX::V.d none 0 (Ty.int IntKind.i64) cP::dd 17 ([])))))
def mC(a0:List Int)(a1:Int)(a2:Bool):Option ((aa×Bool×PUnit)×PUnit):=PS.al (a0,a1,a2,())
def aov:List (Nat×List Nat):=[(1000006,[1,1,1,1,0,1,0])]
theorem ZE:okB aov (Tryz.f141.body.getD .skip) []=true:=by kernel_rfl
theorem TP(x0:List Int)(x6:aa)(x8:Int)(x9:aa)(bS:List Int)(fX:Int)(cP:Int):rr x0 x6 x8 x9 bS fX cP =
 bif decide (cP<fX)then
 (ab bS cP).bind λy =>
 bif x8 != 0 then
  (ab x9.fst cP).bind λav =>
  (ab x9.fst cP).bind λa6 =>
   (ab x9.fst cP).bind λbp =>
   (some (List.set x9.fst cP.toNat (IntKind.i64.wrap (y.tdiv x8)))).bind λy =>
    rr x0 x6 x8 (y,x9.snd) bS fX (IntKind.i64.wrap (cP+1))
 else none
else
 (kA x9).bind λy=>bif !y.fst.fst then some ((([],0,false),false,()),())else some ((x9,true,()),()):=(aK ZE [1,1,1,1,0,1,0] (by kernel_rfl) _).trans (by kernel_rfl)
theorem aie(a0:List Int)(a1:Int)(a2:Bool):mC a0 a1 a2 =
 (mB a0).bind λy =>
 (o9 y.fst.fst a1).bind λy =>
 bif y.fst.fst==0 then
  bif
   decide (0<=(↑a0.length:Int))&&decide ((↑a0.length:Int)<=(↑a0.length:Int)) &&
    decide ((↑a0.length:Int)*(↑8:Int)<=140737488355328) &&
   decide ((↑a0.length:Int)<=9223372036854775807)then
  rr a0 ([],0,false) 1 (List.replicate a0.length (0:Int),IntKind.i64.wrap (a1.tdiv 1),a2) a0 (↑a0.length:Int)
   0
  else none
 else
  bif
   decide (0<=(↑a0.length:Int))&&decide ((↑a0.length:Int)<=(↑a0.length:Int)) &&
    decide ((↑a0.length:Int)*(↑8:Int)<=140737488355328) &&
   decide ((↑a0.length:Int)<=9223372036854775807)then
  bif y.fst.fst != 0 then
   rr a0 ([],0,false) y.fst.fst (List.replicate a0.length (0:Int),IntKind.i64.wrap (a1.tdiv y.fst.fst),a2) a0
   (↑a0.length:Int) 0
  else none
  else none:=(Eq.trans (by kernel_rfl:mC a0 a1 a2=aw NX (Tryz.f141.body.getD .skip) R4 (aS 46 [(bb,Mode.ro),(ah,Mode.ro),(aQ,Mode.ro)] (a0,a1,a2,()))) (all_eq ZE _)).trans (by kernel_rfl)
def NJ:Env:=Ga.env C BT.1 Tryz.f144
def RP:=Ga.out C
def uj(x1:Int)(x3:Int)(x4:aa)(x6:aa)(x8:aa)(aF:List Int)(fM:Int)(dR:Int):Option ((aa×Bool×PUnit)×PUnit):=aG NJ [1,1,1,1,0,1,0] (Tryz.f144.body.getD .skip) RP (V.dead::(V.d none 0 ah x1::V.dead::(V.d none 0 ah x3::V.box none 0 aM x4::V.dead::(V.box none 0 aM x6::V.dead::(V.box none aM.depth aM x8::V.dead::(V.d none (ah.depth+1) (Ty.slice 3 ah) aF::dd 39 (V.d none 0 (Ty.int IntKind.i64) fM::V.d none 0 (Ty.int IntKind.i64) dR::dd 48 ([]))))))))
def zY(a0:aa)(a1:Int)(a2:aa)(a3:Int):Option ((aa×Bool×PUnit)×PUnit):=Pe.al (a0,a1,a2,a3,())
def aoc:List (Nat×List Nat):=[(1000007,[1,1,1,1,0,1,0])]
theorem Zq:okB aoc (Tryz.f144.body.getD .skip) []=true:=by kernel_rfl
theorem To(x1:Int)(x3:Int)(x4:aa)(x6:aa)(x8:aa)(aF:List Int)(fM:Int)(dR:Int):uj x1 x3 x4 x6 x8 aF fM dR =
 bif decide (dR<fM)then
 (ab x4.fst dR).bind λy =>
 (ab x6.fst dR).bind λav =>
  (ab aF dR).bind λa6 =>
  (ab aF dR).bind λbp =>
   (ab aF dR).bind λcJ =>
   (some (aF.set dR.toNat (IntKind.i64.wrap (IntKind.i64.wrap (x1*y)+IntKind.i64.wrap (x3*av))))).bind
    λy=>uj x1 x3 x4 x6 x8 y fM (IntKind.i64.wrap (dR+1))
else
 bif x4.snd.snd then
 bif x1 != 0 then
  (mC aF (IntKind.i64.wrap (IntKind.i64.wrap (x1*x4.snd.fst)+IntKind.i64.wrap (x3*x6.snd.fst)))
   true).bind
  λy=>some ((y.fst.fst,y.fst.snd.fst,()),())
 else
  bif x6.snd.snd then
  (mC aF (IntKind.i64.wrap (IntKind.i64.wrap (x1*x4.snd.fst)+IntKind.i64.wrap (x3*x6.snd.fst)))
    (x3 != 0)).bind
   λy=>some ((y.fst.fst,y.fst.snd.fst,()),())
  else
  (mC aF (IntKind.i64.wrap (IntKind.i64.wrap (x1*x4.snd.fst)+IntKind.i64.wrap (x3*x6.snd.fst)))
    false).bind
   λy=>some ((y.fst.fst,y.fst.snd.fst,()),())
 else
 bif x6.snd.snd then
  (mC aF (IntKind.i64.wrap (IntKind.i64.wrap (x1*x4.snd.fst)+IntKind.i64.wrap (x3*x6.snd.fst)))
   (x3 != 0)).bind
  λy=>some ((y.fst.fst,y.fst.snd.fst,()),())
 else
  (mC aF (IntKind.i64.wrap (IntKind.i64.wrap (x1*x4.snd.fst)+IntKind.i64.wrap (x3*x6.snd.fst)))
   false).bind
  λy=>some ((y.fst.fst,y.fst.snd.fst,()),()):=(aK Zq [1,1,1,1,0,1,0] (by kernel_rfl) _).trans (by kernel_rfl)
theorem aho(a0:aa)(a1:Int)(a2:aa)(a3:Int):zY a0 a1 a2 a3 =
 (kA a0).bind λy =>
 bif !y.fst.fst then some ((([],0,false),false,()),())
 else
 (kA a2).bind λy =>
  bif !y.fst.fst then some ((([],0,false),false,()),())
  else
  bif (↑(List.length a0.fst):Int) != (↑(List.length a2.fst):Int)then some ((([],0,false),false,()),())
  else
   bif decide (a1<0)then some ((([],0,false),false,()),())
   else
   bif decide (a1>400000000)then some ((([],0,false),false,()),())
   else
    bif decide (a3<0)then some ((([],0,false),false,()),())
    else
    bif decide (a3>400000000)then some ((([],0,false),false,()),())
    else
     bif
      decide (0<=(↑(List.length a0.fst):Int)) &&
       decide ((↑(List.length a0.fst):Int)<=(↑(List.length a0.fst):Int)) &&
       decide ((↑(List.length a0.fst):Int)*(↑8:Int)<=140737488355328) &&
      decide ((↑(List.length a0.fst):Int)<=9223372036854775807)then
     uj a1 a3 a0 a2 ([],0,false) (List.replicate (List.length a0.fst) (0:Int))
      (↑(List.replicate (List.length a0.fst) (0:Int)).length:Int) 0
     else none:=(Eq.trans (by kernel_rfl:zY a0 a1 a2 a3=aw NJ (Tryz.f144.body.getD .skip) RP (aS 100 [(aM,Mode.ro),(ah,Mode.ro),(aM,Mode.ro),(ah,Mode.ro)] (a0,a1,a2,a3,()))) (all_eq Zq _)).trans (by kernel_rfl)
def Ah(a0:Int)(a1:List aa):Option ((az×Bool×PUnit)×PUnit):=PR.al (a0,a1,())
theorem aid(a0:Int)(a1:List aa):Ah a0 a1 =
 (pf a0 a1).bind λy =>
 bif decide ((↑(List.length y.fst.fst.snd):Int)>16)then some (((0,[]),false,()),())
 else some ((y.fst.fst,true,()),()):=by kernel_rfl
def xZ:Env:=F0.env C BS.1 Tryz.f116
def yj:=F0.out C
def ub(x1:Int)(x2:Int×List aa)(x4:Int×List aa)(x6:List aa)(aF:aa)(jx:List aa)(fM:Int)(dR:Int)(tT:List aa)(tU:Int)(qX:Int):Option ((az×Bool×PUnit)×PUnit):=aG xZ [1,1,1,1,0,1,0,0,1,1,0,0,1,1,1,0] (Tryz.f116.body.getD .skip) yj (V.dead::(V.d none 0 ah x1::V.box none 0 aC x2::V.dead::(V.box none aC.depth aC x4::V.dead::(V.d none 1 (Ty.slice 66 aM) x6::dd 3 (V.box none 0 aM aF::dd 38 (V.d none 0 (Ty.slice 66 aM) jx::V.d none 0 (Ty.int IntKind.i64) fM::V.d none 0 (Ty.int IntKind.i64) dR::dd 10 (V.d none 0 (Ty.slice 66 aM) tT::V.d none 0 (Ty.int IntKind.i64) tU::V.d none 0 (Ty.int IntKind.i64) qX::dd 41 ([]))))))))
def o3(x1:Int)(x2:Int×List aa)(x4:Int×List aa)(x6:List aa)(jx:List aa)(fM:Int)(dR:Int):Option ((az×Bool×PUnit)×PUnit):=aG xZ [1,1,1,1,0,1,0] (Tryz.f116.body.getD .skip) yj (V.dead::(V.d none 0 ah x1::V.box none 0 aC x2::V.dead::(V.box none aC.depth aC x4::V.dead::(V.d none 1 (Ty.slice 66 aM) x6::dd 42 (V.d none 0 (Ty.slice 66 aM) jx::V.d none 0 (Ty.int IntKind.i64) fM::V.d none 0 (Ty.int IntKind.i64) dR::dd 54 ([]))))))
def uc(x1:Int)(x2:Int×List aa)(x4:Int×List aa)(x6:List aa)(tQ:List aa)(tR:Int)(qU:Int):Option ((az×Bool×PUnit)×PUnit):=aG xZ [1,1,1,0,1,0] (Tryz.f116.body.getD .skip) yj (V.dead::(V.d none 0 ah x1::V.box none 0 aC x2::V.dead::(V.box none aC.depth aC x4::V.dead::(V.d none 1 (Ty.slice 66 aM) x6::dd 24 (V.d none 0 (Ty.slice 66 aM) tQ::V.d none 0 (Ty.int IntKind.i64) tR::V.d none 0 (Ty.int IntKind.i64) qU::dd 72 ([]))))))
def uN(a0:Int×List aa)(a1:Int):Option ((az×Bool×PUnit)×PUnit):=O0.al (a0,a1,())
def an2:List (Nat×List Nat):=[(1000005,[1,1,1,0,1,0]),(1000011,[1,1,1,1,0,1,0]),(1000015,[1,1,1,1,0,1,0,0,1,1,0,0,1,1,1,0])]
theorem D2:okB an2 (Tryz.f116.body.getD .skip) []=true:=by kernel_rfl
theorem S9(x1:Int)(x2:Int×List aa)(x4:Int×List aa)(x6:List aa)(aF:aa)(jx:List aa)(fM:Int)(dR:Int)(tT:List aa)(tU:Int)(qX:Int):ub x1 x2 x4 x6 aF jx fM dR tT tU qX =
 bif decide (qX<tU)then
 (ab tT qX).bind λy =>
 (ab y.fst x1).bind λav =>
  bif decide (av>=0)then ub x1 x2 x4 x6 aF jx fM dR tT tU (IntKind.i64.wrap (qX+1))
  else
  (ab y.fst x1).bind λa6 =>
   (ab aF.fst x1).bind λbp =>
   (zY aF (IntKind.i64.wrap (0 - a6)) y bp).bind λy =>
    bif !y.fst.snd.fst then some (((0,[]),false,()),())
    else
    bif decide ((x6.length+1)*40<=140737488355328)then
     ub x1 x2 x4 (x6++[y.fst.fst]) aF jx fM dR tT tU (IntKind.i64.wrap (qX+1))
    else none
else o3 x1 x2 x4 x6 jx fM (IntKind.i64.wrap (dR+1)):=(aK D2 [1,1,1,1,0,1,0,0,1,1,0,0,1,1,1,0] (by kernel_rfl) _).trans (by kernel_rfl)
theorem S8(x1:Int)(x2:Int×List aa)(x4:Int×List aa)(x6:List aa)(jx:List aa)(fM:Int)(dR:Int):o3 x1 x2 x4 x6 jx fM dR =
 bif decide (dR<fM)then
 (ab jx dR).bind λy =>
 (ab y.fst x1).bind λav =>
  bif decide (av<=0)then o3 x1 x2 x4 x6 jx fM (IntKind.i64.wrap (dR+1))
  else ub x1 x2 x4 x6 y jx fM dR x2.snd (↑(List.length x2.snd):Int) 0
else (Ah x2.fst x6).bind λy=>some ((y.fst.fst,y.fst.snd.fst,()),()):=(aK D2 [1,1,1,1,0,1,0] (by kernel_rfl) _).trans (by kernel_rfl)
theorem Ta(x1:Int)(x2:Int×List aa)(x4:Int×List aa)(x6:List aa)(tQ:List aa)(tR:Int)(qU:Int):uc x1 x2 x4 x6 tQ tR qU =
 bif decide (qU<tR)then
 (ab tQ qU).bind λy =>
 (ab y.fst x1).bind λav =>
  bif av==0 then
  bif decide ((x6.length+1)*40<=140737488355328)then
   uc x1 x2 x4 (x6++[y]) tQ tR (IntKind.i64.wrap (qU+1))
  else none
  else uc x1 x2 x4 x6 tQ tR (IntKind.i64.wrap (qU+1))
else o3 x1 x2 x4 x6 x2.snd (↑(List.length x2.snd):Int) 0:=(aK D2 [1,1,1,0,1,0] (by kernel_rfl) _).trans (by kernel_rfl)
theorem ag5(a0:Int×List aa)(a1:Int):uN a0 a1 =
 (kB a0).bind λy =>
 bif !y.fst.fst then some (((0,[]),false,()),())
 else
 bif decide (a1<0)then some (((0,[]),false,()),())
 else
  bif decide (a1>=a0.fst)then some (((0,[]),false,()),())
  else uc a1 a0 (0,[]) [] a0.snd (↑(List.length a0.snd):Int) 0:=(Eq.trans (by kernel_rfl:uN a0 a1=aw xZ (Tryz.f116.body.getD .skip) yj (aS 106 [(aC,Mode.ro),(ah,Mode.ro)] (a0,a1,()))) (all_eq D2 _)).trans (by kernel_rfl)
def NY:Env:=Gw.env C Bt.1 Tryz.f165
def R5:=Gw.out C
def o4(x4:List az)(x5:Int):Option ((List az×Bool×PUnit)×PUnit):=aG NY [1,1,1,1,0,1,0] (Tryz.f165.body.getD .skip) R5 (dd 4 (V.d none (aC.depth+1) (Ty.slice 78 aC) x4::V.d none 0 (Ty.int IntKind.i64) x5::dd 42 ([])))
def HZ(a0:Int×List aa):Option ((List az×Bool×PUnit)×PUnit):=PW.al (a0,())
def aox:List (Nat×List Nat):=[(1000006,[1,1,1,1,0,1,0])]
theorem ZF:okB aox (Tryz.f165.body.getD .skip) []=true:=by kernel_rfl
theorem TW(x4:List az)(x5:Int):o4 x4 x5 =
 bif decide (x5>=0)then
 (ab x4 (IntKind.i64.wrap (x5+1))).bind λy =>
 (ab x4 (IntKind.i64.wrap (x5+1))).bind λy =>
  (ab x4 (IntKind.i64.wrap (x5+1))).bind λy =>
  (uN y x5).bind λy =>
   bif !y.fst.snd.fst then some (([],false,()),())
   else
   (ab x4 x5).bind λav =>
    (ab x4 x5).bind λa6 =>
    (ab x4 x5).bind λbp =>
     (some (x4.set x5.toNat y.fst.fst)).bind λy=>o4 y (IntKind.i64.wrap (x5 - 1))
else some ((x4,true,()),()):=(aK ZF [1,1,1,1,0,1,0] (by kernel_rfl) _).trans (by kernel_rfl)
theorem ail(a0:Int×List aa):HZ a0 =
 (kB a0).bind λy =>
 bif !y.fst.fst then some (([],false,()),())
 else
 bif
  decide (0<=IntKind.i64.wrap (a0.fst+1)) &&
    decide (IntKind.i64.wrap (a0.fst+1)<=IntKind.i64.wrap (a0.fst+1)) &&
   decide (IntKind.i64.wrap (a0.fst+1)*(↑32:Int)<=140737488355328) &&
   decide (IntKind.i64.wrap (a0.fst+1)<=9223372036854775807)then
  (pf a0.fst a0.snd).bind λy =>
  (ab (List.replicate (IntKind.i64.wrap (a0.fst+1)).toNat ((0,[]):az)) a0.fst).bind λav =>
   (ab (List.replicate (IntKind.i64.wrap (a0.fst+1)).toNat ((0,[]):az)) a0.fst).bind λa6 =>
   (ab (List.replicate (IntKind.i64.wrap (a0.fst+1)).toNat ((0,[]):az)) a0.fst).bind λbp =>
    (some ((List.replicate (IntKind.i64.wrap (a0.fst+1)).toNat ((0,[]):az)).set (Int.toNat a0.fst) y.fst.fst)).bind
    λy=>o4 y (IntKind.i64.wrap (a0.fst - 1))
 else none:=(Eq.trans (by kernel_rfl:HZ a0=aw NY (Tryz.f165.body.getD .skip) R5 (aS 48 [(aC,Mode.ro)] (a0,()))) (all_eq ZF _)).trans (by kernel_rfl)
def zM(a0:Int×List aa):Option ((Bool×Bool×PUnit)×PUnit):=O6.al (a0,())
theorem ahc(a0:Int×List aa):zM a0 =
 (HZ a0).bind λy =>
 bif !y.fst.snd.fst then some ((false,false,()),())
 else
 (ab y.fst.fst 0).bind λav =>
  (ab y.fst.fst 0).bind λa6 =>
  (ab y.fst.fst 0).bind λy=>some ((decide ((↑(List.length y.snd):Int)>0),true,()),()):=by kernel_rfl
def H9(a0:Option PUnit)(a1:Int):Option ((List aa×PUnit)×PUnit):=QJ.al (a0,a1,())
theorem ajo(a0:Option PUnit)(a1:Int):H9 a0 a1 =
 bif decide (a1<0)then none
else
 bif decide (IntKind.i64.wrap (a1 - IntKind.i64.wrap (0 - 0))>0)then
 bif
  decide (0<IntKind.i64.wrap (a1 - IntKind.i64.wrap (0 - 0)))&&decide (aM.sz≠0) &&
   decide (IntKind.i64.wrap (a1 - IntKind.i64.wrap (0 - 0))*(↑40:(Ty.int IntKind.i64).den)<=140737488355328) &&
   decide (IntKind.i64.wrap (a1 - IntKind.i64.wrap (0 - 0))<=140737488355328)then
  some (([],()),())
 else none
 else some (([],()),()):=by kernel_rfl
def Fj:Env:=G6.env C Cw.1 Tryz.f143
def FE:=G6.out C
def yV(x0:List (List aa))(x6:List aa)(dB:List (List aa))(bS:Int)(fX:Int):Option ((List aa×PUnit)×PUnit):=aG Fj [1,1,1,1,0,1,0] (Tryz.f143.body.getD .skip) FE (V.d none 0 qP x0::dd 5 (V.d none 1 di x6::dd 18 (V.d none 0 qP dB::V.d none 0 (Ty.int IntKind.i64) bS::V.d none 0 (Ty.int IntKind.i64) fX::dd 8 ([]))))
def yW(x0:List (List aa))(x3:Int)(x9:List (List aa))(aF:Int)(bc:Int):Option ((List aa×PUnit)×PUnit):=aG Fj [1,1,0,1,0] (Tryz.f143.body.getD .skip) FE (V.d none 0 qP x0::dd 2 (V.d none 0 (Ty.int IntKind.i64) x3::dd 5 (V.d none 0 qP x9::V.d none 0 (Ty.int IntKind.i64) aF::V.d none 0 (Ty.int IntKind.i64) bc::dd 24 ([]))))
def vc(a0:List (List aa)):Option ((List aa×PUnit)×PUnit):=QI.al (a0,())
def ao5:List (Nat×List Nat):=[(1000003,[1,1,0,1,0]),(1000011,[1,1,1,1,0,1,0])]
theorem LG:okB ao5 (Tryz.f143.body.getD .skip) []=true:=by kernel_rfl
theorem FY(x0:List (List aa))(x6:List aa)(dB:List (List aa))(bS:Int)(fX:Int):yV x0 x6 dB bS fX =
 bif decide (fX<bS)then
 (ab dB fX).bind λy =>
 bif decide ((x6.length+y.length)*40<=140737488355328)then
  yV x0 (x6++y) dB bS
  (IntKind.i64.wrap (fX+1))
 else none
else some ((x6,()),()):=(aK LG [1,1,1,1,0,1,0] (by kernel_rfl) _).trans (by kernel_rfl)
theorem FZ(x0:List (List aa))(x3:Int)(x9:List (List aa))(aF:Int)(bc:Int):yW x0 x3 x9 aF bc =
 bif decide (bc<aF)then
 (ab x9 bc).bind λy =>
 bif decide (IntKind.i64.wrap (x3+(↑y.length:Int))<0)then none
 else
  yW x0
  (IntKind.i64.wrap (x3+(↑y.length:Int))) x9 aF (IntKind.i64.wrap (bc+1))
else
 (H9 none x3).bind λy =>
 yV x0 y.fst.fst x0 (↑x0.length:Int) 0:=(aK LG [1,1,0,1,0] (by kernel_rfl) _).trans (by kernel_rfl)
theorem ajn(a0:List (List aa)):vc a0 =
 yW a0 0 a0 (↑a0.length:Int) 0:=(Eq.trans (by kernel_rfl:vc a0=aw Fj (Tryz.f143.body.getD .skip) FE (aS 36 [(qP,Mode.ro)] (a0,()))) (all_eq LG _)).trans (by kernel_rfl)
def NK:Env:=Gb.env C Cv.1 Tryz.f166
def RQ:=Gb.out C
def yp(x1:aa)(x2:aa)(x4:aa)(dA:List Int)(fW:Int)(dB:Int):Option ((aa×Bool×PUnit)×PUnit):=aG NK [1,1,1,0,1,0] (Tryz.f166.body.getD .skip) RQ (V.dead::(V.box none 0 aM x1::V.box none aM.depth aM x2::V.dead::(V.box none aM.depth aM x4::dd 18 (V.d none 0 bb dA::V.d none 0 (Ty.int IntKind.i64) fW::V.d none 0 (Ty.int IntKind.i64) dB::dd 12 ([])))))
def zZ(a0:aa):Option ((aa×Bool×PUnit)×PUnit):=Pf.al (a0,())
def aod:List (Nat×List Nat):=[(1000005,[1,1,1,0,1,0])]
theorem Zr:okB aod (Tryz.f166.body.getD .skip) []=true:=by kernel_rfl
theorem Tp(x1:aa)(x2:aa)(x4:aa)(dA:List Int)(fW:Int)(dB:Int):yp x1 x2 x4 dA fW dB =
 bif decide (dB<fW)then
 (ab dA dB).bind λy =>
 (ab x4.fst dB).bind λav =>
  (ab x4.fst dB).bind λa6 =>
  (ab x4.fst dB).bind λbp =>
   (some (List.set x4.fst dB.toNat (IntKind.i64.wrap (0 - y)))).bind λy =>
   yp x1 x2 (y,x4.snd) dA fW (IntKind.i64.wrap (dB+1))
else some ((x4,true,()),()):=(aK Zr [1,1,1,0,1,0] (by kernel_rfl) _).trans (by kernel_rfl)
theorem ahq(a0:aa):zZ a0 =
 (kA a0).bind λy =>
 bif !y.fst.fst then some ((([],0,false),false,()),())
 else
 bif
  decide (0<=(↑(List.length a0.fst):Int)) &&
    decide ((↑(List.length a0.fst):Int)<=(↑(List.length a0.fst):Int)) &&
   decide ((↑(List.length a0.fst):Int)*(↑8:Int)<=140737488355328) &&
   decide ((↑(List.length a0.fst):Int)<=9223372036854775807)then
  yp a0 ([],0,false)
  (List.replicate (List.length a0.fst) (0:Int),IntKind.i64.wrap (0 - a0.snd.fst),!a0.snd.snd) a0.fst
  (↑(List.length a0.fst):Int) 0
 else none:=(Eq.trans (by kernel_rfl:zZ a0=aw NK (Tryz.f166.body.getD .skip) RQ (aS 38 [(aM,Mode.ro)] (a0,()))) (all_eq Zr _)).trans (by kernel_rfl)
def zW(a0:Int×List aa)(a1:Int×List aa):Option ((az×Bool×PUnit)×PUnit):=Pc.al (a0,a1,())
theorem ahl(a0:Int×List aa)(a1:Int×List aa):zW a0 a1 =
 (kB a0).bind λy =>
 bif !y.fst.fst then some (((0,[]),false,()),())
 else
 (kB a1).bind λy =>
  bif !y.fst.fst then some (((0,[]),false,()),())
  else
  bif a0.fst != a1.fst then some (((0,[]),false,()),())
  else
   (vc [a0.snd,a1.snd]).bind λy =>
   (Ah a0.fst y.fst.fst).bind λy=>some ((y.fst.fst,y.fst.snd.fst,()),()):=by kernel_rfl
def HG(a0:Int×List aa)(a1:aa):Option ((Bool×Bool×PUnit)×PUnit):=O2.al (a0,a1,())
theorem ag7(a0:Int×List aa)(a1:aa):HG a0 a1 =
 (zZ a1).bind λy =>
 bif !y.fst.snd.fst then some ((false,false,()),())
 else
 (zW a0 ((↑(List.length y.fst.fst.fst):Int),[y.fst.fst])).bind λy =>
  bif !y.fst.snd.fst then some ((false,false,()),())
  else (zM y.fst.fst).bind λy=>some ((y.fst.fst,y.fst.snd.fst,()),()):=by kernel_rfl
def NI:Env:=F9.env C Bv.1 Tryz.f139
def RO:=F9.out C
def ui(x1:Int×List aa)(x2:Int×List aa)(x4:Int×List aa)(x7:Int):Option ((az×Bool×PUnit)×PUnit):=aG NI [1,1,1,1,1,1,0,1,0] (Tryz.f139.body.getD .skip) RO (V.dead::(V.box none 0 aC x1::V.box none 0 aC x2::V.dead::(V.box none 0 aC x4::dd 2 (V.d none 0 (Ty.int IntKind.i64) x7::dd 60 ([])))))
def zX(a0:Int×List aa):Option ((az×Bool×PUnit)×PUnit):=Pd.al (a0,())
def aob:List (Nat×List Nat):=[(1000010,[1,1,1,1,1,1,0,1,0])]
theorem Zp:okB aob (Tryz.f139.body.getD .skip) []=true:=by kernel_rfl
theorem Tn(x1:Int×List aa)(x2:Int×List aa)(x4:Int×List aa)(x7:Int):ui x1 x2 x4 x7 =
 bif decide (x7<(↑(List.length x4.snd):Int))then
 bif decide (0<=0)&&decide (0<=x7)&&decide (x7<=(↑(List.length x4.snd):Int))then
 bif
  decide (0<=IntKind.i64.wrap (x7+1))&&decide (IntKind.i64.wrap (x7+1)<=(↑(List.length x4.snd):Int)) &&
   decide ((↑(List.length x4.snd):Int)<=(↑(List.length x4.snd):Int))then
  (vc
   [List.drop (Int.toNat 0) (List.take x7.toNat x4.snd),
    List.drop (IntKind.i64.wrap (x7+1)).toNat (List.take (List.length x4.snd) x4.snd)]).bind
  λy =>
  (ab x4.snd x7).bind λav =>
   (HG (x1.fst,y.fst.fst) av).bind λa6 =>
   bif !a6.fst.snd.fst then some (((0,[]),false,()),())
   else
    bif a6.fst.fst then ui x1 x2 (x1.fst,y.fst.fst) x7
    else ui x1 x2 x4 (IntKind.i64.wrap (x7+1))
 else none
 else none
else some ((x4,true,()),()):=(aK Zp [1,1,1,1,1,1,0,1,0] (by kernel_rfl) _).trans (by kernel_rfl)
theorem ahm(a0:Int×List aa):zX a0 =
 (Vy a0).bind λy =>
 bif !y.fst.snd.fst then some (((0,[]),false,()),())
 else
 (zM y.fst.fst).bind λav =>
  bif !av.fst.snd.fst then some (((0,[]),false,()),())
  else
  bif av.fst.fst then (uV a0.fst).bind λy=>some ((y.fst.fst,true,()),())
  else ui a0 (0,[]) y.fst.fst 0:=(Eq.trans (by kernel_rfl:zX a0=aw NI (Tryz.f139.body.getD .skip) RO (aS 68 [(aC,Mode.ro)] (a0,()))) (all_eq Zp _)).trans (by kernel_rfl)
def HR(a0:Int×List aa):Option ((Bool×PUnit)×PUnit):=PJ.al (a0,())
theorem ah2(a0:Int×List aa):HR a0 =
 bif (↑(List.length a0.snd):Int)==1 then
 (ab a0.snd 0).bind λy =>
 (Af y).bind λy =>
  bif !y.fst.fst then
  (ab a0.snd 0).bind λy =>
   bif y.snd.fst==1 then (ab a0.snd 0).bind λy=>some ((!y.snd.snd,()),())else some ((false,()),())
  else some ((false,()),())
else some ((false,()),()):=by kernel_rfl
def o8(a0:List af)(a1:Int×List aa)(a2:List (List Int)):Option ((List af×Bool×PUnit)×PUnit):=Pn.al (a0,a1,a2,())
theorem ahC(a0:List af)(a1:Int×List aa)(a2:List (List Int)):o8 a0 a1 a2 =
 (zX a1).bind λy =>
 bif !y.fst.snd.fst then some (([],false,()),())
 else
 bif decide ((↑a0.length:Int)>=24)then some (([],false,()),())
 else
  (HR y.fst.fst).bind λav =>
  bif av.fst.fst then some ((a0,true,()),())
  else
   bif decide ((a0.length+1)*56<=140737488355328)then some ((a0++[(y.fst.fst,a2)],true,()),())else none:=by kernel_rfl
def Vz(a0:aa):Option ((List af×Bool×PUnit)×PUnit):=Po.al (a0,())
theorem ahD(a0:aa):Vz a0 =
 (rN a0).bind λy =>
 (o8 [] (4,[y.fst.fst]) []).bind λy=>some ((y.fst.fst,y.fst.snd.fst,()),()):=by kernel_rfl
def E9:Env:=Gc.env C BG.1 Tryz.f113
def Fv:=Gc.out C
def uk(x1:List Int)(x2:Int×List aa)(x4:Int×List aa)(x6:Int×List aa)(x8:aa)(x9:List Int)(cP:List aa)(gm:Int)(fL:Int)(xN:List Int)(xP:Int)(qV:Int):Option ((az×Bool×PUnit)×PUnit):=aG E9 [1,1,1,0,1,0,0,1,1,0,0,1,1,0,1,0] (Tryz.f113.body.getD .skip) Fv (V.dead::(V.d none 0 bb x1::V.box none 0 aC x2::V.dead::(V.box none aC.depth aC x4::V.dead::(V.box none aC.depth aC x6::V.dead::(V.box none 0 aM x8::V.d none (ah.depth+1) (Ty.slice 3 ah) x9::dd 18 (V.d none 0 (Ty.slice 66 aM) cP::V.d none 0 (Ty.int IntKind.i64) gm::V.d none 0 (Ty.int IntKind.i64) fL::dd 4 (V.d none 0 bb xN::V.d none 0 (Ty.int IntKind.i64) xP::V.d none 0 (Ty.int IntKind.i64) qV::dd 40 ([]))))))))
def yq(x1:List Int)(x2:Int×List aa)(x4:Int×List aa)(x6:Int×List aa)(cP:List aa)(gm:Int)(fL:Int):Option ((az×Bool×PUnit)×PUnit):=aG E9 [1,1,1,0,1,0] (Tryz.f113.body.getD .skip) Fv (V.dead::(V.d none 0 bb x1::V.box none 0 aC x2::V.dead::(V.box none aC.depth aC x4::V.dead::(V.box none aC.depth aC x6::dd 21 (V.d none 0 (Ty.slice 66 aM) cP::V.d none 0 (Ty.int IntKind.i64) gm::V.d none 0 (Ty.int IntKind.i64) fL::dd 47 ([]))))))
def uQ(a0:Int×List aa)(a1:List Int):Option ((az×Bool×PUnit)×PUnit):=Ph.al (a0,a1,())
def aoe:List (Nat×List Nat):=[(1000005,[1,1,1,0,1,0]),(1000009,[1,1,1,0,1,0,0,1,1,0,0,1,1,0,1,0])]
theorem Lw:okB aoe (Tryz.f113.body.getD .skip) []=true:=by kernel_rfl
theorem Tr(x1:List Int)(x2:Int×List aa)(x4:Int×List aa)(x6:Int×List aa)(x8:aa)(x9:List Int)(cP:List aa)(gm:Int)(fL:Int)(xN:List Int)(xP:Int)(qV:Int):uk x1 x2 x4 x6 x8 x9 cP gm fL xN xP qV =
 bif decide (qV<xP)then
 (ab xN qV).bind λy =>
 (uW y).bind λav =>
  bif !av.fst.fst then some (((0,[]),false,()),())
  else
  (ab x9 y).bind λa6 =>
   (ab x9 y).bind λbp =>
   (ab x8.fst qV).bind λcJ =>
    (ab x9 y).bind λej =>
    (ab x9 y).bind λdS =>
     (ab x9 y).bind λgJ =>
     (some (x9.set y.toNat (IntKind.i64.wrap (bp+cJ)))).bind λy =>
      uk x1 x2 x4 x6 x8 y cP gm fL xN xP (IntKind.i64.wrap (qV+1))
else
 (mC x9 x8.snd.fst x8.snd.snd).bind λy =>
 bif !y.fst.snd.fst then some (((0,[]),false,()),())
 else
  bif decide ((List.length x6.snd+1)*40<=140737488355328)then
  yq x1 x2 x4 (x6.fst,x6.snd++[y.fst.fst]) cP gm (IntKind.i64.wrap (fL+1))
  else none:=(aK Lw [1,1,1,0,1,0,0,1,1,0,0,1,1,0,1,0] (by kernel_rfl) _).trans (by kernel_rfl)
theorem Tq(x1:List Int)(x2:Int×List aa)(x4:Int×List aa)(x6:Int×List aa)(cP:List aa)(gm:Int)(fL:Int):yq x1 x2 x4 x6 cP gm fL =
 bif decide (fL<gm)then
 (ab cP fL).bind λy =>
 uk x1 x2 x4 x6 y (List.replicate (Int.toNat 4) (0:Int)) cP gm fL x1 (↑x1.length:Int) 0
else some ((x6,true,()),()):=(aK Lw [1,1,1,0,1,0] (by kernel_rfl) _).trans (by kernel_rfl)
theorem aht(a0:Int×List aa)(a1:List Int):uQ a0 a1 =
 (kB a0).bind λy =>
 bif !y.fst.fst then some (((0,[]),false,()),())
 else
 bif (↑a1.length:Int) != a0.fst then some (((0,[]),false,()),())
 else yq a1 a0 (0,[]) (4,[]) a0.snd (↑(List.length a0.snd):Int) 0:=(Eq.trans (by kernel_rfl:uQ a0 a1=aw E9 (Tryz.f113.body.getD .skip) Fv (aS 78 [(aC,Mode.ro),(bb,Mode.ro)] (a0,a1,()))) (all_eq Lw _)).trans (by kernel_rfl)
def NZ:Env:=Gx.env C BB.1 Tryz.f79
def R6:=Gx.out C
def rz(x0:List Rel)(x3:Int×aa×ByteArray×ByteArray×List Int×Int×Int×Int)(x6:List af)(x7:Int)(cZ:List Rel)(cn:List Rw)(c7:Int)(dA:Int):Option ((List af×Bool×PUnit)×PUnit):=aG NZ [1,1,0,1,0] (Tryz.f79.body.getD .skip) R6 (V.d none 0 aY x0::dd 2 (V.box none 0 cY x3::dd 2 (V.d none 1 (Ty.slice 81 cU) x6::V.d none 0 ah x7::dd 9 (V.d none 0 aY cZ::dd 3 (V.d none 0 (Ty.slice 105 ko) cn::V.d none 0 (Ty.int IntKind.i64) c7::V.d none 0 (Ty.int IntKind.i64) dA::dd 38 ([]))))))
def H0(a0:List Rel)(a1:Int×aa×ByteArray×ByteArray×List Int×Int×Int×Int):Option ((List af×Bool×PUnit)×PUnit):=PX.al (a0,a1,())
def aoy:List (Nat×List Nat):=[(1000003,[1,1,0,1,0])]
theorem ZG:okB aoy (Tryz.f79.body.getD .skip) []=true:=by kernel_rfl
theorem TX(x0:List Rel)(x3:Int×aa×ByteArray×ByteArray×List Int×Int×Int×Int)(x6:List af)(x7:Int)(cZ:List Rel)(cn:List Rw)(c7:Int)(dA:Int):rz x0 x3 x6 x7 cZ cn c7 dA =
 bif decide (dA<c7)then
 (ab cn dA).bind λy =>
 bif !ByteArray.toList x3.snd.snd.snd.fst==(ByteArray.mk #[]).toList then
  bif !ByteArray.toList y.fst==ByteArray.toList x3.snd.snd.snd.fst then
  rz x0 x3 x6 x7 cZ cn c7 (IntKind.i64.wrap (dA+1))
  else
  (uQ y.snd x3.snd.snd.snd.snd.fst).bind λy =>
   bif !y.fst.snd.fst then some (([],false,()),())
   else
   (o8 x6 y.fst.fst [[x7,dA]]).bind λy =>
    bif !y.fst.snd.fst then some (([],false,()),())
    else rz x0 x3 y.fst.fst x7 cZ cn c7 (IntKind.i64.wrap (dA+1))
 else
  (uQ y.snd x3.snd.snd.snd.snd.fst).bind λy =>
  bif !y.fst.snd.fst then some (([],false,()),())
  else
   (o8 x6 y.fst.fst [[x7,dA]]).bind λy =>
   bif !y.fst.snd.fst then some (([],false,()),())
   else rz x0 x3 y.fst.fst x7 cZ cn c7 (IntKind.i64.wrap (dA+1))
else some ((x6,true,()),()):=(aK ZG [1,1,0,1,0] (by kernel_rfl) _).trans (by kernel_rfl)
theorem aim(a0:List Rel)(a1:Int×aa×ByteArray×ByteArray×List Int×Int×Int×Int):H0 a0 a1 =
 (rL a0 a1.snd.snd.fst).bind λy =>
 (ab a0 y.fst.fst).bind λav =>
 rz a0 a1 [] y.fst.fst a0 av.snd.snd (↑(List.length av.snd.snd):Int) 0:=(Eq.trans (by kernel_rfl:H0 a0 a1=aw NZ (Tryz.f79.body.getD .skip) R6 (aS 62 [(aY,Mode.ro),(cY,Mode.ro)] (a0,a1,()))) (all_eq ZG _)).trans (by kernel_rfl)
def Fc:Env:=Gm.env C BL.1 Tryz.f115
def Fy:=Gm.out C
def ux(x0:List (List (List Int)))(x3:List (List Int))(x5:List (List Int))(x9:List (List (List Int)))(aF:Int)(bc:Int)(x15:List (List Int))(x16:Int)(cZ:Int):Option ((List (List Int)×PUnit)×PUnit):=aG Fc [1,1,0,1,0,0,1,1,0,0,1,1,0] (Tryz.f115.body.getD .skip) Fy (V.d none 0 qO x0::dd 2 (V.d none (bb.depth+1) (Ty.slice 58 bb) x3::V.dead::(V.d none 0 cT x5::dd 3 (V.d none 0 qO x9::V.d none 0 (Ty.int IntKind.i64) aF::V.d none 0 (Ty.int IntKind.i64) bc::dd 3 (V.d none 0 cT x15::V.d none 0 (Ty.int IntKind.i64) x16::V.d none 0 (Ty.int IntKind.i64) cZ::dd 11 ([]))))))
def uv(x0:List (List (List Int)))(x3:List (List Int))(x9:List (List (List Int)))(aF:Int)(bc:Int):Option ((List (List Int)×PUnit)×PUnit):=aG Fc [1,1,0,1,0] (Tryz.f115.body.getD .skip) Fy (V.d none 0 qO x0::dd 2 (V.d none (bb.depth+1) (Ty.slice 58 bb) x3::dd 5 (V.d none 0 qO x9::V.d none 0 (Ty.int IntKind.i64) aF::V.d none 0 (Ty.int IntKind.i64) bc::dd 17 ([]))))
def pd(a0:List (List (List Int))):Option ((List (List Int)×PUnit)×PUnit):=Py.al (a0,())
def aoo:List (Nat×List Nat):=[(1000003,[1,1,0,1,0]),(1000006,[1,1,0,1,0,0,1,1,0,0,1,1,0])]
theorem Lz:okB aoo (Tryz.f115.body.getD .skip) []=true:=by kernel_rfl
theorem yy(x0:List (List (List Int)))(x3:List (List Int))(x5:List (List Int))(x9:List (List (List Int)))(aF:Int)(bc:Int)(x15:List (List Int))(x16:Int)(cZ:Int):ux x0 x3 x5 x9 aF bc x15 x16 cZ =
 bif decide (cZ<x16)then
 (ab x15 cZ).bind λy =>
 (uU y).bind λy =>
  bif decide ((x3.length+1)*24<=140737488355328)then
  ux x0 (x3++[y.fst.fst]) x5 x9 aF bc x15 x16 (IntKind.i64.wrap (cZ+1))
  else none
else uv x0 x3 x9 aF (IntKind.i64.wrap (bc+1)):=(aK Lz [1,1,0,1,0,0,1,1,0,0,1,1,0] (by kernel_rfl) _).trans (by kernel_rfl)
theorem uw(x0:List (List (List Int)))(x3:List (List Int))(x9:List (List (List Int)))(aF:Int)(bc:Int):uv x0 x3 x9 aF bc =
 bif decide (bc<aF)then (ab x9 bc).bind λy=>ux x0 x3 y x9 aF bc y (↑y.length:Int) 0
else some ((x3,()),()):=(aK Lz [1,1,0,1,0] (by kernel_rfl) _).trans (by kernel_rfl)
theorem VG(a0:List (List (List Int))):pd a0 =
 uv a0 [] a0 (↑a0.length:Int) 0:=(Eq.trans (by kernel_rfl:pd a0=aw Fc (Tryz.f115.body.getD .skip) Fy (aS 29 [(qO,Mode.ro)] (a0,()))) (all_eq Lz _)).trans (by kernel_rfl)
def Fa:Env:=Gg.env C BW.1 Tryz.f80
def Fw:=Gg.out C
def yt(x0:List af)(x1:List af)(x6:List af)(x8:az×List (List Int))(x14:List af)(x15:Int)(x16:Int)(fK:List af)(cn:Int)(c7:Int):Option ((List af×Bool×PUnit)×PUnit):=aG Fa [1,1,0,1,0,0,1,1,0,0,1,1,0] (Tryz.f80.body.getD .skip) Fw (V.d none 0 bE x0::V.d none 0 bE x1::dd 4 (V.d none 1 (Ty.slice 81 cU) x6::V.dead::(V.box none 0 cU x8::dd 5 (V.d none 0 bE x14::V.d none 0 (Ty.int IntKind.i64) x15::V.d none 0 (Ty.int IntKind.i64) x16::dd 3 (V.d none 0 bE fK::V.d none 0 (Ty.int IntKind.i64) cn::V.d none 0 (Ty.int IntKind.i64) c7::dd 30 ([]))))))
def uq(x0:List af)(x1:List af)(x6:List af)(x14:List af)(x15:Int)(x16:Int):Option ((List af×Bool×PUnit)×PUnit):=aG Fa [1,1,0,1,0] (Tryz.f80.body.getD .skip) Fw (V.d none 0 bE x0::V.d none 0 bE x1::dd 4 (V.d none 1 (Ty.slice 81 cU) x6::dd 7 (V.d none 0 bE x14::V.d none 0 (Ty.int IntKind.i64) x15::V.d none 0 (Ty.int IntKind.i64) x16::dd 36 ([]))))
def HI(a0:List af)(a1:List af):Option ((List af×Bool×PUnit)×PUnit):=Pp.al (a0,a1,())
def aoi:List (Nat×List Nat):=[(1000003,[1,1,0,1,0]),(1000006,[1,1,0,1,0,0,1,1,0,0,1,1,0])]
theorem Lx:okB aoi (Tryz.f80.body.getD .skip) []=true:=by kernel_rfl
theorem TA(x0:List af)(x1:List af)(x6:List af)(x8:az×List (List Int))(x14:List af)(x15:Int)(x16:Int)(fK:List af)(cn:Int)(c7:Int):yt x0 x1 x6 x8 x14 x15 x16 fK cn c7 =
 bif decide (c7<cn)then
 (ab fK c7).bind λy =>
 (zW x8.fst y.fst).bind λav =>
  bif !av.fst.snd.fst then some (([],false,()),())
  else
  (pd [x8.snd,y.snd]).bind λy =>
   (o8 x6 av.fst.fst y.fst.fst).bind λy =>
   bif !y.fst.snd.fst then some (([],false,()),())
   else yt x0 x1 y.fst.fst x8 x14 x15 x16 fK cn (IntKind.i64.wrap (c7+1))
else uq x0 x1 x6 x14 x15 (IntKind.i64.wrap (x16+1)):=(aK Lx [1,1,0,1,0,0,1,1,0,0,1,1,0] (by kernel_rfl) _).trans (by kernel_rfl)
theorem Tz(x0:List af)(x1:List af)(x6:List af)(x14:List af)(x15:Int)(x16:Int):uq x0 x1 x6 x14 x15 x16 =
 bif decide (x16<x15)then
 (ab x14 x16).bind λy=>yt x0 x1 x6 y x14 x15 x16 x1 (↑x1.length:Int) 0
else some ((x6,true,()),()):=(aK Lx [1,1,0,1,0] (by kernel_rfl) _).trans (by kernel_rfl)
theorem ahE(a0:List af)(a1:List af):HI a0 a1 =
 uq a0 a1 [] a0 (↑a0.length:Int) 0:=(Eq.trans (by kernel_rfl:HI a0 a1=aw Fa (Tryz.f80.body.getD .skip) Fw (aS 53 [(bE,Mode.ro),(bE,Mode.ro)] (a0,a1,()))) (all_eq Lx _)).trans (by kernel_rfl)
def NQ:Env:=Gj.env C BJ.1 Tryz.f117
def RX:=Gj.out C
def rm(x1:Int×List aa)(x2:Int×List aa)(x3:Int×List aa)(x14:List aa)(x15:Int)(x16:Int):Option ((az×PUnit)×PUnit):=aG NQ [1,1,0,1,0] (Tryz.f117.body.getD .skip) RX (V.dead::(V.box none 0 aC x1::V.box none aC.depth aC x2::V.box none aC.depth aC x3::dd 10 (V.d none 0 (Ty.slice 66 aM) x14::V.d none 0 (Ty.int IntKind.i64) x15::V.d none 0 (Ty.int IntKind.i64) x16::dd 12 ([]))))
def rO(a0:Int×List aa):Option ((az×PUnit)×PUnit):=Pt.al (a0,())
def aol:List (Nat×List Nat):=[(1000003,[1,1,0,1,0])]
theorem Zx:okB aol (Tryz.f117.body.getD .skip) []=true:=by kernel_rfl
theorem yw(x1:Int×List aa)(x2:Int×List aa)(x3:Int×List aa)(x14:List aa)(x15:Int)(x16:Int):rm x1 x2 x3 x14 x15 x16 =
 bif decide (x16<x15)then
 (ab x14 x16).bind λy =>
 (rN y).bind λy =>
  bif decide ((List.length x3.snd+1)*40<=140737488355328)then
  rm x1 x2 (x3.fst,x3.snd++[y.fst.fst]) x14 x15 (IntKind.i64.wrap (x16+1))
  else none
else some ((x3,()),()):=(aK Zx [1,1,0,1,0] (by kernel_rfl) _).trans (by kernel_rfl)
theorem VE(a0:Int×List aa):rO a0 =
 bif
 decide (0<=0)&&decide (0<=(↑(List.length a0.snd):Int)) &&
  decide ((↑(List.length a0.snd):Int)*(↑40:Int)<=140737488355328) &&
  decide ((↑(List.length a0.snd):Int)<=9223372036854775807)then
 rm a0 (0,[]) (a0.fst,List.replicate (Int.toNat 0) ([],0,false)) a0.snd (↑(List.length a0.snd):Int) 0
else none:=(Eq.trans (by kernel_rfl:rO a0=aw NQ (Tryz.f117.body.getD .skip) RX (aS 29 [(aC,Mode.ro)] (a0,()))) (all_eq Zx _)).trans (by kernel_rfl)
def HM(a0:az×List (List Int)):Option ((af×PUnit)×PUnit):=PA.al (a0,())
theorem ahR(a0:az×List (List Int)):HM a0 =
 (rO a0.fst).bind λy=>(pd [a0.snd]).bind λav=>some (((y.fst.fst,av.fst.fst),()),()):=by kernel_rfl
def NS:Env:=Gn.env C BN.1 Tryz.f37
def RZ:=Gn.out C
def yA(x0:List af)(x3:List af)(x7:List af)(x8:Int)(x9:Int):Option ((List af×PUnit)×PUnit):=aG NS [1,1,0,1,0] (Tryz.f37.body.getD .skip) RZ (V.d none 0 bE x0::dd 2 (V.d none (cU.depth+1) (Ty.slice 81 cU) x3::dd 3 (V.d none 0 bE x7::V.d none 0 (Ty.int IntKind.i64) x8::V.d none 0 (Ty.int IntKind.i64) x9::dd 10 ([]))))
def pe(a0:List af):Option ((List af×PUnit)×PUnit):=PB.al (a0,())
def aop:List (Nat×List Nat):=[(1000003,[1,1,0,1,0])]
theorem Zz:okB aop (Tryz.f37.body.getD .skip) []=true:=by kernel_rfl
theorem TG(x0:List af)(x3:List af)(x7:List af)(x8:Int)(x9:Int):yA x0 x3 x7 x8 x9 =
 bif decide (x9<x8)then
 (ab x7 x9).bind λy =>
 (HM y).bind λy =>
  bif decide ((x3.length+1)*56<=140737488355328)then
  yA x0 (x3++[y.fst.fst]) x7 x8 (IntKind.i64.wrap (x9+1))
  else none
else some ((x3,()),()):=(aK Zz [1,1,0,1,0] (by kernel_rfl) _).trans (by kernel_rfl)
theorem ahT(a0:List af):pe a0 =
 yA a0 [] a0 (↑a0.length:Int) 0:=(Eq.trans (by kernel_rfl:pe a0=aw NS (Tryz.f37.body.getD .skip) RZ (aS 20 [(bE,Mode.ro)] (a0,()))) (all_eq Zz _)).trans (by kernel_rfl)
def NU:Env:=Gq.env C BH.1 Tryz.f81
def R1:=Gq.out C
def yC(x0:List af)(x1:Int)(x6:List af)(bV:List af)(cd:Int)(x14:Int):Option ((List af×Bool×PUnit)×PUnit):=aG NU [1,1,0,1,0] (Tryz.f81.body.getD .skip) R1 (V.d none 0 bE x0::V.d none 0 ah x1::dd 4 (V.d none 1 (Ty.slice 81 cU) x6::dd 5 (V.d none 0 bE bV::V.d none 0 (Ty.int IntKind.i64) cd::V.d none 0 (Ty.int IntKind.i64) x14::dd 26 ([]))))
def HN(a0:List af)(a1:Int):Option ((List af×Bool×PUnit)×PUnit):=PE.al (a0,a1,())
def aor:List (Nat×List Nat):=[(1000003,[1,1,0,1,0])]
theorem ZB:okB aor (Tryz.f81.body.getD .skip) []=true:=by kernel_rfl
theorem TK(x0:List af)(x1:Int)(x6:List af)(bV:List af)(cd:Int)(x14:Int):yC x0 x1 x6 bV cd x14 =
 bif decide (x14<cd)then
 (ab bV x14).bind λy =>
 (uN y.fst x1).bind λav =>
  bif !av.fst.snd.fst then some (([],false,()),())
  else
  (pd [y.snd]).bind λy =>
   (o8 x6 av.fst.fst y.fst.fst).bind λy =>
   bif !y.fst.snd.fst then some (([],false,()),())
   else yC x0 x1 y.fst.fst bV cd (IntKind.i64.wrap (x14+1))
else some ((x6,true,()),()):=(aK ZB [1,1,0,1,0] (by kernel_rfl) _).trans (by kernel_rfl)
theorem ahW(a0:List af)(a1:Int):HN a0 a1 =
 yC a0 a1 [] a0 (↑a0.length:Int) 0:=(Eq.trans (by kernel_rfl:HN a0 a1=aw NU (Tryz.f81.body.getD .skip) R1 (aS 41 [(bE,Mode.ro),(ah,Mode.ro)] (a0,a1,()))) (all_eq ZB _)).trans (by kernel_rfl)
def Ai(a0:List Rel)(a1:Int×aa×ByteArray×ByteArray×List Int×Int×Int×Int)(a2:List (List af)):Option ((List af×Bool×PUnit) ×
 List (List af)×PUnit):=PT.al (a0,a1,a2,())
theorem aif(a0:List Rel)(a1:Int×aa×ByteArray×ByteArray×List Int×Int×Int×Int)(a2:List (List af)):Ai a0 a1 a2 =
 bif a1.fst==0 then (Vz a1.snd.fst).bind λy=>some ((y.fst.fst,y.fst.snd.fst,()),a2,())
else
 bif a1.fst==1 then (H0 a0 a1).bind λy=>some ((y.fst.fst,y.fst.snd.fst,()),a2,())
 else
 bif a1.fst==3 then
  (ab a2 a1.snd.snd.snd.snd.snd.snd.fst).bind λy =>
  (ab a2 a1.snd.snd.snd.snd.snd.snd.fst).bind λy =>
   (ab a2 a1.snd.snd.snd.snd.snd.snd.snd).bind λav =>
   (ab a2 a1.snd.snd.snd.snd.snd.snd.snd).bind λa6 =>
    (HI y a6).bind λy=>some ((y.fst.fst,y.fst.snd.fst,()),a2,())
 else
  bif a1.fst==4 then
  (ab a2 a1.snd.snd.snd.snd.snd.snd.fst).bind λy =>
   (ab a2 a1.snd.snd.snd.snd.snd.snd.fst).bind λy =>
   (pe y).bind λy =>
    (ab a2 a1.snd.snd.snd.snd.snd.snd.snd).bind λav =>
    (ab a2 a1.snd.snd.snd.snd.snd.snd.snd).bind λa6 =>
     (pe a6).bind λbp =>
     bif decide ((List.length y.fst.fst+List.length bp.fst.fst)*56<=140737488355328)then
      some ((y.fst.fst++bp.fst.fst,decide ((↑(y.fst.fst++bp.fst.fst).length:Int)<=24),()),a2,())
     else none
  else
  (ab a2 a1.snd.snd.snd.snd.snd.snd.fst).bind λy =>
   (ab a2 a1.snd.snd.snd.snd.snd.snd.fst).bind λy =>
   (HN y a1.snd.snd.snd.snd.snd.fst).bind λy=>some ((y.fst.fst,y.fst.snd.fst,()),a2,()):=by kernel_rfl
def NM:Env:=Ge.env C BU.1 Tryz.f11
def RS:=Ge.out C
def yr(x0:List Rel)(x1:List ao)(x6:List (List af))(x16:List ao)(cZ:Int)(jw:Int):Option ((List af×Bool×PUnit)×PUnit):=aG NM [1,1,1,0,1,0] (Tryz.f11.body.getD .skip) RS (V.d none 0 aY x0::V.d none 0 bJ x1::dd 4 (V.d none 1 (Ty.slice 26 bE) x6::dd 9 (V.d none 0 bJ x16::V.d none 0 (Ty.int IntKind.i64) cZ::V.d none 0 (Ty.int IntKind.i64) jw::dd 24 ([]))))
def z7(a0:List Rel)(a1:List ao):Option ((List af×Bool×PUnit)×PUnit):=Pk.al (a0,a1,())
def aog:List (Nat×List Nat):=[(1000005,[1,1,1,0,1,0])]
theorem Zt:okB aog (Tryz.f11.body.getD .skip) []=true:=by kernel_rfl
theorem Tu(x0:List Rel)(x1:List ao)(x6:List (List af))(x16:List ao)(cZ:Int)(jw:Int):yr x0 x1 x6 x16 cZ jw =
 bif decide (jw<cZ)then
 (ab x16 jw).bind λy =>
 (Ai x0 y x6).bind λy =>
  bif !y.fst.snd.fst then some (([],false,()),())
  else
  bif decide ((List.length y.snd.fst+1)*24<=140737488355328)then
   yr x0 x1 (y.snd.fst++[y.fst.fst]) x16 cZ (IntKind.i64.wrap (jw+1))
  else none
else
 (ab x6 (IntKind.i64.wrap ((↑x6.length:Int) - 1))).bind λy =>
 (ab x6 (IntKind.i64.wrap ((↑x6.length:Int) - 1))).bind λy =>
  (pe y).bind λy=>some ((y.fst.fst,true,()),()):=(aK Zt [1,1,1,0,1,0] (by kernel_rfl) _).trans (by kernel_rfl)
theorem ahx(a0:List Rel)(a1:List ao):z7 a0 a1 =
 (uP a0 a1).bind λy =>
 bif !y.fst.fst then some (([],false,()),())else yr a0 a1 [] a1 (↑a1.length:Int) 0:=(Eq.trans (by kernel_rfl:z7 a0 a1=aw NM (Tryz.f11.body.getD .skip) RS (aS 43 [(aY,Mode.ro),(bJ,Mode.ro)] (a0,a1,()))) (all_eq Zt _)).trans (by kernel_rfl)
def Ot:Env:=G8.env C BE.1 Tryz.f87
def Sy:=G8.out C
def yZ(x0:List Int)(x1:List Int)(x5:Int):Option ((Bool×PUnit)×PUnit):=aG Ot [1,1,0,1,0] (Tryz.f87.body.getD .skip) Sy (V.d none 0 bb x0::V.d none 0 bb x1::dd 3 (V.d none 0 (Ty.int IntKind.i64) x5::dd 20 ([])))
def rY(a0:List Int)(a1:List Int):Option ((Bool×PUnit)×PUnit):=QN.al (a0,a1,())
def ao7:List (Nat×List Nat):=[(1000004,[1,1,0,1,0])]
theorem Z7:okB ao7 (Tryz.f87.body.getD .skip) []=true:=by kernel_rfl
theorem US(x0:List Int)(x1:List Int)(x5:Int):yZ x0 x1 x5 =
 bif decide (x5<(↑x0.length:Int))then
 (ab x0 x5).bind λy =>
 (ab x1 x5).bind λav =>
  bif y != av then some ((false,()),())else yZ x0 x1 (IntKind.i64.wrap (x5+1))
else some ((true,()),()):=(aK Z7 [1,1,0,1,0] (by kernel_rfl) _).trans (by kernel_rfl)
theorem ajw(a0:List Int)(a1:List Int):rY a0 a1 =
 bif (↑a0.length:Int) != (↑a1.length:Int)then some ((false,()),())else yZ a0 a1 0:=(Eq.trans (by kernel_rfl:rY a0 a1=aw Ot (Tryz.f87.body.getD .skip) Sy (aS 26 [(bb,Mode.ro),(bb,Mode.ro)] (a0,a1,()))) (all_eq Z7 _)).trans (by kernel_rfl)
def AK(a0:aa)(a1:aa):Option ((Bool×PUnit)×PUnit):=QK.al (a0,a1,())
theorem ajs(a0:aa)(a1:aa):AK a0 a1 =
 (rY a0.fst a1.fst).bind λy =>
 bif !y.fst.fst then some ((false,()),())
 else
 bif a0.snd.fst != a1.snd.fst then some ((false,()),())
 else bif !a0.snd.snd==a1.snd.snd then some ((false,()),())else some ((true,()),()):=by kernel_rfl
def Oq:Env:=G7.env C CA.1 Tryz.f118
def Sx:=G7.out C
def yX(x0:List aa)(x1:List aa)(x5:Int):Option ((Bool×PUnit)×PUnit):=aG Oq [1,1,0,1,0] (Tryz.f118.body.getD .skip) Sx (V.d none 0 di x0::V.d none 0 di x1::dd 3 (V.d none 0 (Ty.int IntKind.i64) x5::dd 21 ([])))
def AL(a0:List aa)(a1:List aa):Option ((Bool×PUnit)×PUnit):=QL.al (a0,a1,())
def ao6:List (Nat×List Nat):=[(1000004,[1,1,0,1,0])]
theorem Z5:okB ao6 (Tryz.f118.body.getD .skip) []=true:=by kernel_rfl
theorem UQ(x0:List aa)(x1:List aa)(x5:Int):yX x0 x1 x5 =
 bif decide (x5<(↑x0.length:Int))then
 (ab x0 x5).bind λy =>
 (ab x1 x5).bind λav =>
  (AK y av).bind λy =>
  bif !y.fst.fst then some ((false,()),())else yX x0 x1 (IntKind.i64.wrap (x5+1))
else some ((true,()),()):=(aK Z5 [1,1,0,1,0] (by kernel_rfl) _).trans (by kernel_rfl)
theorem ajq(a0:List aa)(a1:List aa):AL a0 a1 =
 bif (↑a0.length:Int) != (↑a1.length:Int)then some ((false,()),())else yX a0 a1 0:=(Eq.trans (by kernel_rfl:AL a0 a1=aw Oq (Tryz.f118.body.getD .skip) Sx (aS 27 [(di,Mode.ro),(di,Mode.ro)] (a0,a1,()))) (all_eq Z5 _)).trans (by kernel_rfl)
def AM(a0:Int×List aa)(a1:Int×List aa):Option ((Bool×PUnit)×PUnit):=QM.al (a0,a1,())
theorem ajt(a0:Int×List aa)(a1:Int×List aa):AM a0 a1 =
 bif a0.fst != a1.fst then some ((false,()),())
else (AL a0.snd a1.snd).bind λy=>bif !y.fst.fst then some ((false,()),())else some ((true,()),()):=by kernel_rfl
def Ou:Env:=G9.env C Cy.1 Tryz.f84
def Sz:=G9.out C
def yY(x0:List (List Int))(x1:List (List Int))(x5:Int):Option ((Bool×PUnit)×PUnit):=aG Ou [1,1,0,1,0] (Tryz.f84.body.getD .skip) Sz (V.d none 0 cT x0::V.d none 0 cT x1::dd 3 (V.d none 0 (Ty.int IntKind.i64) x5::dd 21 ([])))
def AN(a0:List (List Int))(a1:List (List Int)):Option ((Bool×PUnit)×PUnit):=QO.al (a0,a1,())
def ao8:List (Nat×List Nat):=[(1000004,[1,1,0,1,0])]
theorem Z6:okB ao8 (Tryz.f84.body.getD .skip) []=true:=by kernel_rfl
theorem UR(x0:List (List Int))(x1:List (List Int))(x5:Int):yY x0 x1 x5 =
 bif decide (x5<(↑x0.length:Int))then
 (ab x0 x5).bind λy =>
 (ab x1 x5).bind λav =>
  (rY y av).bind λy =>
  bif !y.fst.fst then some ((false,()),())else yY x0 x1 (IntKind.i64.wrap (x5+1))
else some ((true,()),()):=(aK Z6 [1,1,0,1,0] (by kernel_rfl) _).trans (by kernel_rfl)
theorem aju(a0:List (List Int))(a1:List (List Int)):AN a0 a1 =
 bif (↑a0.length:Int) != (↑a1.length:Int)then some ((false,()),())else yY a0 a1 0:=(Eq.trans (by kernel_rfl:AN a0 a1=aw Ou (Tryz.f84.body.getD .skip) Sz (aS 27 [(cT,Mode.ro),(cT,Mode.ro)] (a0,a1,()))) (all_eq Z6 _)).trans (by kernel_rfl)
def Ih(a0:az×List (List Int))(a1:az×List (List Int)):Option ((Bool×PUnit)×PUnit):=QV.al (a0,a1,())
theorem ajL(a0:az×List (List Int))(a1:az×List (List Int)):Ih a0 a1 =
 (AM a0.fst a1.fst).bind λy =>
 bif !y.fst.fst then some ((false,()),())
 else (AN a0.snd a1.snd).bind λy=>bif !y.fst.fst then some ((false,()),())else some ((true,()),()):=by kernel_rfl
def Oy:Env:=Hd.env C CE.1 Tryz.f12
def SD:=Hd.out C
def y6(x0:List af)(x1:List af)(x5:Int):Option ((Bool×PUnit)×PUnit):=aG Oy [1,1,0,1,0] (Tryz.f12.body.getD .skip) SD (V.d none 0 bE x0::V.d none 0 bE x1::dd 3 (V.d none 0 (Ty.int IntKind.i64) x5::dd 21 ([])))
def AR(a0:List af)(a1:List af):Option ((Bool×PUnit)×PUnit):=QW.al (a0,a1,())
def apc:List (Nat×List Nat):=[(1000004,[1,1,0,1,0])]
theorem aab:okB apc (Tryz.f12.body.getD .skip) []=true:=by kernel_rfl
theorem UX(x0:List af)(x1:List af)(x5:Int):y6 x0 x1 x5 =
 bif decide (x5<(↑x0.length:Int))then
 (ab x0 x5).bind λy =>
 (ab x1 x5).bind λav =>
  (Ih y av).bind λy =>
  bif !y.fst.fst then some ((false,()),())else y6 x0 x1 (IntKind.i64.wrap (x5+1))
else some ((true,()),()):=(aK aab [1,1,0,1,0] (by kernel_rfl) _).trans (by kernel_rfl)
theorem ajJ(a0:List af)(a1:List af):AR a0 a1 =
 bif (↑a0.length:Int) != (↑a1.length:Int)then some ((false,()),())else y6 a0 a1 0:=(Eq.trans (by kernel_rfl:AR a0 a1=aw Oy (Tryz.f12.body.getD .skip) SD (aS 27 [(bE,Mode.ro),(bE,Mode.ro)] (a0,a1,()))) (all_eq aab _)).trans (by kernel_rfl)
def Ig(a0:ByteArray×Int×List aa)(a1:ByteArray×Int×List aa):Option ((Bool×PUnit)×PUnit):=QT.al (a0,a1,())
theorem ajH(a0:ByteArray×Int×List aa)(a1:ByteArray×Int×List aa):Ig a0 a1 =
 bif !ByteArray.toList a0.fst==ByteArray.toList a1.fst then some ((false,()),())
else (AM a0.snd a1.snd).bind λy=>bif !y.fst.fst then some ((false,()),())else some ((true,()),()):=by kernel_rfl
def Ox:Env:=Hc.env C CD.1 Tryz.f85
def SC:=Hc.out C
def y5(x0:List Rw)(x1:List Rw)(x5:Int):Option ((Bool×PUnit)×PUnit):=aG Ox [1,1,0,1,0] (Tryz.f85.body.getD .skip) SC (V.d none 0 ju x0::V.d none 0 ju x1::dd 3 (V.d none 0 (Ty.int IntKind.i64) x5::dd 21 ([])))
def AQ(a0:List Rw)(a1:List Rw):Option ((Bool×PUnit)×PUnit):=QU.al (a0,a1,())
def apb:List (Nat×List Nat):=[(1000004,[1,1,0,1,0])]
theorem aaa:okB apb (Tryz.f85.body.getD .skip) []=true:=by kernel_rfl
theorem UW(x0:List Rw)(x1:List Rw)(x5:Int):y5 x0 x1 x5 =
 bif decide (x5<(↑x0.length:Int))then
 (ab x0 x5).bind λy =>
 (ab x1 x5).bind λav =>
  (Ig y av).bind λy =>
  bif !y.fst.fst then some ((false,()),())else y5 x0 x1 (IntKind.i64.wrap (x5+1))
else some ((true,()),()):=(aK aaa [1,1,0,1,0] (by kernel_rfl) _).trans (by kernel_rfl)
theorem ajF(a0:List Rw)(a1:List Rw):AQ a0 a1 =
 bif (↑a0.length:Int) != (↑a1.length:Int)then some ((false,()),())else y5 a0 a1 0:=(Eq.trans (by kernel_rfl:AQ a0 a1=aw Ox (Tryz.f85.body.getD .skip) SC (aS 27 [(ju,Mode.ro),(ju,Mode.ro)] (a0,a1,()))) (all_eq aaa _)).trans (by kernel_rfl)
def Ie(a0:ByteArray×Int×List Rw)(a1:ByteArray×Int×List Rw):Option ((Bool×PUnit)×PUnit):=QR.al (a0,a1,())
theorem ajD(a0:ByteArray×Int×List Rw)(a1:ByteArray×Int×List Rw):Ie a0 a1 =
 bif !ByteArray.toList a0.fst==ByteArray.toList a1.fst then some ((false,()),())
else
 bif a0.snd.fst != a1.snd.fst then some ((false,()),())
 else
 (AQ a0.snd.snd a1.snd.snd).bind λy=>bif !y.fst.fst then some ((false,()),())else some ((true,()),()):=by kernel_rfl
def Ow:Env:=Hb.env C CB.1 Tryz.f13
def SB:=Hb.out C
def y4(x0:List Rel)(x1:List Rel)(x5:Int):Option ((Bool×PUnit)×PUnit):=aG Ow [1,1,0,1,0] (Tryz.f13.body.getD .skip) SB (V.d none 0 aY x0::V.d none 0 aY x1::dd 3 (V.d none 0 (Ty.int IntKind.i64) x5::dd 21 ([])))
def AP(a0:List Rel)(a1:List Rel):Option ((Bool×PUnit)×PUnit):=QS.al (a0,a1,())
def apa:List (Nat×List Nat):=[(1000004,[1,1,0,1,0])]
theorem Z9:okB apa (Tryz.f13.body.getD .skip) []=true:=by kernel_rfl
theorem UU(x0:List Rel)(x1:List Rel)(x5:Int):y4 x0 x1 x5 =
 bif decide (x5<(↑x0.length:Int))then
 (ab x0 x5).bind λy =>
 (ab x1 x5).bind λav =>
  (Ie y av).bind λy =>
  bif !y.fst.fst then some ((false,()),())else y4 x0 x1 (IntKind.i64.wrap (x5+1))
else some ((true,()),()):=(aK Z9 [1,1,0,1,0] (by kernel_rfl) _).trans (by kernel_rfl)
theorem ajB(a0:List Rel)(a1:List Rel):AP a0 a1 =
 bif (↑a0.length:Int) != (↑a1.length:Int)then some ((false,()),())else y4 a0 a1 0:=(Eq.trans (by kernel_rfl:AP a0 a1=aw Ow (Tryz.f13.body.getD .skip) SB (aS 27 [(aY,Mode.ro),(aY,Mode.ro)] (a0,a1,()))) (all_eq Z9 _)).trans (by kernel_rfl)
def Ic(a0:Int×aa×ByteArray×ByteArray×List Int×Int×Int×Int)(a1:Int×aa×ByteArray×ByteArray×List Int×Int×Int×Int):Option ((Bool×PUnit)×PUnit):=QP.al (a0,a1,())
theorem ajz(a0:Int×aa×ByteArray×ByteArray×List Int×Int×Int×Int)(a1:Int×aa×ByteArray×ByteArray×List Int×Int×Int×Int):Ic a0 a1 =
 bif a0.fst != a1.fst then some ((false,()),())
else
 (AK a0.snd.fst a1.snd.fst).bind λy =>
 bif !y.fst.fst then some ((false,()),())
 else
  bif !ByteArray.toList a0.snd.snd.fst==ByteArray.toList a1.snd.snd.fst then some ((false,()),())
  else
  bif !ByteArray.toList a0.snd.snd.snd.fst==ByteArray.toList a1.snd.snd.snd.fst then some ((false,()),())
  else
   (rY a0.snd.snd.snd.snd.fst a1.snd.snd.snd.snd.fst).bind λy =>
   bif !y.fst.fst then some ((false,()),())
   else
    bif a0.snd.snd.snd.snd.snd.fst != a1.snd.snd.snd.snd.snd.fst then some ((false,()),())
    else
    bif a0.snd.snd.snd.snd.snd.snd.fst != a1.snd.snd.snd.snd.snd.snd.fst then some ((false,()),())
    else
     bif a0.snd.snd.snd.snd.snd.snd.snd != a1.snd.snd.snd.snd.snd.snd.snd then some ((false,()),())
     else some ((true,()),()):=by kernel_rfl
def Ov:Env:=Ha.env C Cz.1 Tryz.f14
def SA:=Ha.out C
def y3(x0:List ao)(x1:List ao)(x5:Int):Option ((Bool×PUnit)×PUnit):=aG Ov [1,1,0,1,0] (Tryz.f14.body.getD .skip) SA (V.d none 0 bJ x0::V.d none 0 bJ x1::dd 3 (V.d none 0 (Ty.int IntKind.i64) x5::dd 21 ([])))
def AO(a0:List ao)(a1:List ao):Option ((Bool×PUnit)×PUnit):=QQ.al (a0,a1,())
def ao9:List (Nat×List Nat):=[(1000004,[1,1,0,1,0])]
theorem Z8:okB ao9 (Tryz.f14.body.getD .skip) []=true:=by kernel_rfl
theorem UT(x0:List ao)(x1:List ao)(x5:Int):y3 x0 x1 x5 =
 bif decide (x5<(↑x0.length:Int))then
 (ab x0 x5).bind λy =>
 (ab x1 x5).bind λav =>
  (Ic y av).bind λy =>
  bif !y.fst.fst then some ((false,()),())else y3 x0 x1 (IntKind.i64.wrap (x5+1))
else some ((true,()),()):=(aK Z8 [1,1,0,1,0] (by kernel_rfl) _).trans (by kernel_rfl)
theorem ajx(a0:List ao)(a1:List ao):AO a0 a1 =
 bif (↑a0.length:Int) != (↑a1.length:Int)then some ((false,()),())else y3 a0 a1 0:=(Eq.trans (by kernel_rfl:AO a0 a1=aw Ov (Tryz.f14.body.getD .skip) SA (aS 27 [(bJ,Mode.ro),(bJ,Mode.ro)] (a0,a1,()))) (all_eq Z8 _)).trans (by kernel_rfl)
def OL:Env:=Hq.env C CC.1 Tryz.f41
def SR:=Hq.out C
def zl(x0:Int)(x3:ByteArray):Option ((ByteArray×PUnit)×PUnit):=aG OL [1,1,1,0,0] (Tryz.f41.body.getD .skip) SR (V.d none 0 ah x0::dd 2 (V.d none 0 Ty.str x3::dd 16 ([])))
def kC(a0:Int):Option ((ByteArray×PUnit)×PUnit):=Rb.al (a0,())
def apq:List (Nat×List Nat):=[(1000004,[1,1,1,0,0])]
theorem aao:okB apq (Tryz.f41.body.getD .skip) []=true:=by kernel_rfl
theorem Va(x0:Int)(x3:ByteArray):zl x0 x3 =
 bif decide (x0>0)then
 bif decide ((strOf [IntKind.u8.wrap (IntKind.i64.wrap (48+x0.tmod 10))]).size+x3.size<=140737488355328)then
 zl (IntKind.i64.wrap (x0.tdiv 10)) (strOf [IntKind.u8.wrap (IntKind.i64.wrap (48+x0.tmod 10))]++x3)
 else none
else
 bif decide ((ByteArray.mk #[109]).size+x3.size<=140737488355328)then some ((ByteArray.mk #[109]++x3,()),())
 else none:=(aK aao [1,1,1,0,0] (by kernel_rfl) _).trans (by kernel_rfl)
theorem akb(a0:Int):kC a0 =
 bif decide (a0<=0)then some ((ByteArray.mk #[109,48],()),())else zl a0 (ByteArray.mk #[]):=(Eq.trans (by kernel_rfl:kC a0=aw OL (Tryz.f41.body.getD .skip) SR (aS 20 [(ah,Mode.ro)] (a0,()))) (all_eq aao _)).trans (by kernel_rfl)
def OF:Env:=Hk.env C CP.1 Tryz.f43
def SK:=Hk.out C
def zg(x0:List Int)(x1:Int)(x5:Int):Option ((Int×PUnit)×List Int×PUnit):=aG OF [1,0,1,0] (Tryz.f43.body.getD .skip) SK (V.d none 1 bb x0::V.d none 0 ah x1::dd 3 (V.d none 0 (Ty.int IntKind.i64) x5::dd 13 ([])))
def pt(a0:List Int)(a1:Int):Option ((Int×PUnit)×List Int×PUnit):=Q5.al (a0,a1,())
def apj:List (Nat×List Nat):=[(1000002,[1,0,1,0])]
theorem aaj:okB apj (Tryz.f43.body.getD .skip) []=true:=by kernel_rfl
theorem U5(x0:List Int)(x1:Int)(x5:Int):zg x0 x1 x5 =
 bif decide (x5<(↑x0.length:Int))then
 (ab x0 x5).bind λy =>
 (ab x0 x5).bind λy =>
  (ab x0 x5).bind λy =>
  (some (x0.set x5.toNat x1)).bind λy=>zg y (IntKind.i64.wrap (x1+1)) (IntKind.i64.wrap (x5+1))
else some ((x1,()),x0,()):=(aK aaj [1,0,1,0] (by kernel_rfl) _).trans (by kernel_rfl)
theorem aj2(a0:List Int)(a1:Int):pt a0 a1 =
 zg a0 a1 0:=(Eq.trans (by kernel_rfl:pt a0 a1=aw OF (Tryz.f43.body.getD .skip) SK (aS 19 [(bb,Mode.mut 1),(ah,Mode.ro)] (a0,a1,()))) (all_eq aaj _)).trans (by kernel_rfl)
def OE:Env:=Hj.env C CK.1 Tryz.f44
def SJ:=Hj.out C
def ze(x0:List aa)(x1:Int)(x5:Int):Option ((Int×PUnit)×List aa×PUnit):=aG OE [1,0,1,0] (Tryz.f44.body.getD .skip) SJ (V.d none 2 di x0::V.d none 0 ah x1::dd 3 (V.d none 0 (Ty.int IntKind.i64) x5::dd 30 ([])))
def ve(a0:List aa)(a1:Int):Option ((Int×PUnit)×List aa×PUnit):=Q4.al (a0,a1,())
def api:List (Nat×List Nat):=[(1000002,[1,0,1,0])]
theorem aah:okB api (Tryz.f44.body.getD .skip) []=true:=by kernel_rfl
theorem U3(x0:List aa)(x1:Int)(x5:Int):ze x0 x1 x5 =
 bif decide (x5<(↑x0.length:Int))then
 (ab x0 x5).bind λy =>
 (ab x0 x5).bind λy =>
  (ab x0 x5).bind λy =>
  (pt y.fst x1).bind λy =>
   (ab x0 x5).bind λav =>
   (some (x0.set x5.toNat (y.snd.fst,av.snd))).bind λa6 =>
    (ab a6 x5).bind λbp =>
    (ab a6 x5).bind λcJ =>
     (ab a6 x5).bind λej =>
     (some (a6.set x5.toNat (ej.fst,y.fst.fst,ej.snd.snd))).bind λdS =>
      (ab dS x5).bind λgJ =>
      (ab dS x5).bind λgq =>
       (ab dS x5).bind λgr =>
       (some (dS.set x5.toNat (gr.fst,gr.snd.fst,(IntKind.i64.wrap (y.fst.fst+1)).tmod 3==0))).bind
        λfN =>
        ze fN (IntKind.i64.wrap (IntKind.i64.wrap (y.fst.fst+1)+1)) (IntKind.i64.wrap (x5+1))
else some ((x1,()),x0,()):=(aK aah [1,0,1,0] (by kernel_rfl) _).trans (by kernel_rfl)
theorem ajZ(a0:List aa)(a1:Int):ve a0 a1 =
 ze a0 a1 0:=(Eq.trans (by kernel_rfl:ve a0 a1=aw OE (Tryz.f44.body.getD .skip) SJ (aS 36 [(di,Mode.mut 2),(ah,Mode.ro)] (a0,a1,()))) (all_eq aah _)).trans (by kernel_rfl)
def OJ:Env:=Ho.env C CJ.1 Tryz.f42
def SP:=Ho.out C
def zj(x0:List Rw)(x1:Int)(x5:Int):Option ((Int×PUnit)×List Rw×PUnit):=aG OJ [1,0,1,0] (Tryz.f42.body.getD .skip) SP (V.d none 3 ju x0::V.d none 0 ah x1::dd 3 (V.d none 0 (Ty.int IntKind.i64) x5::dd 31 ([])))
def A3(a0:List Rw)(a1:Int):Option ((Int×PUnit)×List Rw×PUnit):=Q9.al (a0,a1,())
def apn:List (Nat×List Nat):=[(1000002,[1,0,1,0])]
theorem aam:okB apn (Tryz.f42.body.getD .skip) []=true:=by kernel_rfl
theorem U8(x0:List Rw)(x1:Int)(x5:Int):zj x0 x1 x5 =
 bif decide (x5<(↑x0.length:Int))then
 (kC x1).bind λy =>
 (ab x0 x5).bind λav =>
  (ab x0 x5).bind λa6 =>
  (ab x0 x5).bind λbp =>
   (some (x0.set x5.toNat (y.fst.fst,bp.snd))).bind λy =>
   (ab y x5).bind λcJ =>
    (ab y x5).bind λej =>
    (ab y x5).bind λdS =>
     (some (y.set x5.toNat (dS.fst,IntKind.i64.wrap (x1+1),dS.snd.snd))).bind λy =>
     (ab y x5).bind λgJ =>
      (ab y x5).bind λgq =>
      (ab y x5).bind λgr =>
       (ve gr.snd.snd (IntKind.i64.wrap (IntKind.i64.wrap (x1+1)+1))).bind λfN =>
       (ab y x5).bind λky =>
        (some (y.set x5.toNat (ky.fst,ky.snd.fst,fN.snd.fst))).bind λy =>
        zj y fN.fst.fst (IntKind.i64.wrap (x5+1))
else some ((x1,()),x0,()):=(aK aam [1,0,1,0] (by kernel_rfl) _).trans (by kernel_rfl)
theorem aj7(a0:List Rw)(a1:Int):A3 a0 a1 =
 zj a0 a1 0:=(Eq.trans (by kernel_rfl:A3 a0 a1=aw OJ (Tryz.f42.body.getD .skip) SP (aS 37 [(ju,Mode.mut 3),(ah,Mode.ro)] (a0,a1,()))) (all_eq aam _)).trans (by kernel_rfl)
def OI:Env:=Hn.env C CO.1 Tryz.f15
def SO:=Hn.out C
def zi(x0:List Rel)(x1:Int)(x5:Int):Option ((Int×PUnit)×List Rel×PUnit):=aG OI [1,0,1,0] (Tryz.f15.body.getD .skip) SO (V.d none 4 aY x0::V.d none 0 ah x1::dd 3 (V.d none 0 (Ty.int IntKind.i64) x5::dd 29 ([])))
def A2(a0:List Rel)(a1:Int):Option ((Int×PUnit)×List Rel×PUnit):=Q8.al (a0,a1,())
def apm:List (Nat×List Nat):=[(1000002,[1,0,1,0])]
theorem aal:okB apm (Tryz.f15.body.getD .skip) []=true:=by kernel_rfl
theorem U7(x0:List Rel)(x1:Int)(x5:Int):zi x0 x1 x5 =
 bif decide (x5<(↑x0.length:Int))then
 (kC x1).bind λy =>
 (ab x0 x5).bind λav =>
  (ab x0 x5).bind λa6 =>
  (ab x0 x5).bind λbp =>
   (some (x0.set x5.toNat (y.fst.fst,bp.snd))).bind λy =>
   (ab y x5).bind λcJ =>
    (ab y x5).bind λej =>
    (ab y x5).bind λdS =>
     (some (y.set x5.toNat (dS.fst,IntKind.i64.wrap (x1+1),dS.snd.snd))).bind λy =>
     (ab y x5).bind λgJ =>
      (ab y x5).bind λgq =>
      (ab y x5).bind λgr =>
       (A3 gr.snd.snd (IntKind.i64.wrap (IntKind.i64.wrap (x1+1)+1))).bind λfN =>
       (ab y x5).bind λky =>
        (some (y.set x5.toNat (ky.fst,ky.snd.fst,fN.snd.fst))).bind λy =>
        zi y fN.fst.fst (IntKind.i64.wrap (x5+1))
else some ((x1,()),x0,()):=(aK aal [1,0,1,0] (by kernel_rfl) _).trans (by kernel_rfl)
theorem aj5(a0:List Rel)(a1:Int):A2 a0 a1 =
 zi a0 a1 0:=(Eq.trans (by kernel_rfl:A2 a0 a1=aw OI (Tryz.f15.body.getD .skip) SO (aS 35 [(aY,Mode.mut 4),(ah,Mode.ro)] (a0,a1,()))) (all_eq aal _)).trans (by kernel_rfl)
def OH:Env:=Hm.env C CN.1 Tryz.f16
def SN:=Hm.out C
def zh(x0:List ao)(x1:Int)(x5:Int):Option ((Int×PUnit)×List ao×PUnit):=aG OH [1,0,1,0] (Tryz.f16.body.getD .skip) SN (V.d none 2 bJ x0::V.d none 0 ah x1::dd 3 (V.d none 0 (Ty.int IntKind.i64) x5::dd 84 ([])))
def A1(a0:List ao)(a1:Int):Option ((Int×PUnit)×List ao×PUnit):=Q7.al (a0,a1,())
def apl:List (Nat×List Nat):=[(1000002,[1,0,1,0])]
theorem aak:okB apl (Tryz.f16.body.getD .skip) []=true:=by kernel_rfl
theorem U6(x0:List ao)(x1:Int)(x5:Int):zh x0 x1 x5 =
 bif decide (x5<(↑x0.length:Int))then
 (ab x0 x5).bind λy =>
 (ab x0 x5).bind λy =>
  (ab x0 x5).bind λy =>
  (some (x0.set x5.toNat (x1,y.snd))).bind λy =>
   (ab y x5).bind λav =>
   (ab y x5).bind λa6 =>
    (ab y x5).bind λbp =>
    (pt bp.snd.fst.fst (IntKind.i64.wrap (x1+1))).bind λcJ =>
     (ab y x5).bind λej =>
     (some (y.set x5.toNat (ej.fst,(cJ.snd.fst,ej.snd.fst.snd),ej.snd.snd))).bind λy =>
      (ab y x5).bind λdS =>
      (ab y x5).bind λgJ =>
       (ab y x5).bind λgq =>
       (some (y.set x5.toNat (gq.fst,(gq.snd.fst.fst,cJ.fst.fst,gq.snd.fst.snd.snd),gq.snd.snd))).bind
        λy =>
        (ab y x5).bind λgr =>
        (ab y x5).bind λfN =>
         (ab y x5).bind λky =>
         (some
           (y.set x5.toNat
           (ky.fst,
            (ky.snd.fst.fst,ky.snd.fst.snd.fst,(IntKind.i64.wrap (cJ.fst.fst+1)).tmod 3==0),
            ky.snd.snd))).bind
          λy =>
          (kC (IntKind.i64.wrap (IntKind.i64.wrap (cJ.fst.fst+1)+1))).bind λNl =>
          (ab y x5).bind λxS =>
           (ab y x5).bind λNn =>
           (ab y x5).bind λxT =>
            (some (y.set x5.toNat (xT.fst,xT.snd.fst,Nl.fst.fst,xT.snd.snd.snd))).bind λy =>
            (kC
              (IntKind.i64.wrap (IntKind.i64.wrap (IntKind.i64.wrap (cJ.fst.fst+1)+1)+1))).bind
             λNo =>
             (ab y x5).bind λNp =>
             (ab y x5).bind λacN =>
              (ab y x5).bind λE4 =>
              (some
                (y.set x5.toNat
                (E4.fst,E4.snd.fst,E4.snd.snd.fst,No.fst.fst,E4.snd.snd.snd.snd))).bind
               λy =>
               (ab y x5).bind λavN =>
               (ab y x5).bind λavO =>
                (ab y x5).bind λau5 =>
                (pt au5.snd.snd.snd.snd.fst
                  (IntKind.i64.wrap
                  (IntKind.i64.wrap (IntKind.i64.wrap (IntKind.i64.wrap (cJ.fst.fst+1)+1)+1) +
                   1))).bind
                 λxU =>
                 (ab y x5).bind λxV =>
                 (some
                   (y.set x5.toNat
                   (xV.fst,xV.snd.fst,xV.snd.snd.fst,xV.snd.snd.snd.fst,xU.snd.fst,
                    xV.snd.snd.snd.snd.snd))).bind
                  λy =>
                  (ab y x5).bind λavP =>
                  (ab y x5).bind λavQ =>
                   (ab y x5).bind λtX =>
                   (some
                     (y.set x5.toNat
                     (tX.fst,tX.snd.fst,tX.snd.snd.fst,tX.snd.snd.snd.fst,
                      tX.snd.snd.snd.snd.fst,xU.fst.fst,tX.snd.snd.snd.snd.snd.snd))).bind
                    λy =>
                    (ab y x5).bind λavR =>
                    (ab y x5).bind λavS =>
                     (ab y x5).bind λqY =>
                     (some
                       (y.set x5.toNat
                       (qY.fst,qY.snd.fst,qY.snd.snd.fst,qY.snd.snd.snd.fst,
                        qY.snd.snd.snd.snd.fst,qY.snd.snd.snd.snd.snd.fst,
                        IntKind.i64.wrap (xU.fst.fst+1),
                        qY.snd.snd.snd.snd.snd.snd.snd))).bind
                      λy =>
                      (ab y x5).bind λavT =>
                      (ab y x5).bind λavU =>
                       (ab y x5).bind λqZ =>
                       (some
                         (y.set x5.toNat
                         (qZ.fst,qZ.snd.fst,qZ.snd.snd.fst,qZ.snd.snd.snd.fst,
                          qZ.snd.snd.snd.snd.fst,qZ.snd.snd.snd.snd.snd.fst,
                          qZ.snd.snd.snd.snd.snd.snd.fst,
                          IntKind.i64.wrap (IntKind.i64.wrap (xU.fst.fst+1)+1)))).bind
                        λy =>
                        zh y
                        (IntKind.i64.wrap
                         (IntKind.i64.wrap (IntKind.i64.wrap (xU.fst.fst+1)+1)+1))
                        (IntKind.i64.wrap (x5+1))
else some ((x1,()),x0,()):=(aK aak [1,0,1,0] (by kernel_rfl) _).trans (by kernel_rfl)
theorem aj3(a0:List ao)(a1:Int):A1 a0 a1 =
 zh a0 a1 0:=(Eq.trans (by kernel_rfl:A1 a0 a1=aw OH (Tryz.f16.body.getD .skip) SN (aS 90 [(bJ,Mode.mut 2),(ah,Mode.ro)] (a0,a1,()))) (all_eq aak _)).trans (by kernel_rfl)
def OG:Env:=Hl.env C CM.1 Tryz.f45
def SM:=Hl.out C
def zf(x0:List (List Int))(x1:Int)(x5:Int):Option ((Int×PUnit)×List (List Int)×PUnit):=aG OG [1,0,1,0] (Tryz.f45.body.getD .skip) SM (V.d none 2 cT x0::V.d none 0 ah x1::dd 3 (V.d none 0 (Ty.int IntKind.i64) x5::dd 13 ([])))
def AY(a0:List (List Int))(a1:Int):Option ((Int×PUnit)×List (List Int)×PUnit):=Q6.al (a0,a1,())
def apk:List (Nat×List Nat):=[(1000002,[1,0,1,0])]
theorem aai:okB apk (Tryz.f45.body.getD .skip) []=true:=by kernel_rfl
theorem U4(x0:List (List Int))(x1:Int)(x5:Int):zf x0 x1 x5 =
 bif decide (x5<(↑x0.length:Int))then
 (ab x0 x5).bind λy =>
 (ab x0 x5).bind λy =>
  (ab x0 x5).bind λy =>
  (pt y x1).bind λy =>
   (ab x0 x5).bind λav =>
   (some (x0.set x5.toNat y.snd.fst)).bind λa6=>zf a6 y.fst.fst (IntKind.i64.wrap (x5+1))
else some ((x1,()),x0,()):=(aK aai [1,0,1,0] (by kernel_rfl) _).trans (by kernel_rfl)
theorem aj0(a0:List (List Int))(a1:Int):AY a0 a1 =
 zf a0 a1 0:=(Eq.trans (by kernel_rfl:AY a0 a1=aw OG (Tryz.f45.body.getD .skip) SM (aS 19 [(cT,Mode.mut 2),(ah,Mode.ro)] (a0,a1,()))) (all_eq aai _)).trans (by kernel_rfl)
def OK:Env:=Hp.env C CL.1 Tryz.f17
def SQ:=Hp.out C
def zk(x0:List af)(x1:Int)(x5:Int):Option ((Int×PUnit)×List af×PUnit):=aG OK [1,0,1,0] (Tryz.f17.body.getD .skip) SQ (V.d none 3 bE x0::V.d none 0 ah x1::dd 3 (V.d none 0 (Ty.int IntKind.i64) x5::dd 30 ([])))
def A4(a0:List af)(a1:Int):Option ((Int×PUnit)×List af×PUnit):=Ra.al (a0,a1,())
def apo:List (Nat×List Nat):=[(1000002,[1,0,1,0])]
theorem aan:okB apo (Tryz.f17.body.getD .skip) []=true:=by kernel_rfl
theorem U9(x0:List af)(x1:Int)(x5:Int):zk x0 x1 x5 =
 bif decide (x5<(↑x0.length:Int))then
 (ab x0 x5).bind λy =>
 (ab x0 x5).bind λy =>
  (ab x0 x5).bind λy =>
  (some (x0.set x5.toNat ((x1,y.fst.snd),y.snd))).bind λy =>
   (ab y x5).bind λav =>
   (ab y x5).bind λa6 =>
    (ab y x5).bind λbp =>
    (ve bp.fst.snd (IntKind.i64.wrap (x1+1))).bind λcJ =>
     (ab y x5).bind λej =>
     (some (y.set x5.toNat ((ej.fst.fst,cJ.snd.fst),ej.snd))).bind λy =>
      (ab y x5).bind λdS =>
      (ab y x5).bind λgJ =>
       (ab y x5).bind λgq =>
       (AY gq.snd cJ.fst.fst).bind λgr =>
        (ab y x5).bind λfN =>
        (some (y.set x5.toNat (fN.fst,gr.snd.fst))).bind λy =>
         zk y gr.fst.fst (IntKind.i64.wrap (x5+1))
else some ((x1,()),x0,()):=(aK aan [1,0,1,0] (by kernel_rfl) _).trans (by kernel_rfl)
theorem aj9(a0:List af)(a1:Int):A4 a0 a1 =
 zk a0 a1 0:=(Eq.trans (by kernel_rfl:A4 a0 a1=aw OK (Tryz.f17.body.getD .skip) SQ (aS 36 [(bE,Mode.mut 3),(ah,Mode.ro)] (a0,a1,()))) (all_eq aan _)).trans (by kernel_rfl)
def OA:Env:=Hf.env C CQ.1 Tryz.f88
def SF:=Hf.out C
def za(x0:List Int)(x1:Int)(x5:Int):Option ((Int×PUnit)×PUnit):=aG OA [1,0,1,0] (Tryz.f88.body.getD .skip) SF (V.d none 0 bb x0::V.d none 0 ah x1::dd 3 (V.d none 0 (Ty.int IntKind.i64) x5::dd 15 ([])))
def pr(a0:List Int)(a1:Int):Option ((Int×PUnit)×PUnit):=QZ.al (a0,a1,())
def ape:List (Nat×List Nat):=[(1000002,[1,0,1,0])]
theorem aae:okB ape (Tryz.f88.body.getD .skip) []=true:=by kernel_rfl
theorem U0(x0:List Int)(x1:Int)(x5:Int):za x0 x1 x5 =
 bif decide (x5<(↑x0.length:Int))then
 (ab x0 x5).bind λy =>
 bif y != x1 then some ((-1,()),())else za x0 (IntKind.i64.wrap (x1+1)) (IntKind.i64.wrap (x5+1))
else some ((x1,()),()):=(aK aae [1,0,1,0] (by kernel_rfl) _).trans (by kernel_rfl)
theorem ajS(a0:List Int)(a1:Int):pr a0 a1 =
 za a0 a1 0:=(Eq.trans (by kernel_rfl:pr a0 a1=aw OA (Tryz.f88.body.getD .skip) SF (aS 21 [(bb,Mode.ro),(ah,Mode.ro)] (a0,a1,()))) (all_eq aae _)).trans (by kernel_rfl)
def Oz:Env:=He.env C CI.1 Tryz.f46
def SE:=He.out C
def y7(x0:List aa)(x1:Int)(x5:Int):Option ((Int×PUnit)×PUnit):=aG Oz [1,0,1,0] (Tryz.f46.body.getD .skip) SE (V.d none 0 di x0::V.d none 0 ah x1::dd 3 (V.d none 0 (Ty.int IntKind.i64) x5::dd 36 ([])))
def AS(a0:List aa)(a1:Int):Option ((Int×PUnit)×PUnit):=QY.al (a0,a1,())
def apd:List (Nat×List Nat):=[(1000002,[1,0,1,0])]
theorem aac:okB apd (Tryz.f46.body.getD .skip) []=true:=by kernel_rfl
theorem UY(x0:List aa)(x1:Int)(x5:Int):y7 x0 x1 x5 =
 bif decide (x5<(↑x0.length:Int))then
 (ab x0 x5).bind λy =>
 (pr y.fst x1).bind λy =>
  bif decide (y.fst.fst<0)then some ((-1,()),())
  else
  (ab x0 x5).bind λav =>
   bif av.snd.fst != y.fst.fst then some ((-1,()),())
   else
   (ab x0 x5).bind λa6 =>
    bif !a6.snd.snd==((IntKind.i64.wrap (y.fst.fst+1)).tmod 3==0)then some ((-1,()),())
    else y7 x0 (IntKind.i64.wrap (IntKind.i64.wrap (y.fst.fst+1)+1)) (IntKind.i64.wrap (x5+1))
else some ((x1,()),()):=(aK aac [1,0,1,0] (by kernel_rfl) _).trans (by kernel_rfl)
theorem ajO(a0:List aa)(a1:Int):AS a0 a1 =
 y7 a0 a1 0:=(Eq.trans (by kernel_rfl:AS a0 a1=aw Oz (Tryz.f46.body.getD .skip) SE (aS 42 [(di,Mode.ro),(ah,Mode.ro)] (a0,a1,()))) (all_eq aac _)).trans (by kernel_rfl)
def OB:Env:=Hg.env C CF.1 Tryz.f47
def SG:=Hg.out C
def y8(x0:List (List Int))(x1:Int)(x5:Int):Option ((Int×PUnit)×PUnit):=aG OB [1,0,1,0] (Tryz.f47.body.getD .skip) SG (V.d none 0 cT x0::V.d none 0 ah x1::dd 3 (V.d none 0 (Ty.int IntKind.i64) x5::dd 15 ([])))
def AT(a0:List (List Int))(a1:Int):Option ((Int×PUnit)×PUnit):=Q0.al (a0,a1,())
def apf:List (Nat×List Nat):=[(1000002,[1,0,1,0])]
theorem aad:okB apf (Tryz.f47.body.getD .skip) []=true:=by kernel_rfl
theorem UZ(x0:List (List Int))(x1:Int)(x5:Int):y8 x0 x1 x5 =
 bif decide (x5<(↑x0.length:Int))then
 (ab x0 x5).bind λy =>
 (pr y x1).bind λy =>
  bif decide (y.fst.fst<0)then some ((-1,()),())else y8 x0 y.fst.fst (IntKind.i64.wrap (x5+1))
else some ((x1,()),()):=(aK aad [1,0,1,0] (by kernel_rfl) _).trans (by kernel_rfl)
theorem ajQ(a0:List (List Int))(a1:Int):AT a0 a1 =
 y8 a0 a1 0:=(Eq.trans (by kernel_rfl:AT a0 a1=aw OB (Tryz.f47.body.getD .skip) SG (aS 21 [(cT,Mode.ro),(ah,Mode.ro)] (a0,a1,()))) (all_eq aad _)).trans (by kernel_rfl)
def OD:Env:=Hi.env C CH.1 Tryz.f18
def SI:=Hi.out C
def zc(x0:List af)(x1:Int)(x5:Int):Option ((Int×PUnit)×PUnit):=aG OD [1,0,1,0] (Tryz.f18.body.getD .skip) SI (V.d none 0 bE x0::V.d none 0 ah x1::dd 3 (V.d none 0 (Ty.int IntKind.i64) x5::dd 36 ([])))
def AW(a0:List af)(a1:Int):Option ((Int×PUnit)×PUnit):=Q2.al (a0,a1,())
def aph:List (Nat×List Nat):=[(1000002,[1,0,1,0])]
theorem aag:okB aph (Tryz.f18.body.getD .skip) []=true:=by kernel_rfl
theorem U2(x0:List af)(x1:Int)(x5:Int):zc x0 x1 x5 =
 bif decide (x5<(↑x0.length:Int))then
 (ab x0 x5).bind λy =>
 bif y.fst.fst != x1 then some ((-1,()),())
 else
  (ab x0 x5).bind λy =>
  (AS y.fst.snd (IntKind.i64.wrap (x1+1))).bind λy =>
   bif decide (y.fst.fst<0)then some ((-1,()),())
   else
   (ab x0 x5).bind λav =>
    (AT av.snd y.fst.fst).bind λy =>
    bif decide (y.fst.fst<0)then some ((-1,()),())
    else zc x0 y.fst.fst (IntKind.i64.wrap (x5+1))
else some ((x1,()),()):=(aK aag [1,0,1,0] (by kernel_rfl) _).trans (by kernel_rfl)
theorem ajV(a0:List af)(a1:Int):AW a0 a1 =
 zc a0 a1 0:=(Eq.trans (by kernel_rfl:AW a0 a1=aw OD (Tryz.f18.body.getD .skip) SI (aS 42 [(bE,Mode.ro),(ah,Mode.ro)] (a0,a1,()))) (all_eq aag _)).trans (by kernel_rfl)
def Ol:Env:=G1.env C B6.1 Tryz.f48
def Ss:=G1.out C
def mz(x0:List ao)(x1:List ao)(x5:Int)(x6:Int):Option ((List ao×PUnit)×PUnit):=aG Ol [1,1,0,1,0] (Tryz.f48.body.getD .skip) Ss (V.d none 2 bJ x0::V.d none 0 bJ x1::dd 3 (V.d none 0 (Ty.int IntKind.i64) x5::V.d none 0 (Ty.int IntKind.i64) x6::dd 54 ([])))
def AG(a0:List ao)(a1:List ao):Option ((List ao×PUnit)×PUnit):=QC.al (a0,a1,())
def ao0:List (Nat×List Nat):=[(1000003,[1,1,0,1,0])]
theorem Z1:okB ao0 (Tryz.f48.body.getD .skip) []=true:=by kernel_rfl
theorem UI(x0:List ao)(x1:List ao)(x5:Int)(x6:Int):mz x0 x1 x5 x6 =
 bif decide (x6<(↑x1.length:Int))then
 (ab x1 x6).bind λy =>
 (ab x1 x6).bind λav =>
  (va av.snd.fst).bind λa6 =>
  (ab x1 x6).bind λbp =>
   bif decide ((0+List.length bp.snd.snd.snd.snd.fst)*8<=140737488355328)then
   bif decide (y.fst>1)then
    bif y.fst==3 then
    bif decide ((x0.length+1)*128<=140737488355328)then
     mz
     (x0 ++
      [(y.fst,a6.fst.fst,y.snd.snd.fst,y.snd.snd.snd.fst,bp.snd.snd.snd.snd.fst,y.snd.snd.snd.snd.snd.fst,
       IntKind.i64.wrap (y.snd.snd.snd.snd.snd.snd.fst+x5),
       IntKind.i64.wrap (y.snd.snd.snd.snd.snd.snd.snd+x5))])
     x1 x5 (IntKind.i64.wrap (x6+1))
    else none
    else
    bif y.fst==4 then
     bif decide ((x0.length+1)*128<=140737488355328)then
     mz
      (x0 ++
      [(y.fst,a6.fst.fst,y.snd.snd.fst,y.snd.snd.snd.fst,bp.snd.snd.snd.snd.fst,y.snd.snd.snd.snd.snd.fst,
       IntKind.i64.wrap (y.snd.snd.snd.snd.snd.snd.fst+x5),
       IntKind.i64.wrap (y.snd.snd.snd.snd.snd.snd.snd+x5))])
      x1 x5 (IntKind.i64.wrap (x6+1))
     else none
    else
     bif decide ((x0.length+1)*128<=140737488355328)then
     mz
      (x0 ++
      [(y.fst,a6.fst.fst,y.snd.snd.fst,y.snd.snd.snd.fst,bp.snd.snd.snd.snd.fst,y.snd.snd.snd.snd.snd.fst,
       IntKind.i64.wrap (y.snd.snd.snd.snd.snd.snd.fst+x5),y.snd.snd.snd.snd.snd.snd.snd)])
      x1 x5 (IntKind.i64.wrap (x6+1))
     else none
   else
    bif y.fst==3 then
    bif decide ((x0.length+1)*128<=140737488355328)then
     mz
     (x0 ++
      [(y.fst,a6.fst.fst,y.snd.snd.fst,y.snd.snd.snd.fst,bp.snd.snd.snd.snd.fst,y.snd.snd.snd.snd.snd.fst,
       y.snd.snd.snd.snd.snd.snd.fst,IntKind.i64.wrap (y.snd.snd.snd.snd.snd.snd.snd+x5))])
     x1 x5 (IntKind.i64.wrap (x6+1))
    else none
    else
    bif y.fst==4 then
     bif decide ((x0.length+1)*128<=140737488355328)then
     mz
      (x0 ++
      [(y.fst,a6.fst.fst,y.snd.snd.fst,y.snd.snd.snd.fst,bp.snd.snd.snd.snd.fst,y.snd.snd.snd.snd.snd.fst,
       y.snd.snd.snd.snd.snd.snd.fst,IntKind.i64.wrap (y.snd.snd.snd.snd.snd.snd.snd+x5))])
      x1 x5 (IntKind.i64.wrap (x6+1))
     else none
    else
     bif decide ((x0.length+1)*128<=140737488355328)then
     mz
      (x0 ++
      [(y.fst,a6.fst.fst,y.snd.snd.fst,y.snd.snd.snd.fst,bp.snd.snd.snd.snd.fst,y.snd.snd.snd.snd.snd)])
      x1 x5 (IntKind.i64.wrap (x6+1))
     else none
   else none
else some ((x0,()),()):=(aK Z1 [1,1,0,1,0] (by kernel_rfl) _).trans (by kernel_rfl)
theorem ajc(a0:List ao)(a1:List ao):AG a0 a1 =
 mz a0 a1 (↑a0.length:Int) 0:=(Eq.trans (by kernel_rfl:AG a0 a1=aw Ol (Tryz.f48.body.getD .skip) Ss (aS 61 [(bJ,Mode.bU 2),(bJ,Mode.ro)] (a0,a1,()))) (all_eq Z1 _)).trans (by kernel_rfl)
def HJ(a0:Int×aa×ByteArray×ByteArray×List Int×Int×Int×Int):Option ((ao×PUnit)×PUnit):=Pv.al (a0,())
theorem ahK(a0:Int×aa×ByteArray×ByteArray×List Int×Int×Int×Int):HJ a0 =
 (rN a0.snd.fst).bind λy =>
 (uU a0.snd.snd.snd.snd.fst).bind λav =>
 some (((a0.fst,y.fst.fst,a0.snd.snd.fst,a0.snd.snd.snd.fst,av.fst.fst,a0.snd.snd.snd.snd.snd),()),()):=by kernel_rfl
def NR:Env:=Gl.env C BK.1 Tryz.f49
def RY:=Gl.out C
def yx(x0:List ao)(x3:List ao)(x9:List ao)(aF:Int)(bc:Int):Option ((List ao×PUnit)×PUnit):=aG NR [1,1,0,1,0] (Tryz.f49.body.getD .skip) RY (V.d none 0 bJ x0::dd 2 (V.d none (cY.depth+1) (Ty.slice 68 cY) x3::dd 5 (V.d none 0 bJ x9::V.d none 0 (Ty.int IntKind.i64) aF::V.d none 0 (Ty.int IntKind.i64) bc::dd 10 ([]))))
def Ab(a0:List ao):Option ((List ao×PUnit)×PUnit):=Pw.al (a0,())
def aon:List (Nat×List Nat):=[(1000003,[1,1,0,1,0])]
theorem Zy:okB aon (Tryz.f49.body.getD .skip) []=true:=by kernel_rfl
theorem TF(x0:List ao)(x3:List ao)(x9:List ao)(aF:Int)(bc:Int):yx x0 x3 x9 aF bc =
 bif decide (bc<aF)then
 (ab x9 bc).bind λy =>
 (HJ y).bind λy =>
  bif decide ((x3.length+1)*128<=140737488355328)then
  yx x0 (x3++[y.fst.fst]) x9 aF (IntKind.i64.wrap (bc+1))
  else none
else some ((x3,()),()):=(aK Zy [1,1,0,1,0] (by kernel_rfl) _).trans (by kernel_rfl)
theorem ahM(a0:List ao):Ab a0 =
 bif
 decide (0<=0)&&decide (0<=(↑a0.length:Int))&&decide ((↑a0.length:Int)*(↑128:Int)<=140737488355328) &&
  decide ((↑a0.length:Int)<=9223372036854775807)then
 yx a0 (List.replicate (Int.toNat 0) (0,([],0,false),ByteArray.empty,ByteArray.empty,[],0,0,0)) a0
 (↑a0.length:Int) 0
else none:=(Eq.trans (by kernel_rfl:Ab a0=aw NR (Tryz.f49.body.getD .skip) RY (aS 22 [(bJ,Mode.ro)] (a0,()))) (all_eq Zy _)).trans (by kernel_rfl)
def rZ(a0:a8)(a1:a8):Option ((Bool×PUnit)×PUnit):=QX.al (a0,a1,())
theorem ajN(a0:a8)(a1:a8):rZ a0 a1 =
 (AO a0.fst a1.fst).bind λy =>
 bif !y.fst.fst then some ((false,()),())
 else (AR a0.snd a1.snd).bind λy=>bif !y.fst.fst then some ((false,()),())else some ((true,()),()):=by kernel_rfl
def A5(a0:a8)(a1:Int):Option ((Int×PUnit) ×
 a8 ×
 PUnit):=Rc.al (a0,a1,())
theorem akc(a0:a8)(a1:Int):A5 a0 a1 =
 (A1 a0.fst a1).bind λy =>
 (A4 a0.snd y.fst.fst).bind λav=>some ((av.fst.fst,()),(y.snd.fst,av.snd.fst),()):=by kernel_rfl
def OC:Env:=Hh.env C CG.1 Tryz.f50
def SH:=Hh.out C
def zb(x0:List ao)(x1:Int)(x5:Int):Option ((Int×PUnit)×PUnit):=aG OC [1,0,1,0] (Tryz.f50.body.getD .skip) SH (V.d none 0 bJ x0::V.d none 0 ah x1::dd 3 (V.d none 0 (Ty.int IntKind.i64) x5::dd 104 ([])))
def AV(a0:List ao)(a1:Int):Option ((Int×PUnit)×PUnit):=Q1.al (a0,a1,())
def apg:List (Nat×List Nat):=[(1000002,[1,0,1,0])]
theorem aaf:okB apg (Tryz.f50.body.getD .skip) []=true:=by kernel_rfl
theorem U1(x0:List ao)(x1:Int)(x5:Int):zb x0 x1 x5 =
 bif decide (x5<(↑x0.length:Int))then
 (ab x0 x5).bind λy =>
 bif y.fst != x1 then some ((-1,()),())
 else
  (ab x0 x5).bind λy =>
  (pr y.snd.fst.fst (IntKind.i64.wrap (x1+1))).bind λy =>
   bif decide (y.fst.fst<0)then some ((-1,()),())
   else
   (ab x0 x5).bind λav =>
    bif av.snd.fst.snd.fst != y.fst.fst then some ((-1,()),())
    else
    (ab x0 x5).bind λa6 =>
     bif !a6.snd.fst.snd.snd==((IntKind.i64.wrap (y.fst.fst+1)).tmod 3==0)then some ((-1,()),())
     else
     (ab x0 x5).bind λbp =>
      (kC (IntKind.i64.wrap (IntKind.i64.wrap (y.fst.fst+1)+1))).bind λcJ =>
      bif !ByteArray.toList bp.snd.snd.fst==ByteArray.toList cJ.fst.fst then some ((-1,()),())
      else
       (ab x0 x5).bind λej =>
       (kC (IntKind.i64.wrap (IntKind.i64.wrap (IntKind.i64.wrap (y.fst.fst+1)+1)+1))).bind
        λdS =>
        bif !ByteArray.toList ej.snd.snd.snd.fst==ByteArray.toList dS.fst.fst then some ((-1,()),())
        else
        (ab x0 x5).bind λgJ =>
         (pr gJ.snd.snd.snd.snd.fst
          (IntKind.i64.wrap
           (IntKind.i64.wrap (IntKind.i64.wrap (IntKind.i64.wrap (y.fst.fst+1)+1)+1)+1))).bind
         λy =>
         bif decide (y.fst.fst<0)then some ((-1,()),())
         else
          (ab x0 x5).bind λgq =>
          bif gq.snd.snd.snd.snd.snd.fst != y.fst.fst then some ((-1,()),())
          else
           (ab x0 x5).bind λgr =>
           bif gr.snd.snd.snd.snd.snd.snd.fst != IntKind.i64.wrap (y.fst.fst+1)then some ((-1,()),())
           else
            (ab x0 x5).bind λfN =>
            bif
             fN.snd.snd.snd.snd.snd.snd.snd !=
              IntKind.i64.wrap (IntKind.i64.wrap (y.fst.fst+1)+1)then
             some ((-1,()),())
            else
             zb x0
             (IntKind.i64.wrap (IntKind.i64.wrap (IntKind.i64.wrap (y.fst.fst+1)+1)+1))
             (IntKind.i64.wrap (x5+1))
else some ((x1,()),()):=(aK aaf [1,0,1,0] (by kernel_rfl) _).trans (by kernel_rfl)
theorem ajT(a0:List ao)(a1:Int):AV a0 a1 =
 zb a0 a1 0:=(Eq.trans (by kernel_rfl:AV a0 a1=aw OC (Tryz.f50.body.getD .skip) SH (aS 110 [(bJ,Mode.ro),(ah,Mode.ro)] (a0,a1,()))) (all_eq aaf _)).trans (by kernel_rfl)
def AX(a0:a8)(a1:Int):Option ((Int×PUnit)×PUnit):=Q3.al (a0,a1,())
theorem ajX(a0:a8)(a1:Int):AX a0 a1 =
 (AV a0.fst a1).bind λy =>
 bif decide (y.fst.fst<0)then some ((-1,()),())
 else
 (AW a0.snd y.fst.fst).bind λy =>
  bif decide (y.fst.fst<0)then some ((-1,()),())else some ((y.fst.fst,()),()):=by kernel_rfl
def ON:Env:=Hs.env C CT.1 Tryz.f122
def SU:=Hs.out C
def zn(x0:List (List Int))(x1:Int)(x5:Int):Option ((Int×PUnit)×PUnit):=aG ON [1,1,1,0,1,0] (Tryz.f122.body.getD .skip) SU (V.d none 0 cT x0::V.d none 0 (Ty.int IntKind.i64) x1::dd 3 (V.d none 0 (Ty.int IntKind.i64) x5::dd 21 ([])))
def A8(a0:List (List Int))(a1:Int):Option ((Int×PUnit)×PUnit):=Ri.al (a0,a1,())
def aps:List (Nat×List Nat):=[(1000005,[1,1,1,0,1,0])]
theorem aaq:okB aps (Tryz.f122.body.getD .skip) []=true:=by kernel_rfl
theorem Vd(x0:List (List Int))(x1:Int)(x5:Int):zn x0 x1 x5 =
 bif decide (x5<(↑x0.length:Int))then
 (ab x0 x5).bind λy =>
 (r4 y x1).bind λy =>
  bif decide (y.fst.fst<0)then some ((-1,()),())else zn x0 y.fst.fst (IntKind.i64.wrap (x5+1))
else some ((x1,()),()):=(aK aaq [1,1,1,0,1,0] (by kernel_rfl) _).trans (by kernel_rfl)
theorem akh(a0:List (List Int))(a1:Int):A8 a0 a1 =
 bif decide (IntKind.i64.wrap (a1 - (↑a0.length:Int))<0)then some ((-1,()),())
else zn a0 (IntKind.i64.wrap (a1 - (↑a0.length:Int))) 0:=(Eq.trans (by kernel_rfl:A8 a0 a1=aw ON (Tryz.f122.body.getD .skip) SU (aS 27 [(cT,Mode.ro),(ah,Mode.ro)] (a0,a1,()))) (all_eq aaq _)).trans (by kernel_rfl)
def Bg(a0:az×List (List Int))(a1:Int):Option ((Int×PUnit)×PUnit):=Rp.al (a0,a1,())
theorem aky(a0:az×List (List Int))(a1:Int):Bg a0 a1 =
 (A7 a0.fst a1).bind λy =>
 bif decide (y.fst.fst<0)then some ((-1,()),())
 else
 (A8 a0.snd y.fst.fst).bind λy =>
  bif decide (y.fst.fst<0)then some ((-1,()),())else some ((y.fst.fst,()),()):=by kernel_rfl
def OR:Env:=Hw.env C CW.1 Tryz.f51
def SZ:=Hw.out C
def zt(x0:List af)(x1:Int)(x5:Int):Option ((Int×PUnit)×PUnit):=aG OR [1,1,1,0,1,0] (Tryz.f51.body.getD .skip) SZ (V.d none 0 nW x0::V.d none 0 (Ty.int IntKind.i64) x1::dd 3 (V.d none 0 (Ty.int IntKind.i64) x5::dd 21 ([])))
def Bh(a0:List af)(a1:Int):Option ((Int×PUnit)×PUnit):=Rq.al (a0,a1,())
def apw:List (Nat×List Nat):=[(1000005,[1,1,1,0,1,0])]
theorem aau:okB apw (Tryz.f51.body.getD .skip) []=true:=by kernel_rfl
theorem Vh(x0:List af)(x1:Int)(x5:Int):zt x0 x1 x5 =
 bif decide (x5<(↑x0.length:Int))then
 (ab x0 x5).bind λy =>
 (Bg y x1).bind λy =>
  bif decide (y.fst.fst<0)then some ((-1,()),())else zt x0 y.fst.fst (IntKind.i64.wrap (x5+1))
else some ((x1,()),()):=(aK aau [1,1,1,0,1,0] (by kernel_rfl) _).trans (by kernel_rfl)
theorem akw(a0:List af)(a1:Int):Bh a0 a1 =
 bif decide (IntKind.i64.wrap (a1 - (↑a0.length:Int))<0)then some ((-1,()),())
else zt a0 (IntKind.i64.wrap (a1 - (↑a0.length:Int))) 0:=(Eq.trans (by kernel_rfl:Bh a0 a1=aw OR (Tryz.f51.body.getD .skip) SZ (aS 27 [(nW,Mode.ro),(ah,Mode.ro)] (a0,a1,()))) (all_eq aau _)).trans (by kernel_rfl)
def Ik(a0:a8)(a1:Int):Option ((Int×PUnit)×PUnit):=Rr.al (a0,a1,())
theorem akA(a0:a8)(a1:Int):Ik a0 a1 =
 (Ba a0.fst a1).bind λy =>
 bif decide (y.fst.fst<0)then some ((-1,()),())
 else
 (Bh a0.snd y.fst.fst).bind λy =>
  bif decide (y.fst.fst<0)then some ((-1,()),())else some ((y.fst.fst,()),()):=by kernel_rfl
def OU:Env:=Hz.env C C0.1 Tryz.f126
def S3:=Hz.out C
def zw(x0:List (List Int))(x3:List (List Int))(x4:Int):Option ((List (List Int)×PUnit)×PUnit):=aG OU [1,1,0,1,0] (Tryz.f126.body.getD .skip) S3 (V.d none 0 cT x0::dd 2 (V.d none (bb.depth+1) (Ty.slice 58 bb) x3::V.d none 0 (Ty.int IntKind.i64) x4::dd 18 ([])))
def Bk(a0:List (List Int)):Option ((List (List Int)×PUnit)×PUnit):=Rx.al (a0,())
def apz:List (Nat×List Nat):=[(1000003,[1,1,0,1,0])]
theorem aaw:okB apz (Tryz.f126.body.getD .skip) []=true:=by kernel_rfl
theorem Vj(x0:List (List Int))(x3:List (List Int))(x4:Int):zw x0 x3 x4 =
 bif decide (x4<(↑x0.length:Int))then
 (ab x0 x4).bind λy =>
 (pv y).bind λy =>
  (ab x3 x4).bind λav =>
  (ab x3 x4).bind λa6 =>
   (ab x3 x4).bind λbp =>
   (some (x3.set x4.toNat y.fst.fst)).bind λy=>zw x0 y (IntKind.i64.wrap (x4+1))
else some ((x3,()),()):=(aK aaw [1,1,0,1,0] (by kernel_rfl) _).trans (by kernel_rfl)
theorem akG(a0:List (List Int)):Bk a0 =
 bif
 decide (0<=(↑a0.length:Int))&&decide ((↑a0.length:Int)<=(↑a0.length:Int)) &&
  decide ((↑a0.length:Int)*(↑24:Int)<=140737488355328) &&
  decide ((↑a0.length:Int)<=9223372036854775807)then
 zw a0 (List.replicate a0.length []) 0
else none:=(Eq.trans (by kernel_rfl:Bk a0=aw OU (Tryz.f126.body.getD .skip) S3 (aS 23 [(cT,Mode.ro)] (a0,()))) (all_eq aaw _)).trans (by kernel_rfl)
def Bq(a0:az×List (List Int)):Option ((af×PUnit)×PUnit):=RE.al (a0,())
theorem akX(a0:az×List (List Int)):Bq a0 =
 (Bj a0.fst).bind λy=>(Bk a0.snd).bind λav=>some (((y.fst.fst,av.fst.fst),()),()):=by kernel_rfl
def OY:Env:=HD.env C C3.1 Tryz.f58
def S7:=HD.out C
def zH(x0:List af)(x3:List af)(x4:Int):Option ((List af×PUnit)×PUnit):=aG OY [1,1,0,1,0] (Tryz.f58.body.getD .skip) S7 (V.d none 0 nW x0::dd 2 (V.d none (cU.depth+1) (Ty.slice 81 cU) x3::V.d none 0 (Ty.int IntKind.i64) x4::dd 18 ([])))
def Br(a0:List af):Option ((List af×PUnit)×PUnit):=RF.al (a0,())
def apD:List (Nat×List Nat):=[(1000003,[1,1,0,1,0])]
theorem aaB:okB apD (Tryz.f58.body.getD .skip) []=true:=by kernel_rfl
theorem Vo(x0:List af)(x3:List af)(x4:Int):zH x0 x3 x4 =
 bif decide (x4<(↑x0.length:Int))then
 (ab x0 x4).bind λy =>
 (Bq y).bind λy =>
  (ab x3 x4).bind λav =>
  (ab x3 x4).bind λa6 =>
   (ab x3 x4).bind λbp =>
   (some (x3.set x4.toNat y.fst.fst)).bind λy=>zH x0 y (IntKind.i64.wrap (x4+1))
else some ((x3,()),()):=(aK aaB [1,1,0,1,0] (by kernel_rfl) _).trans (by kernel_rfl)
theorem akV(a0:List af):Br a0 =
 bif
 decide (0<=(↑a0.length:Int))&&decide ((↑a0.length:Int)<=(↑a0.length:Int)) &&
  decide ((↑a0.length:Int)*(↑56:Int)<=140737488355328) &&
  decide ((↑a0.length:Int)<=9223372036854775807)then
 zH a0 (List.replicate a0.length ((0,[]),[])) 0
else none:=(Eq.trans (by kernel_rfl:Br a0=aw OY (Tryz.f58.body.getD .skip) S7 (aS 23 [(nW,Mode.ro)] (a0,()))) (all_eq aaB _)).trans (by kernel_rfl)
def r5(a0:a8):Option ((a8 ×
 PUnit) ×
 PUnit):=RG.al (a0,())
theorem akZ(a0:a8):r5 a0 =
 (Bm a0.fst).bind λy=>(Br a0.snd).bind λav=>some (((y.fst.fst,av.fst.fst),()),()):=by kernel_rfl
def Om:Env:=G2.env C Cn.1 Tryz.f93
def Su:=G2.out C
def yU(x1:ByteArray×Int×List Rw)(x2:ByteArray×Int×List Rw)(x3:ByteArray×Int×List Rw)(x4:Int):Option ((Rel×PUnit)×PUnit):=aG Om [1,1,0,1,0] (Tryz.f93.body.getD .skip) Su (V.dead::(V.box none 0 du x1::V.box none du.depth du x2::V.box none du.depth du x3::V.d none 0 (Ty.int IntKind.i64) x4::dd 32 ([])))
def AH(a0:ByteArray×Int×List Rw):Option ((Rel×PUnit)×PUnit):=QD.al (a0,())
def ao1:List (Nat×List Nat):=[(1000003,[1,1,0,1,0])]
theorem Z3:okB ao1 (Tryz.f93.body.getD .skip) []=true:=by kernel_rfl
theorem UK(x1:ByteArray×Int×List Rw)(x2:ByteArray×Int×List Rw)(x3:ByteArray×Int×List Rw)(x4:Int):yU x1 x2 x3 x4 =
 bif decide (x4<(↑(List.length x1.snd.snd):Int))then
 (ab x1.snd.snd x4).bind λy =>
 (ab x1.snd.snd x4).bind λav =>
  (po av.snd).bind λa6 =>
  bif decide ((List.length x3.snd.snd+1)*48<=140737488355328)then
   yU x1 x2 (x3.fst,x3.snd.fst,x3.snd.snd++[(y.fst,a6.fst.fst)]) (IntKind.i64.wrap (x4+1))
  else none
else some ((x3,()),()):=(aK Z3 [1,1,0,1,0] (by kernel_rfl) _).trans (by kernel_rfl)
theorem ajg(a0:ByteArray×Int×List Rw):AH a0 =
 yU a0 (ByteArray.empty,0,[]) (a0.fst,a0.snd.fst,[]) 0:=(Eq.trans (by kernel_rfl:AH a0=aw Om (Tryz.f93.body.getD .skip) Su (aS 37 [(du,Mode.ro)] (a0,()))) (all_eq Z3 _)).trans (by kernel_rfl)
def On:Env:=G3.env C Cs.1 Tryz.f54
def Sv:=G3.out C
def yT(x0:List Rel)(x3:List Rel)(x4:Int):Option ((List Rel×PUnit)×PUnit):=aG On [1,1,0,1,0] (Tryz.f54.body.getD .skip) Sv (V.d none 0 aY x0::dd 2 (V.d none (du.depth+1) (Ty.slice 72 du) x3::V.d none 0 (Ty.int IntKind.i64) x4::dd 16 ([])))
def AI(a0:List Rel):Option ((List Rel×PUnit)×PUnit):=QE.al (a0,())
def ao2:List (Nat×List Nat):=[(1000003,[1,1,0,1,0])]
theorem Z2:okB ao2 (Tryz.f54.body.getD .skip) []=true:=by kernel_rfl
theorem UJ(x0:List Rel)(x3:List Rel)(x4:Int):yT x0 x3 x4 =
 bif decide (x4<(↑x0.length:Int))then
 (ab x0 x4).bind λy =>
 (AH y).bind λy =>
  bif decide ((x3.length+1)*48<=140737488355328)then
  yT x0 (x3++[y.fst.fst]) (IntKind.i64.wrap (x4+1))
  else none
else some ((x3,()),()):=(aK Z2 [1,1,0,1,0] (by kernel_rfl) _).trans (by kernel_rfl)
theorem aje(a0:List Rel):AI a0 =
 yT a0 [] 0:=(Eq.trans (by kernel_rfl:AI a0=aw On (Tryz.f54.body.getD .skip) Sv (aS 21 [(aY,Mode.ro)] (a0,()))) (all_eq Z2 _)).trans (by kernel_rfl)
def Ff:Env:=GH.env C B4.1 Tryz.f55
def FA:=GH.out C
def uC(x0:List Rel)(x3:a8)(x5:Int)(x6:az×List (List Int))(x7:Int):Option ((Bool×PUnit)×PUnit):=aG Ff [1,0,1,0,0,1,0,0,1,1,1,0] (Tryz.f55.body.getD .skip) FA (V.d none 0 aY x0::dd 2 (V.box none 0 dh x3::V.dead::(V.d none 0 (Ty.int IntKind.i64) x5::V.box none 0 cU x6::V.d none 0 (Ty.int IntKind.i64) x7::dd 80 ([]))))
def o5(x0:List Rel)(x3:a8)(x5:Int):Option ((Bool×PUnit)×PUnit):=aG Ff [1,0,1,0] (Tryz.f55.body.getD .skip) FA (V.d none 0 aY x0::dd 2 (V.box none 0 dh x3::V.dead::(V.d none 0 (Ty.int IntKind.i64) x5::dd 82 ([]))))
def Ap(a0:List Rel)(a1:a8):Option ((Bool×PUnit)×PUnit):=P9.al (a0,a1,())
def aoH:List (Nat×List Nat):=[(1000002,[1,0,1,0]),(1000008,[1,0,1,0,0,1,0,0,1,1,1,0])]
theorem LB:okB aoH (Tryz.f55.body.getD .skip) []=true:=by kernel_rfl
theorem Uj(x0:List Rel)(x3:a8)(x5:Int)(x6:az×List (List Int))(x7:Int):uC x0 x3 x5 x6 x7 =
 bif decide (x7<(↑(List.length x6.snd):Int))then
 (ab x6.snd x7).bind λy =>
 bif (↑y.length:Int) != 2 then some ((false,()),())
 else
  (ab y 0).bind λav =>
  (gv av 0 (IntKind.i64.wrap ((↑x0.length:Int) - 1))).bind λa6 =>
   bif !a6.fst.fst then some ((false,()),())
   else
   (ab y 1).bind λbp =>
    (ab y 0).bind λy =>
    (ab x0 y).bind λy =>
     (gv bp 0 (IntKind.i64.wrap ((↑(List.length y.snd.snd):Int) - 1))).bind λy =>
     bif !y.fst.fst then some ((false,()),())else uC x0 x3 x5 x6 (IntKind.i64.wrap (x7+1))
else o5 x0 x3 (IntKind.i64.wrap (x5+1)):=(aK LB [1,0,1,0,0,1,0,0,1,1,1,0] (by kernel_rfl) _).trans (by kernel_rfl)
theorem Ui(x0:List Rel)(x3:a8)(x5:Int):o5 x0 x3 x5 =
 bif decide (x5<(↑(List.length x3.snd):Int))then
 (ab x3.snd x5).bind λy =>
 (mE y.fst).bind λav =>
  bif !av.fst.fst then some ((false,()),())
  else
  bif y.fst.fst != 4 then some ((false,()),())
  else bif decide ((↑(List.length y.snd):Int)>12)then some ((false,()),())else uC x0 x3 x5 y 0
else
 (u3 x0 x3.fst).bind λy =>
 bif y.fst.fst then some ((decide ((↑(List.length x3.snd):Int)<=24),()),())else some ((false,()),()):=(aK LB [1,0,1,0] (by kernel_rfl) _).trans (by kernel_rfl)
theorem aiB(a0:List Rel)(a1:a8):Ap a0 a1 =
 o5 a0 a1 0:=(Eq.trans (by kernel_rfl:Ap a0 a1=aw Ff (Tryz.f55.body.getD .skip) FA (aS 88 [(aY,Mode.ro),(dh,Mode.ro)] (a0,a1,()))) (all_eq LB _)).trans (by kernel_rfl)
def Oc:Env:=GQ.env C B9.1 Tryz.f57
def Sj:=GQ.out C
def uH(x1:Int)(x2:Int)(x3:az×List (List Int))(x7:Int):Option ((Bool×PUnit)×PUnit):=aG Oc [1,0,1,0] (Tryz.f57.body.getD .skip) Sj (V.dead::(V.d none 0 ah x1::V.d none 0 ah x2::V.box none 0 cU x3::dd 3 (V.d none 0 (Ty.int IntKind.i64) x7::dd 27 ([]))))
def Ay(a0:az×List (List Int))(a1:Int)(a2:Int):Option ((Bool×PUnit)×PUnit):=Qk.al (a0,a1,a2,())
def aoQ:List (Nat×List Nat):=[(1000002,[1,0,1,0])]
theorem ZT:okB aoQ (Tryz.f57.body.getD .skip) []=true:=by kernel_rfl
theorem Us(x1:Int)(x2:Int)(x3:az×List (List Int))(x7:Int):uH x1 x2 x3 x7 =
 bif decide (x7<(↑(List.length x3.snd):Int))then
 (ab x3.snd x7).bind λy =>
 (ab y 0).bind λy =>
  bif y==x1 then
  (ab x3.snd x7).bind λy =>
   (ab y 1).bind λy =>
   bif y==x2 then some ((true,()),())else uH x1 x2 x3 (IntKind.i64.wrap (x7+1))
  else uH x1 x2 x3 (IntKind.i64.wrap (x7+1))
else some ((false,()),()):=(aK ZT [1,0,1,0] (by kernel_rfl) _).trans (by kernel_rfl)
theorem aiR(a0:az×List (List Int))(a1:Int)(a2:Int):Ay a0 a1 a2 =
 uH a1 a2 a0 0:=(Eq.trans (by kernel_rfl:Ay a0 a1 a2=aw Oc (Tryz.f57.body.getD .skip) Sj (aS 35 [(cU,Mode.ro),(ah,Mode.ro),(ah,Mode.ro)] (a0,a1,a2,()))) (all_eq ZT _)).trans (by kernel_rfl)
def Fh:Env:=GM.env C Cf.1 Tryz.f25
def FC:=GM.out C
def rG(x2:Int)(x6:a8)(x9:Int)(aF:a8)(cd:List af)(x14:Bool)(x15:Int):Option ((a8 ×
 Bool×PUnit) ×
 PUnit):=aG Fh [1,1,1,1,1,1,1,1,1,1,1,0,1,0] (Tryz.f25.body.getD .skip) FC (dd 2 (V.d none 0 ah x2::dd 3 (V.box none dh.depth dh x6::dd 2 (V.d none 0 (Ty.int IntKind.i64) x9::V.box none 1 dh aF::dd 2 (V.d none 0 bE cd::V.d none 0 aQ x14::V.d none 0 (Ty.int IntKind.i64) x15::dd 125 ([]))))))
def rF(x0:List Rel)(x2:Int)(x4:a8)(x6:a8)(x9:Int)(aF:a8)(bc:Bool)(bV:Int):Option ((a8 ×
 Bool×PUnit) ×
 PUnit):=aG Fh [1,1,1,1,1,1,1,1,0,1,0] (Tryz.f25.body.getD .skip) FC (V.d none 0 aY x0::V.dead::(V.d none 0 ah x2::V.dead::(V.box none 0 dh x4::V.dead::(V.box none dh.depth dh x6::dd 2 (V.d none 0 (Ty.int IntKind.i64) x9::V.box none dh.depth dh aF::V.d none 0 Ty.bool bc::V.d none 0 (Ty.int IntKind.i64) bV::dd 128 ([]))))))
def Au(a0:List Rel)(a1:a8)(a2:Int):Option ((a8 ×
 Bool×PUnit) ×
 PUnit):=Qf.al (a0,a1,a2,())
def aoM:List (Nat×List Nat):=[(1000011,[1,1,1,1,1,1,1,1,0,1,0]),(1000018,[1,1,1,1,1,1,1,1,1,1,1,0,1,0])]
theorem LD:okB aoM (Tryz.f25.body.getD .skip) []=true:=by kernel_rfl
theorem FO(x2:Int)(x6:a8)(x9:Int)(aF:a8)(cd:List af)(x14:Bool)(x15:Int):rG x2 x6 x9 aF cd x14 x15 =
 bif decide (x15<(↑cd.length:Int))then
 (ab cd x15).bind λy =>
 (Ay y x2 x9).bind λy =>
  bif y.fst.fst then
  (ab cd x15).bind λy =>
   bif decide ((List.length aF.snd+1)*56<=140737488355328)then
   rG x2 x6 x9 (aF.fst,aF.snd++[y]) cd x14 (IntKind.i64.wrap (x15+1))
   else none
  else rG x2 x6 x9 aF cd x14 (IntKind.i64.wrap (x15+1))
else
 bif !x14 then some ((([],[]),false,()),())
 else
 bif decide ((↑(List.length aF.snd):Int)>24)then some ((([],[]),false,()),())else some ((aF,true,()),()):=(aK LD [1,1,1,1,1,1,1,1,1,1,1,0,1,0] (by kernel_rfl) _).trans (by kernel_rfl)
theorem Up(x0:List Rel)(x2:Int)(x4:a8)(x6:a8)(x9:Int)(aF:a8)(bc:Bool)(bV:Int):rF x0 x2 x4 x6 x9 aF bc bV =
 bif decide (bV<(↑(List.length x4.fst):Int))then
 bif bc then rF x0 x2 x4 x6 x9 aF true (IntKind.i64.wrap (bV+1))
 else
 (ab x4.fst bV).bind λy =>
  bif y.fst==1 then
  (ab x4.fst bV).bind λy =>
   (n9 x0 y.snd.snd.fst).bind λy =>
   rF x0 x2 x4 x6 x9 aF (y.fst.fst==x2) (IntKind.i64.wrap (bV+1))
  else rF x0 x2 x4 x6 x9 aF false (IntKind.i64.wrap (bV+1))
else
 bif !bc then some ((aF,true,()),())
 else (u5 x0 x4.fst).bind λy=>rG x2 x6 x9 aF y.fst.fst y.fst.snd.fst 0:=(aK LD [1,1,1,1,1,1,1,1,0,1,0] (by kernel_rfl) _).trans (by kernel_rfl)
theorem aiM(a0:List Rel)(a1:a8)(a2:Int):Au a0 a1 a2 =
 (uY a0).bind λy =>
 bif !y.fst.fst then some ((([],[]),false,()),())
 else
 (gv a2 0 (IntKind.i64.wrap ((↑a0.length:Int) - 1))).bind λy =>
  bif !y.fst.fst then some ((([],[]),false,()),())
  else
  (ab a0 a2).bind λy =>
   bif (↑(List.length y.snd.snd):Int)==0 then some ((([],[]),false,()),())
   else
   (AI a0).bind λy =>
    (ab a0 a2).bind λav =>
    (ab y.fst.fst a2).bind λa6 =>
     (ab y.fst.fst a2).bind λbp =>
     bif
      decide (0<=0)&&decide (0<=IntKind.i64.wrap ((↑(List.length av.snd.snd):Int) - 1)) &&
       decide
       (IntKind.i64.wrap ((↑(List.length av.snd.snd):Int) - 1)<=(↑(List.length bp.snd.snd):Int))then
      (ab y.fst.fst a2).bind λcJ =>
      (ab y.fst.fst a2).bind λej =>
       (ab y.fst.fst a2).bind λdS =>
       (some
         (List.set y.fst.fst a2.toNat
         (dS.fst,dS.snd.fst,
          List.drop (Int.toNat 0)
          (List.take (IntKind.i64.wrap ((↑(List.length av.snd.snd):Int) - 1)).toNat bp.snd.snd)))).bind
        λy =>
        (Ap y a1).bind λy =>
        bif !y.fst.fst then some ((([],[]),false,()),())
        else
         (AG [] a1.fst).bind λy =>
         (ph a1.snd).bind λgJ =>
          rF a0 a2 a1 ([],[]) (IntKind.i64.wrap ((↑(List.length av.snd.snd):Int) - 1))
          (y.fst.fst,gJ.fst.fst) false 0
     else none:=(Eq.trans (by kernel_rfl:Au a0 a1 a2=aw Fh (Tryz.f25.body.getD .skip) FC (aS 141 [(aY,Mode.ro),(dh,Mode.ro),(ah,Mode.ro)] (a0,a1,a2,()))) (all_eq LD _)).trans (by kernel_rfl)
def HL(a0:ByteArray×Int×List aa):Option ((Rw×PUnit)×PUnit):=Pz.al (a0,())
theorem ahP(a0:ByteArray×Int×List aa):HL a0 =
 (rO a0.snd).bind λy=>some (((a0.fst,y.fst.fst),()),()):=by kernel_rfl
def Fb:Env:=Gk.env C BM.1 Tryz.f60
def Fx:=Gk.out C
def ur(x0:List Rel)(x3:List Rel)(x5:ByteArray×Int×List Rw)(x6:ByteArray×Int×List Rw)(bV:List Rel)(cd:Int)(x14:Int)(cP:List Rw)(gm:Int)(fL:Int):Option ((List Rel×PUnit)×PUnit):=aG Fb [1,1,0,1,0,0,1,1,0,0,1,1,0,1,0] (Tryz.f60.body.getD .skip) Fx (V.d none 0 aY x0::dd 2 (V.d none (du.depth+1) (Ty.slice 72 du) x3::V.dead::(V.box none 0 du x5::V.box none du.depth du x6::dd 5 (V.d none 0 aY bV::V.d none 0 (Ty.int IntKind.i64) cd::V.d none 0 (Ty.int IntKind.i64) x14::dd 13 (V.d none 0 (Ty.slice 105 ko) cP::V.d none 0 (Ty.int IntKind.i64) gm::V.d none 0 (Ty.int IntKind.i64) fL::dd 17 ([]))))))
def rq(x0:List Rel)(x3:List Rel)(bV:List Rel)(cd:Int)(x14:Int):Option ((List Rel×PUnit)×PUnit):=aG Fb [1,1,0,1,0] (Tryz.f60.body.getD .skip) Fx (V.d none 0 aY x0::dd 2 (V.d none (du.depth+1) (Ty.slice 72 du) x3::dd 8 (V.d none 0 aY bV::V.d none 0 (Ty.int IntKind.i64) cd::V.d none 0 (Ty.int IntKind.i64) x14::dd 33 ([]))))
def Aa(a0:List Rel):Option ((List Rel×PUnit)×PUnit):=Pu.al (a0,())
def aom:List (Nat×List Nat):=[(1000003,[1,1,0,1,0]),(1000007,[1,1,0,1,0,0,1,1,0,0,1,1,0,1,0])]
theorem Ly:okB aom (Tryz.f60.body.getD .skip) []=true:=by kernel_rfl
theorem TE(x0:List Rel)(x3:List Rel)(x5:ByteArray×Int×List Rw)(x6:ByteArray×Int×List Rw)(bV:List Rel)(cd:Int)(x14:Int)(cP:List Rw)(gm:Int)(fL:Int):ur x0 x3 x5 x6 bV cd x14 cP gm fL =
 bif decide (fL<gm)then
 (ab cP fL).bind λy =>
 (HL y).bind λy =>
  bif decide ((List.length x6.snd.snd+1)*48<=140737488355328)then
  ur x0 x3 x5 (x6.fst,x6.snd.fst,x6.snd.snd++[y.fst.fst]) bV cd x14 cP gm
   (IntKind.i64.wrap (fL+1))
  else none
else
 bif decide ((x3.length+1)*48<=140737488355328)then
 rq x0 (x3++[x6]) bV cd (IntKind.i64.wrap (x14+1))
 else none:=(aK Ly [1,1,0,1,0,0,1,1,0,0,1,1,0,1,0] (by kernel_rfl) _).trans (by kernel_rfl)
theorem TD(x0:List Rel)(x3:List Rel)(bV:List Rel)(cd:Int)(x14:Int):rq x0 x3 bV cd x14 =
 bif decide (x14<cd)then
 (ab bV x14).bind λy =>
 bif
  decide (0<=0)&&decide (0<=(↑(List.length y.snd.snd):Int)) &&
   decide ((↑(List.length y.snd.snd):Int)*(↑48:Int)<=140737488355328) &&
   decide ((↑(List.length y.snd.snd):Int)<=9223372036854775807)then
  ur x0 x3 y (y.fst,y.snd.fst,List.replicate (Int.toNat 0) (ByteArray.empty,0,[])) bV cd x14
  y.snd.snd (↑(List.length y.snd.snd):Int) 0
 else none
else some ((x3,()),()):=(aK Ly [1,1,0,1,0] (by kernel_rfl) _).trans (by kernel_rfl)
theorem ahI(a0:List Rel):Aa a0 =
 bif
 decide (0<=0)&&decide (0<=(↑a0.length:Int))&&decide ((↑a0.length:Int)*(↑48:Int)<=140737488355328) &&
  decide ((↑a0.length:Int)<=9223372036854775807)then
 rq a0 (List.replicate (Int.toNat 0) (ByteArray.empty,0,[])) a0 (↑a0.length:Int) 0
else none:=(Eq.trans (by kernel_rfl:Aa a0=aw Fb (Tryz.f60.body.getD .skip) Fx (aS 48 [(aY,Mode.ro)] (a0,()))) (all_eq Ly _)).trans (by kernel_rfl)
def HU(a0:List Rel)(a1:Int)(a2:Int):Option ((Bool×PUnit)×PUnit):=PM.al (a0,a1,a2,())
theorem ah7(a0:List Rel)(a1:Int)(a2:Int):HU a0 a1 a2 =
 bif decide (a1>=0)then
 bif decide (a1<(↑a0.length:Int))then
 bif decide (a2>=0)then (ab a0 a1).bind λy=>some ((decide (a2<(↑(List.length y.snd.snd):Int)),()),())
 else some ((false,()),())
 else some ((false,()),())
else some ((false,()),()):=by kernel_rfl
def E8:Env:=F8.env C BQ.1 Tryz.f61
def Fu:=F8.out C
def uh(x0:List Rel)(x3:a8)(x6:az×List (List Int))(cn:List af)(c7:Int)(dA:Int)(xQ:List (List Int))(xR:Int)(tS:Int):Option ((Bool×PUnit)×PUnit):=aG E8 [1,1,0,1,0,0,1,1,0,0,1,1,1,0] (Tryz.f61.body.getD .skip) Fu (V.d none 0 aY x0::dd 2 (V.box none 0 dh x3::dd 2 (V.box none 0 cU x6::dd 14 (V.d none 0 (Ty.slice 81 cU) cn::V.d none 0 (Ty.int IntKind.i64) c7::V.d none 0 (Ty.int IntKind.i64) dA::dd 20 (V.d none 0 (Ty.slice 58 bb) xQ::V.d none 0 (Ty.int IntKind.i64) xR::V.d none 0 (Ty.int IntKind.i64) tS::dd 19 ([]))))))
def rk(x0:List Rel)(x3:a8)(cn:List af)(c7:Int)(dA:Int):Option ((Bool×PUnit)×PUnit):=aG E8 [1,1,0,1,0] (Tryz.f61.body.getD .skip) Fu (V.d none 0 aY x0::dd 2 (V.box none 0 dh x3::dd 17 (V.d none 0 (Ty.slice 81 cU) cn::V.d none 0 (Ty.int IntKind.i64) c7::V.d none 0 (Ty.int IntKind.i64) dA::dd 42 ([]))))
def zU(a0:List Rel)(a1:a8):Option ((Bool×PUnit)×PUnit):=Pb.al (a0,a1,())
def aoa:List (Nat×List Nat):=[(1000004,[1,1,0,1,0]),(1000009,[1,1,0,1,0,0,1,1,0,0,1,1,1,0])]
theorem Lv:okB aoa (Tryz.f61.body.getD .skip) []=true:=by kernel_rfl
theorem Tm(x0:List Rel)(x3:a8)(x6:az×List (List Int))(cn:List af)(c7:Int)(dA:Int)(xQ:List (List Int))(xR:Int)(tS:Int):uh x0 x3 x6 cn c7 dA xQ xR tS =
 bif decide (tS<xR)then
 (ab xQ tS).bind λy =>
 bif (↑y.length:Int) != 2 then some ((false,()),())
 else
  (ab y 0).bind λav =>
  (ab y 1).bind λy =>
   (HU x0 av y).bind λy =>
   bif !y.fst.fst then some ((false,()),())
   else uh x0 x3 x6 cn c7 dA xQ xR (IntKind.i64.wrap (tS+1))
else rk x0 x3 cn c7 (IntKind.i64.wrap (dA+1)):=(aK Lv [1,1,0,1,0,0,1,1,0,0,1,1,1,0] (by kernel_rfl) _).trans (by kernel_rfl)
theorem Tl(x0:List Rel)(x3:a8)(cn:List af)(c7:Int)(dA:Int):rk x0 x3 cn c7 dA =
 bif decide (dA<c7)then
 (ab cn dA).bind λy =>
 (kB y.fst).bind λav =>
  bif !av.fst.fst then some ((false,()),())
  else
  bif y.fst.fst != 4 then some ((false,()),())
  else
   bif decide ((↑(List.length y.snd):Int)>12)then some ((false,()),())
   else uh x0 x3 y cn c7 dA y.snd (↑(List.length y.snd):Int) 0
else some ((true,()),()):=(aK Lv [1,1,0,1,0] (by kernel_rfl) _).trans (by kernel_rfl)
theorem ahj(a0:List Rel)(a1:a8):zU a0 a1 =
 (uP a0 a1.fst).bind λy =>
 bif !y.fst.fst then some ((false,()),())
 else
 bif decide ((↑(List.length a1.snd):Int)>24)then some ((false,()),())
 else rk a0 a1 a1.snd (↑(List.length a1.snd):Int) 0:=(Eq.trans (by kernel_rfl:zU a0 a1=aw E8 (Tryz.f61.body.getD .skip) Fu (aS 66 [(aY,Mode.ro),(dh,Mode.ro)] (a0,a1,()))) (all_eq Lv _)).trans (by kernel_rfl)
def NV:Env:=Gs.env C BO.1 Tryz.f62
def R2:=Gs.out C
def uz(x0:List ao)(x1:ByteArray)(x7:List ao)(x8:Int)(x9:Int):Option ((Bool×PUnit)×PUnit):=aG NV [1,0,1,0] (Tryz.f62.body.getD .skip) R2 (V.d none 0 bJ x0::V.d none 0 cO x1::dd 5 (V.d none 0 bJ x7::V.d none 0 (Ty.int IntKind.i64) x8::V.d none 0 (Ty.int IntKind.i64) x9::dd 13 ([])))
def HQ(a0:List ao)(a1:ByteArray):Option ((Bool×PUnit)×PUnit):=PH.al (a0,a1,())
def aot:List (Nat×List Nat):=[(1000002,[1,0,1,0])]
theorem ZC:okB aot (Tryz.f62.body.getD .skip) []=true:=by kernel_rfl
theorem TM(x0:List ao)(x1:ByteArray)(x7:List ao)(x8:Int)(x9:Int):uz x0 x1 x7 x8 x9 =
 bif decide (x9<x8)then
 (ab x7 x9).bind λy =>
 bif y.fst==1 then
  bif ByteArray.toList y.snd.snd.fst==x1.toList then some ((true,()),())
  else uz x0 x1 x7 x8 (IntKind.i64.wrap (x9+1))
 else uz x0 x1 x7 x8 (IntKind.i64.wrap (x9+1))
else some ((false,()),()):=(aK ZC [1,0,1,0] (by kernel_rfl) _).trans (by kernel_rfl)
theorem ah0(a0:List ao)(a1:ByteArray):HQ a0 a1 =
 uz a0 a1 a0 (↑a0.length:Int) 0:=(Eq.trans (by kernel_rfl:HQ a0 a1=aw NV (Tryz.f62.body.getD .skip) R2 (aS 23 [(bJ,Mode.ro),(cO,Mode.ro)] (a0,a1,()))) (all_eq ZC _)).trans (by kernel_rfl)
def NL:Env:=Gd.env C BD.1 Tryz.f63
def RR:=Gd.out C
def um(x1:Int)(x2:Int)(x3:az×List (List Int))(aF:List (List Int))(bc:Int)(bV:Int):Option ((Bool×PUnit)×PUnit):=aG NL [1,0,1,0] (Tryz.f63.body.getD .skip) RR (V.dead::(V.d none 0 ah x1::V.d none 0 ah x2::V.box none 0 cU x3::dd 6 (V.d none 0 (Ty.slice 58 bb) aF::V.d none 0 (Ty.int IntKind.i64) bc::V.d none 0 (Ty.int IntKind.i64) bV::dd 16 ([]))))
def z6(a0:az×List (List Int))(a1:Int)(a2:Int):Option ((Bool×PUnit)×PUnit):=Pj.al (a0,a1,a2,())
def aof:List (Nat×List Nat):=[(1000002,[1,0,1,0])]
theorem Zs:okB aof (Tryz.f63.body.getD .skip) []=true:=by kernel_rfl
theorem Tt(x1:Int)(x2:Int)(x3:az×List (List Int))(aF:List (List Int))(bc:Int)(bV:Int):um x1 x2 x3 aF bc bV =
 bif decide (bV<bc)then
 (ab aF bV).bind λy =>
 (ab y 0).bind λav =>
  bif av==x1 then
  (ab y 1).bind λy =>
   bif y==x2 then some ((true,()),())else um x1 x2 x3 aF bc (IntKind.i64.wrap (bV+1))
  else um x1 x2 x3 aF bc (IntKind.i64.wrap (bV+1))
else some ((false,()),()):=(aK Zs [1,0,1,0] (by kernel_rfl) _).trans (by kernel_rfl)
theorem ahv(a0:az×List (List Int))(a1:Int)(a2:Int):z6 a0 a1 a2 =
 um a1 a2 a0 a0.snd (↑(List.length a0.snd):Int) 0:=(Eq.trans (by kernel_rfl:z6 a0 a1 a2=aw NL (Tryz.f63.body.getD .skip) RR (aS 29 [(cU,Mode.ro),(ah,Mode.ro),(ah,Mode.ro)] (a0,a1,a2,()))) (all_eq Zs _)).trans (by kernel_rfl)
def NN:Env:=Gf.env C BC.1 Tryz.f27
def RT:=Gf.out C
def uo(x2:Int)(x6:a8)(x9:Int)(aF:a8)(bc:Int×List af)(kr:Int)(gn:Int):Option ((a8 ×
 Bool×PUnit) ×
 PUnit):=aG NN [1,1,1,1,1,1,1,1,1,1,0,1,0] (Tryz.f27.body.getD .skip) RT (dd 2 (V.d none 0 ah x2::dd 3 (V.box none dh.depth dh x6::dd 2 (V.d none 0 (Ty.int IntKind.i64) x9::V.box none dh.depth dh aF::V.bQ 0 2 ((Ty.int IntKind.i64).pair (Ty.slice 81 cU)) bc::dd 78 (V.same 11 (Ty.slice 81 cU)::V.d none 0 (Ty.int IntKind.i64) kr::V.d none 0 (Ty.int IntKind.i64) gn::dd 20 ([]))))))
def uR(a0:List Rel)(a1:a8)(a2:Int):Option ((a8 ×
 Bool×PUnit) ×
 PUnit):=Pl.al (a0,a1,a2,())
def aoh:List (Nat×List Nat):=[(1000015,[1,1,1,1,1,1,1,1,1,1,0,1,0])]
theorem Zu:okB aoh (Tryz.f27.body.getD .skip) []=true:=by kernel_rfl
theorem Tv(x2:Int)(x6:a8)(x9:Int)(aF:a8)(bc:Int×List af)(kr:Int)(gn:Int):uo x2 x6 x9 aF bc kr gn =
 bif decide (gn<kr)then
 (ab bc.snd gn).bind λy =>
 bif V.dead.idle&&decide (bc.fst<=gn)then
  (ab bc.snd gn).bind λy =>
  (z6 y x2 x9).bind λav =>
   bif av.fst.fst then
   bif decide ((List.length aF.snd+1)*56<=140737488355328)then
    uo x2 x6 x9 (aF.fst,aF.snd++[y]) (gn+1,bc.snd) kr (IntKind.i64.wrap (gn+1))
   else none
   else uo x2 x6 x9 aF (gn+1,bc.snd) kr (IntKind.i64.wrap (gn+1))
 else none
else
 bif decide ((↑(List.length aF.snd):Int)>24)then some ((([],[]),false,()),())else some ((aF,true,()),()):=(aK Zu [1,1,1,1,1,1,1,1,1,1,0,1,0] (by kernel_rfl) _).trans (by kernel_rfl)
theorem ahz(a0:List Rel)(a1:a8)(a2:Int):uR a0 a1 a2 =
 (uO a0).bind λy =>
 bif !y.fst.fst then some ((([],[]),false,()),())
 else
 bif decide (a2<0)then some ((([],[]),false,()),())
 else
  bif decide (a2>=(↑a0.length:Int))then some ((([],[]),false,()),())
  else
  (ab a0 a2).bind λy =>
   bif (↑(List.length y.snd.snd):Int)==0 then some ((([],[]),false,()),())
   else
   (Aa a0).bind λy =>
    (ab a0 a2).bind λav =>
    (ab y.fst.fst a2).bind λa6 =>
     (ab y.fst.fst a2).bind λbp =>
     bif
      decide (0<=0)&&decide (0<=IntKind.i64.wrap ((↑(List.length av.snd.snd):Int) - 1)) &&
       decide
       (IntKind.i64.wrap ((↑(List.length av.snd.snd):Int) - 1)<=(↑(List.length bp.snd.snd):Int))then
      (ab y.fst.fst a2).bind λcJ =>
      (ab y.fst.fst a2).bind λej =>
       (ab y.fst.fst a2).bind λdS =>
       (some
         (List.set y.fst.fst a2.toNat
         (dS.fst,dS.snd.fst,
          List.drop (Int.toNat 0)
          (List.take (IntKind.i64.wrap ((↑(List.length av.snd.snd):Int) - 1)).toNat bp.snd.snd)))).bind
        λy =>
        (zU y a1).bind λy =>
        bif !y.fst.fst then some ((([],[]),false,()),())
        else
         (Ab a1.fst).bind λy =>
         (pe a1.snd).bind λgJ =>
          (ab a0 a2).bind λgq =>
          (HQ a1.fst gq.fst).bind λgr =>
           bif !gr.fst.fst then some (((y.fst.fst,gJ.fst.fst),true,()),())
           else
           (z7 a0 a1.fst).bind λfN =>
            bif !fN.fst.snd.fst then some ((([],[]),false,()),())
            else
            uo a2 ([],[]) (IntKind.i64.wrap ((↑(List.length av.snd.snd):Int) - 1))
             (y.fst.fst,gJ.fst.fst) (0,fN.fst.fst) (↑(List.length fN.fst.fst):Int) 0
     else none:=(Eq.trans (by kernel_rfl:uR a0 a1 a2=aw NN (Tryz.f27.body.getD .skip) RT (aS 113 [(aY,Mode.ro),(dh,Mode.ro),(ah,Mode.ro)] (a0,a1,a2,()))) (all_eq Zu _)).trans (by kernel_rfl)
def Ia(a0:List Rel)(a1:a8)(a2:Int):Option ((Bool×PUnit)×PUnit):=Fm.al (a0,a1,a2,())
theorem ajp(a0:List Rel)(a1:a8)(a2:Int):Ia a0 a1 a2 =
 (Bc a0 1048576).bind λy =>
 bif decide (y.fst.fst<0)then some ((true,()),())
 else
 (Ik a1 y.fst.fst).bind λy =>
  bif decide (y.fst.fst<0)then some ((true,()),())
  else
  (pw a0).bind λy =>
   (r5 a1).bind λav =>
   (Au y.fst.fst av.fst.fst a2).bind λy =>
    (pw a0).bind λa6 =>
    (r5 a1).bind λbp =>
     (uR a6.fst.fst bp.fst.fst a2).bind λcJ =>
     (rZ cJ.fst.fst y.fst.fst).bind λej =>
      bif !ej.fst.fst then some ((false,()),())
      else
      bif !cJ.fst.snd.fst==y.fst.snd.fst then some ((false,()),())
      else
       (pw a0).bind λdS =>
       (AP a6.fst.fst dS.fst.fst).bind λgJ =>
        bif !gJ.fst.fst then some ((false,()),())
        else
        (r5 a1).bind λgq =>
         (rZ bp.fst.fst gq.fst.fst).bind λgr =>
         bif !gr.fst.fst then some ((false,()),())
         else
          (A2 a6.fst.fst 1).bind λfN =>
          (A5 bp.fst.fst fN.fst.fst).bind λky =>
           bif decide (ky.fst.fst<0)then some ((false,()),())
           else
           (rZ cJ.fst.fst y.fst.fst).bind λNl =>
            bif !Nl.fst.fst then some ((false,()),())
            else
            bif !cJ.fst.snd.fst==y.fst.snd.fst then some ((false,()),())
            else
             (A5 cJ.fst.fst 1).bind λxS =>
             (AX xS.snd.fst 1).bind λNn =>
              bif decide (Nn.fst.fst<0)then some ((false,()),())
              else
              bif Nn.fst.fst != xS.fst.fst then some ((false,()),())
              else
               (pw a0).bind λxT =>
               (r5 a1).bind λNo =>
                (uR xT.fst.fst No.fst.fst a2).bind λNp =>
                (rZ Np.fst.fst y.fst.fst).bind λacN =>
                 bif !acN.fst.fst then some ((false,()),())
                 else
                 bif !Np.fst.snd.fst==y.fst.snd.fst then some ((false,()),())
                 else
                  (AX xS.snd.fst 1).bind λy =>
                  bif decide (y.fst.fst<0)then some ((false,()),())
                  else
                   bif y.fst.fst != xS.fst.fst then some ((false,()),())
                   else some ((true,()),()):=by kernel_rfl
end
end Go.Proofs.YthfgcmoipebheaaGreat.P.It
