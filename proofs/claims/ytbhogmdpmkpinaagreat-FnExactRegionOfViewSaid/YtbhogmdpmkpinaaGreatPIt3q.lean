/- A part of the proof: It3q. No conditions. -/
import Derived.Test.YtbhogmdpmkpinaaGreatPIt2q
import Derived.Test.YtbhogmdpmkpinaaGreatPG8
import Derived.Test.YtbhogmdpmkpinaaGreatChecked
import Derived.KernelRfl
set_option linter.unusedVariables false
set_option maxRecDepth 100000
namespace Go.Proofs.YtbhogmdpmkpinaaGreat.P.It
open Am
noncomputable section
def qR(a0:List Int)(a1:Int):Option ((Int×PUnit)×PUnit):=Ng.ao (a0,a1,())
theorem adS(a0:List Int)(a1:Int):qR a0 a1 =
 bif decide (IntKind.i64.wrap (a1 - (↑a0.length:Int))<0)then some ((-1,()),())
else some ((IntKind.i64.wrap (a1 - (↑a0.length:Int)),()),()):=by kernel_rfl
def tu(a0:aa)(a1:Int):Option ((Int×PUnit)×PUnit):=Nc.ao (a0,a1,())
theorem adO(a0:aa)(a1:Int):tu a0 a1 =
 (qR a0.fst a1).bind λy=>bif decide (y.fst.fst<0)then some ((-1,()),())else some ((y.fst.fst,()),()):=by kernel_rfl
def K6:Env:=Em.env C AF.1 Tryz.f334
def OD:=Em.out C
def xn(x0:List aa)(x1:Int)(x5:Int):Option ((Int×PUnit)×PUnit):=aN K6 [1,1,1,0,1,0] (Tryz.f334.body.getD .skip) OD (V.d none 0 nc x0::V.d none 0 (Ty.int IntKind.i64) x1::dd 3 (V.d none 0 (Ty.int IntKind.i64) x5::dd 21 ([])))
def yM(a0:List aa)(a1:Int):Option ((Int×PUnit)×PUnit):=Nd.ao (a0,a1,())
def aiF:List (Nat×List Nat):=[(1000005,[1,1,1,0,1,0])]
theorem UR:okB aiF (Tryz.f334.body.getD .skip) []=true:=by kernel_rfl
theorem Qg(x0:List aa)(x1:Int)(x5:Int):xn x0 x1 x5 =
 bif decide (x5<(↑x0.length:Int))then
 (ab x0 x5).bind λy =>
 (tu y x1).bind λy =>
  bif decide (y.fst.fst<0)then some ((-1,()),())else xn x0 y.fst.fst (IntKind.i64.wrap (x5+1))
else some ((x1,()),()):=(aQ UR [1,1,1,0,1,0] (by kernel_rfl) _).trans (by kernel_rfl)
theorem adM(a0:List aa)(a1:Int):yM a0 a1 =
 bif decide (IntKind.i64.wrap (a1 - (↑a0.length:Int))<0)then some ((-1,()),())
else xn a0 (IntKind.i64.wrap (a1 - (↑a0.length:Int))) 0:=(Eq.trans (by kernel_rfl:yM a0 a1=aw K6 (Tryz.f334.body.getD .skip) OD (aU 27 [(nc,Mode.ro),(ag,Mode.ro)] (a0,a1,()))) (all_eq UR _)).trans (by kernel_rfl)
def yN(a0:Int×List aa)(a1:Int):Option ((Int×PUnit)×PUnit):=Nf.ao (a0,a1,())
theorem adP(a0:Int×List aa)(a1:Int):yN a0 a1 =
 (yM a0.snd a1).bind λy=>bif decide (y.fst.fst<0)then some ((-1,()),())else some ((y.fst.fst,()),()):=by kernel_rfl
def yT(a0:ByteArray×Int×List aa)(a1:Int):Option ((Int×PUnit)×PUnit):=Nn.ao (a0,a1,())
theorem ad3(a0:ByteArray×Int×List aa)(a1:Int):yT a0 a1 =
 bif decide (IntKind.i64.wrap (a1 - (↑(ByteArray.size a0.fst):Int))<0)then some ((-1,()),())
else
 (yN a0.snd (IntKind.i64.wrap (a1 - (↑(ByteArray.size a0.fst):Int)))).bind λy =>
 bif decide (y.fst.fst<0)then some ((-1,()),())else some ((y.fst.fst,()),()):=by kernel_rfl
def La:Env:=Er.env C AJ.1 Tryz.f239
def OH:=Er.out C
def xr(x0:List Rw)(x1:Int)(x5:Int):Option ((Int×PUnit)×PUnit):=aN La [1,1,1,0,1,0] (Tryz.f239.body.getD .skip) OH (V.d none 0 mZ x0::V.d none 0 (Ty.int IntKind.i64) x1::dd 3 (V.d none 0 (Ty.int IntKind.i64) x5::dd 21 ([])))
def yU(a0:List Rw)(a1:Int):Option ((Int×PUnit)×PUnit):=No.ao (a0,a1,())
def aiJ:List (Nat×List Nat):=[(1000005,[1,1,1,0,1,0])]
theorem UW:okB aiJ (Tryz.f239.body.getD .skip) []=true:=by kernel_rfl
theorem Qk(x0:List Rw)(x1:Int)(x5:Int):xr x0 x1 x5 =
 bif decide (x5<(↑x0.length:Int))then
 (ab x0 x5).bind λy =>
 (yT y x1).bind λy =>
  bif decide (y.fst.fst<0)then some ((-1,()),())else xr x0 y.fst.fst (IntKind.i64.wrap (x5+1))
else some ((x1,()),()):=(aQ UW [1,1,1,0,1,0] (by kernel_rfl) _).trans (by kernel_rfl)
theorem ad1(a0:List Rw)(a1:Int):yU a0 a1 =
 bif decide (IntKind.i64.wrap (a1 - (↑a0.length:Int))<0)then some ((-1,()),())
else xr a0 (IntKind.i64.wrap (a1 - (↑a0.length:Int))) 0:=(Eq.trans (by kernel_rfl:yU a0 a1=aw La (Tryz.f239.body.getD .skip) OH (aU 27 [(mZ,Mode.ro),(ag,Mode.ro)] (a0,a1,()))) (all_eq UW _)).trans (by kernel_rfl)
def yR(a0:ByteArray×Int×List Rw)(a1:Int):Option ((Int×PUnit)×PUnit):=Nk.ao (a0,a1,())
theorem adZ(a0:ByteArray×Int×List Rw)(a1:Int):yR a0 a1 =
 bif decide (IntKind.i64.wrap (a1 - (↑(ByteArray.size a0.fst):Int))<0)then some ((-1,()),())
else
 (yU a0.snd.snd (IntKind.i64.wrap (a1 - (↑(ByteArray.size a0.fst):Int)))).bind λy =>
 bif decide (y.fst.fst<0)then some ((-1,()),())else some ((y.fst.fst,()),()):=by kernel_rfl
def K9:Env:=Ep.env C AI.1 Tryz.f43
def OG:=Ep.out C
def xq(x0:List Rel)(x1:Int)(x5:Int):Option ((Int×PUnit)×PUnit):=aN K9 [1,1,1,0,1,0] (Tryz.f43.body.getD .skip) OG (V.d none 0 ie x0::V.d none 0 (Ty.int IntKind.i64) x1::dd 3 (V.d none 0 (Ty.int IntKind.i64) x5::dd 21 ([])))
def yS(a0:List Rel)(a1:Int):Option ((Int×PUnit)×PUnit):=Nl.ao (a0,a1,())
def aiI:List (Nat×List Nat):=[(1000005,[1,1,1,0,1,0])]
theorem UU:okB aiI (Tryz.f43.body.getD .skip) []=true:=by kernel_rfl
theorem Qj(x0:List Rel)(x1:Int)(x5:Int):xq x0 x1 x5 =
 bif decide (x5<(↑x0.length:Int))then
 (ab x0 x5).bind λy =>
 (yR y x1).bind λy =>
  bif decide (y.fst.fst<0)then some ((-1,()),())else xq x0 y.fst.fst (IntKind.i64.wrap (x5+1))
else some ((x1,()),()):=(aQ UU [1,1,1,0,1,0] (by kernel_rfl) _).trans (by kernel_rfl)
theorem adX(a0:List Rel)(a1:Int):yS a0 a1 =
 bif decide (IntKind.i64.wrap (a1 - (↑a0.length:Int))<0)then some ((-1,()),())
else xq a0 (IntKind.i64.wrap (a1 - (↑a0.length:Int))) 0:=(Eq.trans (by kernel_rfl:yS a0 a1=aw K9 (Tryz.f43.body.getD .skip) OG (aU 27 [(ie,Mode.ro),(ag,Mode.ro)] (a0,a1,()))) (all_eq UU _)).trans (by kernel_rfl)
def yP(a0:Int×aa×ByteArray×ByteArray×List Int×Int×Int×Int)(a1:Int):Option ((Int×PUnit)×PUnit):=Ni.ao (a0,a1,())
theorem adV(a0:Int×aa×ByteArray×ByteArray×List Int×Int×Int×Int)(a1:Int):yP a0 a1 =
 (tu a0.snd.fst a1).bind λy =>
 bif decide (y.fst.fst<0)then some ((-1,()),())
 else
 bif decide (IntKind.i64.wrap (y.fst.fst - (↑(ByteArray.size a0.snd.snd.fst):Int))<0)then some ((-1,()),())
 else
  bif
   decide
   (IntKind.i64.wrap
    (IntKind.i64.wrap (y.fst.fst - (↑(ByteArray.size a0.snd.snd.fst):Int)) -
     (↑(ByteArray.size a0.snd.snd.snd.fst):Int)) <
    0)then
  some ((-1,()),())
  else
  (qR a0.snd.snd.snd.snd.fst
    (IntKind.i64.wrap
    (IntKind.i64.wrap (y.fst.fst - (↑(ByteArray.size a0.snd.snd.fst):Int)) -
     (↑(ByteArray.size a0.snd.snd.snd.fst):Int)))).bind
   λy=>bif decide (y.fst.fst<0)then some ((-1,()),())else some ((y.fst.fst,()),()):=by kernel_rfl
def K8:Env:=Eo.env C AG.1 Tryz.f52
def OF:=Eo.out C
def xp(x0:List aM)(x1:Int)(x5:Int):Option ((Int×PUnit)×PUnit):=aN K8 [1,1,1,0,1,0] (Tryz.f52.body.getD .skip) OF (V.d none 0 lJ x0::V.d none 0 (Ty.int IntKind.i64) x1::dd 3 (V.d none 0 (Ty.int IntKind.i64) x5::dd 21 ([])))
def yQ(a0:List aM)(a1:Int):Option ((Int×PUnit)×PUnit):=Nj.ao (a0,a1,())
def aiH:List (Nat×List Nat):=[(1000005,[1,1,1,0,1,0])]
theorem UT:okB aiH (Tryz.f52.body.getD .skip) []=true:=by kernel_rfl
theorem Qi(x0:List aM)(x1:Int)(x5:Int):xp x0 x1 x5 =
 bif decide (x5<(↑x0.length:Int))then
 (ab x0 x5).bind λy =>
 (yP y x1).bind λy =>
  bif decide (y.fst.fst<0)then some ((-1,()),())else xp x0 y.fst.fst (IntKind.i64.wrap (x5+1))
else some ((x1,()),()):=(aQ UT [1,1,1,0,1,0] (by kernel_rfl) _).trans (by kernel_rfl)
theorem adT(a0:List aM)(a1:Int):yQ a0 a1 =
 bif decide (IntKind.i64.wrap (a1 - (↑a0.length:Int))<0)then some ((-1,()),())
else xp a0 (IntKind.i64.wrap (a1 - (↑a0.length:Int))) 0:=(Eq.trans (by kernel_rfl:yQ a0 a1=aw K8 (Tryz.f52.body.getD .skip) OF (aU 27 [(lJ,Mode.ro),(ag,Mode.ro)] (a0,a1,()))) (all_eq UT _)).trans (by kernel_rfl)
def K7:Env:=En.env C AH.1 Tryz.f306
def OE:=En.out C
def xo(x0:List (List Int))(x1:Int)(x5:Int):Option ((Int×PUnit)×PUnit):=aN K7 [1,1,1,0,1,0] (Tryz.f306.body.getD .skip) OE (V.d none 0 eB x0::V.d none 0 (Ty.int IntKind.i64) x1::dd 3 (V.d none 0 (Ty.int IntKind.i64) x5::dd 21 ([])))
def yO(a0:List (List Int))(a1:Int):Option ((Int×PUnit)×PUnit):=Nh.ao (a0,a1,())
def aiG:List (Nat×List Nat):=[(1000005,[1,1,1,0,1,0])]
theorem US:okB aiG (Tryz.f306.body.getD .skip) []=true:=by kernel_rfl
theorem Qh(x0:List (List Int))(x1:Int)(x5:Int):xo x0 x1 x5 =
 bif decide (x5<(↑x0.length:Int))then
 (ab x0 x5).bind λy =>
 (qR y x1).bind λy =>
  bif decide (y.fst.fst<0)then some ((-1,()),())else xo x0 y.fst.fst (IntKind.i64.wrap (x5+1))
else some ((x1,()),()):=(aQ US [1,1,1,0,1,0] (by kernel_rfl) _).trans (by kernel_rfl)
theorem adQ(a0:List (List Int))(a1:Int):yO a0 a1 =
 bif decide (IntKind.i64.wrap (a1 - (↑a0.length:Int))<0)then some ((-1,()),())
else xo a0 (IntKind.i64.wrap (a1 - (↑a0.length:Int))) 0:=(Eq.trans (by kernel_rfl:yO a0 a1=aw K7 (Tryz.f306.body.getD .skip) OE (aU 27 [(eB,Mode.ro),(ag,Mode.ro)] (a0,a1,()))) (all_eq US _)).trans (by kernel_rfl)
def yV(a0:an×List (List Int))(a1:Int):Option ((Int×PUnit)×PUnit):=Np.ao (a0,a1,())
theorem ad7(a0:an×List (List Int))(a1:Int):yV a0 a1 =
 (yN a0.fst a1).bind λy =>
 bif decide (y.fst.fst<0)then some ((-1,()),())
 else
 (yO a0.snd y.fst.fst).bind λy =>
  bif decide (y.fst.fst<0)then some ((-1,()),())else some ((y.fst.fst,()),()):=by kernel_rfl
def Lb:Env:=Es.env C AK.1 Tryz.f139
def OI:=Es.out C
def xt(x0:List bA)(x1:Int)(x5:Int):Option ((Int×PUnit)×PUnit):=aN Lb [1,1,1,0,1,0] (Tryz.f139.body.getD .skip) OI (V.d none 0 nh x0::V.d none 0 (Ty.int IntKind.i64) x1::dd 3 (V.d none 0 (Ty.int IntKind.i64) x5::dd 21 ([])))
def yW(a0:List bA)(a1:Int):Option ((Int×PUnit)×PUnit):=Nq.ao (a0,a1,())
def aiK:List (Nat×List Nat):=[(1000005,[1,1,1,0,1,0])]
theorem UX:okB aiK (Tryz.f139.body.getD .skip) []=true:=by kernel_rfl
theorem Ql(x0:List bA)(x1:Int)(x5:Int):xt x0 x1 x5 =
 bif decide (x5<(↑x0.length:Int))then
 (ab x0 x5).bind λy =>
 (yV y x1).bind λy =>
  bif decide (y.fst.fst<0)then some ((-1,()),())else xt x0 y.fst.fst (IntKind.i64.wrap (x5+1))
else some ((x1,()),()):=(aQ UX [1,1,1,0,1,0] (by kernel_rfl) _).trans (by kernel_rfl)
theorem ad5(a0:List bA)(a1:Int):yW a0 a1 =
 bif decide (IntKind.i64.wrap (a1 - (↑a0.length:Int))<0)then some ((-1,()),())
else xt a0 (IntKind.i64.wrap (a1 - (↑a0.length:Int))) 0:=(Eq.trans (by kernel_rfl:yW a0 a1=aw Lb (Tryz.f139.body.getD .skip) OI (aU 27 [(nh,Mode.ro),(ag,Mode.ro)] (a0,a1,()))) (all_eq UX _)).trans (by kernel_rfl)
def E5(a0:bm)(a1:Int):Option ((Int×PUnit)×PUnit):=Nr.ao (a0,a1,())
theorem ad9(a0:bm)(a1:Int):E5 a0 a1 =
 (yQ a0.fst a1).bind λy =>
 bif decide (y.fst.fst<0)then some ((-1,()),())
 else
 (yW a0.snd y.fst.fst).bind λy =>
  bif decide (y.fst.fst<0)then some ((-1,()),())else some ((y.fst.fst,()),()):=by kernel_rfl
def Ld:Env:=Eu.env C AL.1 Tryz.f254
def OK:=Eu.out C
def xw(x0:List Int)(x3:List Int)(x4:Int):Option ((List Int×PUnit)×PUnit):=aN Ld [1,1,0,1,0] (Tryz.f254.body.getD .skip) OK (V.d none 0 bl x0::dd 2 (V.d none (ag.depth+1) (Ty.slice 3 ag) x3::V.d none 0 (Ty.int IntKind.i64) x4::dd 17 ([])))
def oD(a0:List Int):Option ((List Int×PUnit)×PUnit):=Nv.ao (a0,())
def aiM:List (Nat×List Nat):=[(1000003,[1,1,0,1,0])]
theorem U0:okB aiM (Tryz.f254.body.getD .skip) []=true:=by kernel_rfl
theorem Qo(x0:List Int)(x3:List Int)(x4:Int):xw x0 x3 x4 =
 bif decide (x4<(↑x0.length:Int))then
 (ab x0 x4).bind λy =>
 (ab x3 x4).bind λaC =>
  (ab x3 x4).bind λbP =>
  (ab x3 x4).bind λcd=>(some (x3.set x4.toNat y)).bind λy=>xw x0 y (IntKind.i64.wrap (x4+1))
else some ((x3,()),()):=(aQ U0 [1,1,0,1,0] (by kernel_rfl) _).trans (by kernel_rfl)
theorem aeh(a0:List Int):oD a0 =
 bif
 decide (0<=(↑a0.length:Int))&&decide ((↑a0.length:Int)<=(↑a0.length:Int)) &&
  decide ((↑a0.length:Int)*(↑8:Int)<=140737488355328) &&
  decide ((↑a0.length:Int)<=9223372036854775807)then
 xw a0 (List.replicate a0.length (0:Int)) 0
else none:=(Eq.trans (by kernel_rfl:oD a0=aw Ld (Tryz.f254.body.getD .skip) OK (aU 22 [(bl,Mode.ro)] (a0,()))) (all_eq U0 _)).trans (by kernel_rfl)
def tw(a0:aa):Option ((aa×PUnit)×PUnit):=Ns.ao (a0,())
theorem aed(a0:aa):tw a0 =
 (oD a0.fst).bind λy=>some (((y.fst.fst,a0.snd.fst,a0.snd.snd),()),()):=by kernel_rfl
def Lc:Env:=Et.env C AM.1 Tryz.f335
def OJ:=Et.out C
def xu(x0:List aa)(x3:List aa)(x4:Int):Option ((List aa×PUnit)×PUnit):=aN Lc [1,1,0,1,0] (Tryz.f335.body.getD .skip) OJ (V.d none 0 nc x0::dd 2 (V.d none (aF.depth+1) (Ty.slice 153 aF) x3::V.d none 0 (Ty.int IntKind.i64) x4::dd 18 ([])))
def yX(a0:List aa):Option ((List aa×PUnit)×PUnit):=Nt.ao (a0,())
def aiL:List (Nat×List Nat):=[(1000003,[1,1,0,1,0])]
theorem UY:okB aiL (Tryz.f335.body.getD .skip) []=true:=by kernel_rfl
theorem Qm(x0:List aa)(x3:List aa)(x4:Int):xu x0 x3 x4 =
 bif decide (x4<(↑x0.length:Int))then
 (ab x0 x4).bind λy =>
 (tw y).bind λy =>
  (ab x3 x4).bind λaC =>
  (ab x3 x4).bind λbP =>
   (ab x3 x4).bind λcd =>
   (some (x3.set x4.toNat y.fst.fst)).bind λy=>xu x0 y (IntKind.i64.wrap (x4+1))
else some ((x3,()),()):=(aQ UY [1,1,0,1,0] (by kernel_rfl) _).trans (by kernel_rfl)
theorem aeb(a0:List aa):yX a0 =
 bif
 decide (0<=(↑a0.length:Int))&&decide ((↑a0.length:Int)<=(↑a0.length:Int)) &&
  decide ((↑a0.length:Int)*(↑40:Int)<=140737488355328) &&
  decide ((↑a0.length:Int)<=9223372036854775807)then
 xu a0 (List.replicate a0.length ([],0,false)) 0
else none:=(Eq.trans (by kernel_rfl:yX a0=aw Lc (Tryz.f335.body.getD .skip) OJ (aU 23 [(nc,Mode.ro)] (a0,()))) (all_eq UY _)).trans (by kernel_rfl)
def yY(a0:Int×List aa):Option ((an×PUnit)×PUnit):=Nu.ao (a0,())
theorem aee(a0:Int×List aa):yY a0 =
 (yX a0.snd).bind λy=>some (((a0.fst,y.fst.fst),()),()):=by kernel_rfl
def y6(a0:ByteArray×Int×List aa):Option ((Rw×PUnit)×PUnit):=NB.ao (a0,())
theorem aes(a0:ByteArray×Int×List aa):y6 a0 =
 (yY a0.snd).bind λy=>some (((a0.fst,y.fst.fst),()),()):=by kernel_rfl
def Lh:Env:=Ez.env C AQ.1 Tryz.f243
def OO:=Ez.out C
def xz(x0:List Rw)(x3:List Rw)(x4:Int):Option ((List Rw×PUnit)×PUnit):=aN Lh [1,1,0,1,0] (Tryz.f243.body.getD .skip) OO (V.d none 0 mZ x0::dd 2 (V.d none (oi.depth+1) (Ty.slice 304 oi) x3::V.d none 0 (Ty.int IntKind.i64) x4::dd 18 ([])))
def y7(a0:List Rw):Option ((List Rw×PUnit)×PUnit):=NC.ao (a0,())
def aiQ:List (Nat×List Nat):=[(1000003,[1,1,0,1,0])]
theorem U3:okB aiQ (Tryz.f243.body.getD .skip) []=true:=by kernel_rfl
theorem Qr(x0:List Rw)(x3:List Rw)(x4:Int):xz x0 x3 x4 =
 bif decide (x4<(↑x0.length:Int))then
 (ab x0 x4).bind λy =>
 (y6 y).bind λy =>
  (ab x3 x4).bind λaC =>
  (ab x3 x4).bind λbP =>
   (ab x3 x4).bind λcd =>
   (some (x3.set x4.toNat y.fst.fst)).bind λy=>xz x0 y (IntKind.i64.wrap (x4+1))
else some ((x3,()),()):=(aQ U3 [1,1,0,1,0] (by kernel_rfl) _).trans (by kernel_rfl)
theorem aeq(a0:List Rw):y7 a0 =
 bif
 decide (0<=(↑a0.length:Int))&&decide ((↑a0.length:Int)<=(↑a0.length:Int)) &&
  decide ((↑a0.length:Int)*(↑48:Int)<=140737488355328) &&
  decide ((↑a0.length:Int)<=9223372036854775807)then
 xz a0 (List.replicate a0.length (ByteArray.empty,0,[])) 0
else none:=(Eq.trans (by kernel_rfl:y7 a0=aw Lh (Tryz.f243.body.getD .skip) OO (aU 23 [(mZ,Mode.ro)] (a0,()))) (all_eq U3 _)).trans (by kernel_rfl)
def y5(a0:ByteArray×Int×List Rw):Option ((Rel×PUnit)×PUnit):=Nz.ao (a0,())
theorem aeo(a0:ByteArray×Int×List Rw):y5 a0 =
 (y7 a0.snd.snd).bind λy=>some (((a0.fst,a0.snd.fst,y.fst.fst),()),()):=by kernel_rfl
def Lg:Env:=Ey.env C AP.1 Tryz.f46
def ON:=Ey.out C
def xy(x0:List Rel)(x3:List Rel)(x4:Int):Option ((List Rel×PUnit)×PUnit):=aN Lg [1,1,0,1,0] (Tryz.f46.body.getD .skip) ON (V.d none 0 ie x0::dd 2 (V.d none (iT.depth+1) (Ty.slice 210 iT) x3::V.d none 0 (Ty.int IntKind.i64) x4::dd 18 ([])))
def oE(a0:List Rel):Option ((List Rel×PUnit)×PUnit):=NA.ao (a0,())
def aiP:List (Nat×List Nat):=[(1000003,[1,1,0,1,0])]
theorem U2:okB aiP (Tryz.f46.body.getD .skip) []=true:=by kernel_rfl
theorem Qq(x0:List Rel)(x3:List Rel)(x4:Int):xy x0 x3 x4 =
 bif decide (x4<(↑x0.length:Int))then
 (ab x0 x4).bind λy =>
 (y5 y).bind λy =>
  (ab x3 x4).bind λaC =>
  (ab x3 x4).bind λbP =>
   (ab x3 x4).bind λcd =>
   (some (x3.set x4.toNat y.fst.fst)).bind λy=>xy x0 y (IntKind.i64.wrap (x4+1))
else some ((x3,()),()):=(aQ U2 [1,1,0,1,0] (by kernel_rfl) _).trans (by kernel_rfl)
theorem aem(a0:List Rel):oE a0 =
 bif
 decide (0<=(↑a0.length:Int))&&decide ((↑a0.length:Int)<=(↑a0.length:Int)) &&
  decide ((↑a0.length:Int)*(↑48:Int)<=140737488355328) &&
  decide ((↑a0.length:Int)<=9223372036854775807)then
 xy a0 (List.replicate a0.length (ByteArray.empty,0,[])) 0
else none:=(Eq.trans (by kernel_rfl:oE a0=aw Lg (Tryz.f46.body.getD .skip) ON (aU 23 [(ie,Mode.ro)] (a0,()))) (all_eq U2 _)).trans (by kernel_rfl)
def y3(a0:Int×aa×ByteArray×ByteArray×List Int×Int×Int×Int):Option ((aM×PUnit)×PUnit):=Nx.ao (a0,())
theorem aek(a0:Int×aa×ByteArray×ByteArray×List Int×Int×Int×Int):y3 a0 =
 (tw a0.snd.fst).bind λy =>
 (oD a0.snd.snd.snd.snd.fst).bind λaC =>
 some
  (((a0.fst,y.fst.fst,a0.snd.snd.fst,a0.snd.snd.snd.fst,aC.fst.fst,a0.snd.snd.snd.snd.snd.fst,
   a0.snd.snd.snd.snd.snd.snd.fst,a0.snd.snd.snd.snd.snd.snd.snd),
   ()),
  ()):=by kernel_rfl
def Lf:Env:=Ew.env C AN.1 Tryz.f54
def OM:=Ew.out C
def xx(x0:List aM)(x3:List aM)(x4:Int):Option ((List aM×PUnit)×PUnit):=aN Lf [1,1,0,1,0] (Tryz.f54.body.getD .skip) OM (V.d none 0 lJ x0::dd 2 (V.d none (fk.depth+1) (Ty.slice 225 fk) x3::V.d none 0 (Ty.int IntKind.i64) x4::dd 18 ([])))
def y4(a0:List aM):Option ((List aM×PUnit)×PUnit):=Ny.ao (a0,())
def aiO:List (Nat×List Nat):=[(1000003,[1,1,0,1,0])]
theorem U1:okB aiO (Tryz.f54.body.getD .skip) []=true:=by kernel_rfl
theorem Qp(x0:List aM)(x3:List aM)(x4:Int):xx x0 x3 x4 =
 bif decide (x4<(↑x0.length:Int))then
 (ab x0 x4).bind λy =>
 (y3 y).bind λy =>
  (ab x3 x4).bind λaC =>
  (ab x3 x4).bind λbP =>
   (ab x3 x4).bind λcd =>
   (some (x3.set x4.toNat y.fst.fst)).bind λy=>xx x0 y (IntKind.i64.wrap (x4+1))
else some ((x3,()),()):=(aQ U1 [1,1,0,1,0] (by kernel_rfl) _).trans (by kernel_rfl)
theorem aei(a0:List aM):y4 a0 =
 bif
 decide (0<=(↑a0.length:Int))&&decide ((↑a0.length:Int)<=(↑a0.length:Int)) &&
  decide ((↑a0.length:Int)*(↑128:Int)<=140737488355328) &&
  decide ((↑a0.length:Int)<=9223372036854775807)then
 xx a0 (List.replicate a0.length (0,([],0,false),ByteArray.empty,ByteArray.empty,[],0,0,0)) 0
else none:=(Eq.trans (by kernel_rfl:y4 a0=aw Lf (Tryz.f54.body.getD .skip) OM (aU 23 [(lJ,Mode.ro)] (a0,()))) (all_eq U1 _)).trans (by kernel_rfl)
def Le:Env:=Ev.env C AO.1 Tryz.f311
def OL:=Ev.out C
def xv(x0:List (List Int))(x3:List (List Int))(x4:Int):Option ((List (List Int)×PUnit)×PUnit):=aN Le [1,1,0,1,0] (Tryz.f311.body.getD .skip) OL (V.d none 0 eB x0::dd 2 (V.d none (bl.depth+1) (Ty.slice 32 bl) x3::V.d none 0 (Ty.int IntKind.i64) x4::dd 18 ([])))
def yZ(a0:List (List Int)):Option ((List (List Int)×PUnit)×PUnit):=Nw.ao (a0,())
def aiN:List (Nat×List Nat):=[(1000003,[1,1,0,1,0])]
theorem UZ:okB aiN (Tryz.f311.body.getD .skip) []=true:=by kernel_rfl
theorem Qn(x0:List (List Int))(x3:List (List Int))(x4:Int):xv x0 x3 x4 =
 bif decide (x4<(↑x0.length:Int))then
 (ab x0 x4).bind λy =>
 (oD y).bind λy =>
  (ab x3 x4).bind λaC =>
  (ab x3 x4).bind λbP =>
   (ab x3 x4).bind λcd =>
   (some (x3.set x4.toNat y.fst.fst)).bind λy=>xv x0 y (IntKind.i64.wrap (x4+1))
else some ((x3,()),()):=(aQ UZ [1,1,0,1,0] (by kernel_rfl) _).trans (by kernel_rfl)
theorem aef(a0:List (List Int)):yZ a0 =
 bif
 decide (0<=(↑a0.length:Int))&&decide ((↑a0.length:Int)<=(↑a0.length:Int)) &&
  decide ((↑a0.length:Int)*(↑24:Int)<=140737488355328) &&
  decide ((↑a0.length:Int)<=9223372036854775807)then
 xv a0 (List.replicate a0.length []) 0
else none:=(Eq.trans (by kernel_rfl:yZ a0=aw Le (Tryz.f311.body.getD .skip) OL (aU 23 [(eB,Mode.ro)] (a0,()))) (all_eq UZ _)).trans (by kernel_rfl)
def y8(a0:an×List (List Int)):Option ((bA×PUnit)×PUnit):=ND.ao (a0,())
theorem aew(a0:an×List (List Int)):y8 a0 =
 (yY a0.fst).bind λy=>(yZ a0.snd).bind λaC=>some (((y.fst.fst,aC.fst.fst),()),()):=by kernel_rfl
def Li:Env:=EA.env C AR.1 Tryz.f143
def OP:=EA.out C
def xA(x0:List bA)(x3:List bA)(x4:Int):Option ((List bA×PUnit)×PUnit):=aN Li [1,1,0,1,0] (Tryz.f143.body.getD .skip) OP (V.d none 0 nh x0::dd 2 (V.d none (hY.depth+1) (Ty.slice 48 hY) x3::V.d none 0 (Ty.int IntKind.i64) x4::dd 18 ([])))
def za(a0:List bA):Option ((List bA×PUnit)×PUnit):=NF.ao (a0,())
def aiR:List (Nat×List Nat):=[(1000003,[1,1,0,1,0])]
theorem U4:okB aiR (Tryz.f143.body.getD .skip) []=true:=by kernel_rfl
theorem Qs(x0:List bA)(x3:List bA)(x4:Int):xA x0 x3 x4 =
 bif decide (x4<(↑x0.length:Int))then
 (ab x0 x4).bind λy =>
 (y8 y).bind λy =>
  (ab x3 x4).bind λaC =>
  (ab x3 x4).bind λbP =>
   (ab x3 x4).bind λcd =>
   (some (x3.set x4.toNat y.fst.fst)).bind λy=>xA x0 y (IntKind.i64.wrap (x4+1))
else some ((x3,()),()):=(aQ U4 [1,1,0,1,0] (by kernel_rfl) _).trans (by kernel_rfl)
theorem aeu(a0:List bA):za a0 =
 bif
 decide (0<=(↑a0.length:Int))&&decide ((↑a0.length:Int)<=(↑a0.length:Int)) &&
  decide ((↑a0.length:Int)*(↑56:Int)<=140737488355328) &&
  decide ((↑a0.length:Int)<=9223372036854775807)then
 xA a0 (List.replicate a0.length ((0,[]),[])) 0
else none:=(Eq.trans (by kernel_rfl:za a0=aw Li (Tryz.f143.body.getD .skip) OP (aU 23 [(nh,Mode.ro)] (a0,()))) (all_eq U4 _)).trans (by kernel_rfl)
def qS(a0:bm):Option ((bm ×
 PUnit) ×
 PUnit):=NG.ao (a0,())
theorem aey(a0:bm):qS a0 =
 (y4 a0.fst).bind λy=>(za a0.snd).bind λaC=>some (((y.fst.fst,aC.fst.fst),()),()):=by kernel_rfl
def gB(a0:Int)(a1:Int)(a2:Int):Option ((Bool×PUnit)×PUnit):=Mm.ao (a0,a1,a2,())
theorem acn(a0:Int)(a1:Int)(a2:Int):gB a0 a1 a2 =
 bif decide (a0>=a1)then some ((decide (a0<=a2),()),())else some ((false,()),()):=by kernel_rfl
def ya(a0:Int):Option ((Bool×PUnit)×PUnit):=Mc.ao (a0,())
theorem ab6(a0:Int):ya a0 =
 (gB a0 (-400000000) 400000000).bind λy=>some ((y.fst.fst,()),()):=by kernel_rfl
def tp(a0:Int):Option ((Int×PUnit)×PUnit):=Ml.ao (a0,())
theorem QS(a0:Int):tp a0 =
 some
 ((bif true then if a0<IntKind.i64.wrap (0 - a0)then IntKind.i64.wrap (0 - a0)else a0
  else if IntKind.i64.wrap (0 - a0)<a0 then IntKind.i64.wrap (0 - a0)else a0,
  ()),
 ()):=by kernel_rfl
def CO:Env:=DT.env C zZ.1 Tryz.f325
def C2:=DT.out C
def wN(x0:List Int)(x5:Int)(x6:Int)(x7:Int):Option ((Int×PUnit)×PUnit):=aN CO [1,1,0,1,0,0,1,0,0,1,0] (Tryz.f325.body.getD .skip) C2 (V.d none 0 bl x0::dd 4 (V.d none 0 ag x5::V.d none 0 (Ty.int IntKind.i64) x6::V.d none 0 ag x7::dd 20 ([])))
def qz(x0:List Int)(x5:Int)(x6:Int):Option ((Int×PUnit)×PUnit):=aN CO [1,1,0,1,0] (Tryz.f325.body.getD .skip) C2 (V.d none 0 bl x0::dd 4 (V.d none 0 ag x5::V.d none 0 (Ty.int IntKind.i64) x6::dd 21 ([])))
def oB(a0:List Int)(a1:Int):Option ((Int×PUnit)×PUnit):=Mp.ao (a0,a1,())
def aib:List (Nat×List Nat):=[(1000003,[1,1,0,1,0]),(1000006,[1,1,0,1,0,0,1,0,0,1,0])]
theorem Ii:okB aib (Tryz.f325.body.getD .skip) []=true:=by kernel_rfl
theorem ZQ(x0:List Int)(x5:Int)(x6:Int)(x7:Int):wN x0 x5 x6 x7 =
 bif x7 != 0 then bif x7 != 0 then wN x0 x7 x6 (x5.tmod x7)else none
else qz x0 x5 (IntKind.i64.wrap (x6+1)):=(aQ Ii [1,1,0,1,0,0,1,0,0,1,0] (by kernel_rfl) _).trans (by kernel_rfl)
theorem wM(x0:List Int)(x5:Int)(x6:Int):qz x0 x5 x6 =
 bif decide (x6<(↑x0.length:Int))then
 (ab x0 x6).bind λy=>(tp y).bind λy=>wN x0 x5 x6 y.fst.fst
else some ((x5,()),()):=(aQ Ii [1,1,0,1,0] (by kernel_rfl) _).trans (by kernel_rfl)
theorem QU(a0:List Int)(a1:Int):oB a0 a1 =
 (tp a1).bind λy=>qz a0 y.fst.fst 0:=(Eq.trans (by kernel_rfl:oB a0 a1=aw CO (Tryz.f325.body.getD .skip) C2 (aU 28 [(bl,Mode.ro),(ag,Mode.ro)] (a0,a1,()))) (all_eq Ii _)).trans (by kernel_rfl)
def Kw:Env:=DG.env C z7.1 Tryz.f280
def N0:=DG.out C
def qu(x1:aa)(x3:Int):Option ((Bool×PUnit)×PUnit):=aN Kw [1,1,0,1,0] (Tryz.f280.body.getD .skip) N0 (V.dead::(V.box none 0 aF x1::V.dead::(V.d none 0 (Ty.int IntKind.i64) x3::dd 30 ([]))))
def lP(a0:aa):Option ((Bool×PUnit)×PUnit):=L6.ao (a0,())
def ahY:List (Nat×List Nat):=[(1000004,[1,1,0,1,0])]
theorem Ui:okB ahY (Tryz.f280.body.getD .skip) []=true:=by kernel_rfl
theorem Pp(x1:aa)(x3:Int):qu x1 x3 =
 bif decide (x3<(↑(List.length x1.fst):Int))then
 (ab x1.fst x3).bind λy =>
 (ya y).bind λy =>
  bif !y.fst.fst then some ((false,()),())else qu x1 (IntKind.i64.wrap (x3+1))
else (oB x1.fst x1.snd.fst).bind λy=>some ((decide (y.fst.fst<=1),()),()):=(aQ Ui [1,1,0,1,0] (by kernel_rfl) _).trans (by kernel_rfl)
theorem abY(a0:aa):lP a0 =
 bif decide ((↑(List.length a0.fst):Int)>4)then some ((false,()),())
else (ya a0.snd.fst).bind λy=>bif !y.fst.fst then some ((false,()),())else qu a0 0:=(Eq.trans (by kernel_rfl:lP a0=aw Kw (Tryz.f280.body.getD .skip) N0 (aU 34 [(aF,Mode.ro)] (a0,()))) (all_eq Ui _)).trans (by kernel_rfl)
def Kx:Env:=DH.env C zJ.1 Tryz.f201
def N1:=DH.out C
def qv(x1:Int×List aa)(x3:Int):Option ((Bool×PUnit)×PUnit):=aN Kx [1,0,1,0] (Tryz.f201.body.getD .skip) N1 (V.dead::(V.box none 0 aK x1::V.dead::(V.d none 0 (Ty.int IntKind.i64) x3::dd 35 ([]))))
def kJ(a0:Int×List aa):Option ((Bool×PUnit)×PUnit):=L7.ao (a0,())
def ahZ:List (Nat×List Nat):=[(1000002,[1,0,1,0])]
theorem Uj:okB ahZ (Tryz.f201.body.getD .skip) []=true:=by kernel_rfl
theorem Pq(x1:Int×List aa)(x3:Int):qv x1 x3 =
 bif decide (x3<(↑(List.length x1.snd):Int))then
 (ab x1.snd x3).bind λy =>
 (lP y).bind λy =>
  bif !y.fst.fst then some ((false,()),())
  else
  (ab x1.snd x3).bind λy =>
   bif (↑(List.length y.fst):Int) != x1.fst then some ((false,()),())
   else qv x1 (IntKind.i64.wrap (x3+1))
else
 (gB x1.fst 0 4).bind λy =>
 bif y.fst.fst then some ((decide ((↑(List.length x1.snd):Int)<=16),()),())else some ((false,()),()):=(aQ Uj [1,0,1,0] (by kernel_rfl) _).trans (by kernel_rfl)
theorem abZ(a0:Int×List aa):kJ a0 =
 qv a0 0:=(Eq.trans (by kernel_rfl:kJ a0=aw Kx (Tryz.f201.body.getD .skip) N1 (aU 39 [(aK,Mode.ro)] (a0,()))) (all_eq Uj _)).trans (by kernel_rfl)
def KK:Env:=D0.env C zK.1 Tryz.f184
def Oe:=D0.out C
def ti(x0:ByteArray)(x1:Int)(x2:Int)(x7:Int):Option ((Bool×PUnit)×PUnit):=aN KK [1,0,1,0] (Tryz.f184.body.getD .skip) Oe (V.d none 0 bY x0::V.d none 0 hZ x1::V.d none 0 hZ x2::dd 4 (V.d none 0 (Ty.int IntKind.i64) x7::dd 21 ([])))
def qN(a0:ByteArray)(a1:Int)(a2:Int):Option ((Bool×PUnit)×PUnit):=MC.ao (a0,a1,a2,())
def aij:List (Nat×List Nat):=[(1000002,[1,0,1,0])]
theorem Uw:okB aij (Tryz.f184.body.getD .skip) []=true:=by kernel_rfl
theorem PU(x0:ByteArray)(x1:Int)(x2:Int)(x7:Int):ti x0 x1 x2 x7 =
 bif decide (x7<(↑x0.size:Int))then
 (lY x0 x7).bind λy =>
 bif decide (y<x1)then some ((false,()),())
 else
  (lY x0 x7).bind λy =>
  bif decide (y>x2)then some ((false,()),())else ti x0 x1 x2 (IntKind.i64.wrap (x7+1))
else (gB (↑x0.size:Int) 1 6).bind λy=>some ((y.fst.fst,()),()):=(aQ Uw [1,0,1,0] (by kernel_rfl) _).trans (by kernel_rfl)
theorem acM(a0:ByteArray)(a1:Int)(a2:Int):qN a0 a1 a2 =
 ti a0 a1 a2 0:=(Eq.trans (by kernel_rfl:qN a0 a1 a2=aw KK (Tryz.f184.body.getD .skip) Oe (aU 29 [(bY,Mode.ro),(hZ,Mode.ro),(hZ,Mode.ro)] (a0,a1,a2,()))) (all_eq Uw _)).trans (by kernel_rfl)
def KB:Env:=DM.env C Ag.1 Tryz.f258
def N5:=DM.out C
def qy(x1:ByteArray×Int×List Rw)(x3:Int):Option ((Bool×PUnit)×PUnit):=aN KB [1,0,1,0] (Tryz.f258.body.getD .skip) N5 (V.dead::(V.box none 0 iT x1::V.dead::(V.d none 0 (Ty.int IntKind.i64) x3::dd 51 ([]))))
def yc(a0:ByteArray×Int×List Rw):Option ((Bool×PUnit)×PUnit):=Mf.ao (a0,())
def ah4:List (Nat×List Nat):=[(1000002,[1,0,1,0])]
theorem Un:okB ah4 (Tryz.f258.body.getD .skip) []=true:=by kernel_rfl
theorem Px(x1:ByteArray×Int×List Rw)(x3:Int):qy x1 x3 =
 bif decide (x3<(↑(List.length x1.snd.snd):Int))then
 (ab x1.snd.snd x3).bind λy =>
 (qN y.fst 97 122).bind λy =>
  bif !y.fst.fst then some ((false,()),())
  else
  (ab x1.snd.snd x3).bind λy =>
   (kJ y.snd).bind λy =>
   bif !y.fst.fst then some ((false,()),())
   else
    (ab x1.snd.snd x3).bind λy =>
    bif y.snd.fst != x1.snd.fst then some ((false,()),())else qy x1 (IntKind.i64.wrap (x3+1))
else
 (qN x1.fst 65 90).bind λy =>
 bif y.fst.fst then
  (gB x1.snd.fst 0 4).bind λy =>
  bif y.fst.fst then some ((decide ((↑(List.length x1.snd.snd):Int)<=8),()),())else some ((false,()),())
 else some ((false,()),()):=(aQ Un [1,0,1,0] (by kernel_rfl) _).trans (by kernel_rfl)
theorem ab9(a0:ByteArray×Int×List Rw):yc a0 =
 qy a0 0:=(Eq.trans (by kernel_rfl:yc a0=aw KB (Tryz.f258.body.getD .skip) N5 (aU 55 [(iT,Mode.ro)] (a0,()))) (all_eq Un _)).trans (by kernel_rfl)
def Kv:Env:=DF.env C zS.1 Tryz.f259
def NZ:=DF.out C
def wI(x0:List Rel)(x1:ByteArray)(x5:Int):Option ((Int×PUnit)×PUnit):=aN Kv [1,0,1,0] (Tryz.f259.body.getD .skip) NZ (V.d none 0 bo x0::V.d none 0 bY x1::dd 3 (V.d none 0 (Ty.int IntKind.i64) x5::dd 14 ([])))
def qI(a0:List Rel)(a1:ByteArray):Option ((Int×PUnit)×PUnit):=L4.ao (a0,a1,())
def ahX:List (Nat×List Nat):=[(1000002,[1,0,1,0])]
theorem Uh:okB ahX (Tryz.f259.body.getD .skip) []=true:=by kernel_rfl
theorem Po(x0:List Rel)(x1:ByteArray)(x5:Int):wI x0 x1 x5 =
 bif decide (x5<(↑x0.length:Int))then
 (ab x0 x5).bind λy =>
 bif ByteArray.toList y.fst==x1.toList then some ((x5,()),())
 else wI x0 x1 (IntKind.i64.wrap (x5+1))
else some ((-1,()),()):=(aQ Uh [1,0,1,0] (by kernel_rfl) _).trans (by kernel_rfl)
theorem abV(a0:List Rel)(a1:ByteArray):qI a0 a1 =
 wI a0 a1 0:=(Eq.trans (by kernel_rfl:qI a0 a1=aw Kv (Tryz.f259.body.getD .skip) NZ (aU 20 [(bo,Mode.ro),(bY,Mode.ro)] (a0,a1,()))) (all_eq Uh _)).trans (by kernel_rfl)
def Ky:Env:=DI.env C zF.1 Tryz.f158
def N2:=DI.out C
def qw(x0:List Rel)(x3:Int):Option ((Bool×PUnit)×PUnit):=aN Ky [1,0,1,0] (Tryz.f158.body.getD .skip) N2 (V.d none 0 bo x0::dd 2 (V.d none 0 (Ty.int IntKind.i64) x3::dd 27 ([])))
def xX(a0:List Rel):Option ((Bool×PUnit)×PUnit):=L8.ao (a0,())
def ah0:List (Nat×List Nat):=[(1000002,[1,0,1,0])]
theorem Uk:okB ah0 (Tryz.f158.body.getD .skip) []=true:=by kernel_rfl
theorem Pr(x0:List Rel)(x3:Int):qw x0 x3 =
 bif decide (x3<(↑x0.length:Int))then
 (ab x0 x3).bind λy =>
 (yc y).bind λy =>
  bif !y.fst.fst then some ((false,()),())
  else
  bif decide (0<=0)&&decide (0<=x3)&&decide (x3<=(↑x0.length:Int))then
   (ab x0 x3).bind λy =>
   (qI (List.drop (Int.toNat 0) (List.take x3.toNat x0)) y.fst).bind λy =>
    bif decide (y.fst.fst>=0)then some ((false,()),())else qw x0 (IntKind.i64.wrap (x3+1))
  else none
else some ((decide ((↑x0.length:Int)<=6),()),()):=(aQ Uk [1,0,1,0] (by kernel_rfl) _).trans (by kernel_rfl)
theorem ab0(a0:List Rel):xX a0 =
 qw a0 0:=(Eq.trans (by kernel_rfl:xX a0=aw Ky (Tryz.f158.body.getD .skip) N2 (aU 31 [(bo,Mode.ro)] (a0,()))) (all_eq Uk _)).trans (by kernel_rfl)
def EP(a0:aa):Option ((Bool×PUnit)×PUnit):=MA.ao (a0,())
theorem acI(a0:aa):EP a0 =
 bif (↑(List.length a0.fst):Int)==0 then
 bif a0.snd.fst==0 then some ((!a0.snd.snd,()),())else some ((false,()),())
else some ((false,()),()):=by kernel_rfl
def wa:Env:=DZ.env C Ae.1 Tryz.f314
def wv:=DZ.out C
def qC(x0:List Rel)(x3:Int×aa×ByteArray×ByteArray×List Int×Int×Int×Int)(x5:Int)(x6:Int):Option ((Bool×PUnit)×PUnit):=aN wa [1,1,1,0,1,0,1,1,1,0,1,0,1,0] (Tryz.f314.body.getD .skip) wv (V.d none 0 bo x0::dd 2 (V.box none 0 fk x3::V.dead::(V.d none 0 ag x5::V.d none 0 (Ty.int IntKind.i64) x6::dd 133 ([]))))
def eT(x0:List Rel)(x3:Int×aa×ByteArray×ByteArray×List Int×Int×Int×Int):Option ((Bool×PUnit)×PUnit):=gw wa [1,1,1] (Tryz.f314.body.getD .skip) wv (V.d none 0 bo x0::dd 2 (V.box none 0 fk x3::dd 136 ([])))
def qm(x0:List Rel)(x3:Int×aa×ByteArray×ByteArray×List Int×Int×Int×Int):Option ((Bool×PUnit)×PUnit):=gw wa [1,1] (Tryz.f314.body.getD .skip) wv (V.d none 0 bo x0::dd 2 (V.box none 0 fk x3::dd 136 ([])))
def yo(a0:List Rel)(a1:Int×aa×ByteArray×ByteArray×List Int×Int×Int×Int):Option ((Bool×PUnit)×PUnit):=MB.ao (a0,a1,())
def aii:List (Nat×List Nat):=[(2000003,[1,1]),(2000005,[1,1,1]),(1000011,[1,1,1,0,1,0,1,1,1,0,1,0,1,0])]
theorem BM:okB aii (Tryz.f314.body.getD .skip) []=true:=by kernel_rfl
theorem PT(x0:List Rel)(x3:Int×aa×ByteArray×ByteArray×List Int×Int×Int×Int)(x5:Int)(x6:Int):qC x0 x3 x5 x6 =
 bif decide (x6<(↑(List.length x3.snd.snd.snd.snd.fst):Int))then
 (ab x3.snd.snd.snd.snd.fst x6).bind λy =>
 (gB y 0 3).bind λy =>
  bif !y.fst.fst then some ((false,()),())else qC x0 x3 x5 (IntKind.i64.wrap (x6+1))
else
 bif decide (x5>=0)then
 (ab x0 x5).bind λy =>
  bif y.snd.fst==(↑(List.length x3.snd.snd.snd.snd.fst):Int)then
  bif ByteArray.toList x3.snd.snd.snd.fst==(ByteArray.mk #[]).toList then some ((true,()),())
  else (qN x3.snd.snd.snd.fst 97 122).bind λy=>some ((y.fst.fst,()),())
  else some ((false,()),())
 else some ((false,()),()):=(aQ BM [1,1,1,0,1,0,1,1,1,0,1,0,1,0] (by kernel_rfl) _).trans (by kernel_rfl)
theorem ZK(x0:List Rel)(x3:Int×aa×ByteArray×ByteArray×List Int×Int×Int×Int):eT x0 x3 =
 bif x3.fst==0 then
 (lP x3.snd.fst).bind λy =>
 bif y.fst.fst then some (((↑(List.length x3.snd.fst.fst):Int)==4,()),())else some ((false,()),())
else
 bif x3.fst==1 then (qI x0 x3.snd.snd.fst).bind λy=>qC x0 x3 y.fst.fst 0
 else
 (gB x3.fst 2 6).bind λy =>
  bif y.fst.fst then (gB x3.snd.snd.snd.snd.snd.fst 0 3).bind λy=>some ((y.fst.fst,()),())
  else some ((false,()),()):=(join_eq BM [1,1,1] _).trans (by kernel_rfl)
theorem ZI(x0:List Rel)(x3:Int×aa×ByteArray×ByteArray×List Int×Int×Int×Int):qm x0 x3 =
 bif x3.fst != 5 then
 bif x3.fst != 6 then
 bif x3.snd.snd.snd.snd.snd.fst != 0 then some ((false,()),())
 else
  bif x3.fst != 3 then
  bif x3.fst != 4 then
   bif x3.snd.snd.snd.snd.snd.snd.snd != 0 then some ((false,()),())
   else
   bif decide (x3.fst<=1)then
    bif x3.snd.snd.snd.snd.snd.snd.fst != 0 then some ((false,()),())else eT x0 x3
   else eT x0 x3
  else
   bif decide (x3.fst<=1)then
   bif x3.snd.snd.snd.snd.snd.snd.fst != 0 then some ((false,()),())else eT x0 x3
   else eT x0 x3
  else
  bif decide (x3.fst<=1)then
   bif x3.snd.snd.snd.snd.snd.snd.fst != 0 then some ((false,()),())else eT x0 x3
  else eT x0 x3
 else
 bif x3.fst != 3 then
  bif x3.fst != 4 then
  bif x3.snd.snd.snd.snd.snd.snd.snd != 0 then some ((false,()),())
  else
   bif decide (x3.fst<=1)then
   bif x3.snd.snd.snd.snd.snd.snd.fst != 0 then some ((false,()),())else eT x0 x3
   else eT x0 x3
  else
  bif decide (x3.fst<=1)then
   bif x3.snd.snd.snd.snd.snd.snd.fst != 0 then some ((false,()),())else eT x0 x3
  else eT x0 x3
 else
  bif decide (x3.fst<=1)then
  bif x3.snd.snd.snd.snd.snd.snd.fst != 0 then some ((false,()),())else eT x0 x3
  else eT x0 x3
else
 bif x3.fst != 3 then
 bif x3.fst != 4 then
  bif x3.snd.snd.snd.snd.snd.snd.snd != 0 then some ((false,()),())
  else
  bif decide (x3.fst<=1)then
   bif x3.snd.snd.snd.snd.snd.snd.fst != 0 then some ((false,()),())else eT x0 x3
  else eT x0 x3
 else
  bif decide (x3.fst<=1)then
  bif x3.snd.snd.snd.snd.snd.snd.fst != 0 then some ((false,()),())else eT x0 x3
  else eT x0 x3
 else
 bif decide (x3.fst<=1)then
  bif x3.snd.snd.snd.snd.snd.snd.fst != 0 then some ((false,()),())else eT x0 x3
 else eT x0 x3:=(join_eq BM [1,1] _).trans (by kernel_rfl)
theorem acK(a0:List Rel)(a1:Int×aa×ByteArray×ByteArray×List Int×Int×Int×Int):yo a0 a1 =
 bif a1.fst != 0 then
 (EP a1.snd.fst).bind λy =>
 bif !y.fst.fst then some ((false,()),())
 else
  bif a1.fst != 1 then
  bif !ByteArray.toList a1.snd.snd.fst==(ByteArray.mk #[]).toList then some ((false,()),())
  else
   bif !ByteArray.toList a1.snd.snd.snd.fst==(ByteArray.mk #[]).toList then some ((false,()),())
   else
   bif decide ((↑(List.length a1.snd.snd.snd.snd.fst):Int)>0)then some ((false,()),())else qm a0 a1
  else qm a0 a1
else
 bif a1.fst != 1 then
 bif !ByteArray.toList a1.snd.snd.fst==(ByteArray.mk #[]).toList then some ((false,()),())
 else
  bif !ByteArray.toList a1.snd.snd.snd.fst==(ByteArray.mk #[]).toList then some ((false,()),())
  else
  bif decide ((↑(List.length a1.snd.snd.snd.snd.fst):Int)>0)then some ((false,()),())else qm a0 a1
 else qm a0 a1:=(Eq.trans (by kernel_rfl:yo a0 a1=aw wa (Tryz.f314.body.getD .skip) wv (aU 140 [(bo,Mode.ro),(fk,Mode.ro)] (a0,a1,()))) (all_eq BM _)).trans (by kernel_rfl)
def v7:Env:=DK.env C Af.1 Tryz.f251
def wq:=DK.out C
def ni(x0:List Rel)(x1:List aM)(x5:List Int)(x6:Int)(x7:Int)(x8:Int):Option ((Bool×PUnit)×PUnit):=gw v7 [1,1,1,0,1,0,0,1,0,0,1,1,1,1,1] (Tryz.f251.body.getD .skip) wq (V.d none 0 bo x0::V.d none 0 cP x1::dd 3 (V.d none (ag.depth+1) (Ty.slice 3 ag) x5::V.d none 0 (Ty.int IntKind.i64) x6::V.d none 0 (Ty.int IntKind.i64) x7::V.d none 0 (Ty.int IntKind.i64) x8::dd 108 ([])))
def jK(x0:List Rel)(x1:List aM)(x5:List Int)(x6:Int)(x7:Int):Option ((Bool×PUnit)×PUnit):=gw v7 [1,1,1,0,1,0,0,1,0,0,1,1,1] (Tryz.f251.body.getD .skip) wq (V.d none 0 bo x0::V.d none 0 cP x1::dd 3 (V.d none (ag.depth+1) (Ty.slice 3 ag) x5::V.d none 0 (Ty.int IntKind.i64) x6::V.d none 0 (Ty.int IntKind.i64) x7::dd 109 ([])))
def qx(x0:List Rel)(x1:List aM)(x5:List Int)(x6:Int):Option ((Bool×PUnit)×PUnit):=aN v7 [1,1,1,0,1,0] (Tryz.f251.body.getD .skip) wq (V.d none 0 bo x0::V.d none 0 cP x1::dd 3 (V.d none (ag.depth+1) (Ty.slice 3 ag) x5::V.d none 0 (Ty.int IntKind.i64) x6::dd 110 ([])))
def xZ(a0:List Rel)(a1:List aM):Option ((Bool×PUnit)×PUnit):=Mb.ao (a0,a1,())
def ah2:List (Nat×List Nat):=[(1000005,[1,1,1,0,1,0]),(2000014,[1,1,1,0,1,0,0,1,0,0,1,1,1]),(2000017,[1,1,1,0,1,0,0,1,0,0,1,1,1,1,1])]
theorem BK:okB ah2 (Tryz.f251.body.getD .skip) []=true:=by kernel_rfl
theorem ZH(x0:List Rel)(x1:List aM)(x5:List Int)(x6:Int)(x7:Int)(x8:Int):ni x0 x1 x5 x6 x7 x8 =
 bif
 decide (0<=0)&&decide (0<=IntKind.i64.wrap (x8 - x7)) &&
  decide (IntKind.i64.wrap (x8 - x7)<=(↑x5.length:Int))then
 bif
  decide
  ((0+(List.drop (Int.toNat 0) (List.take (IntKind.i64.wrap (x8 - x7)).toNat x5)).length)*8 <=
   140737488355328)then
 bif
  decide
   (((List.drop (Int.toNat 0) (List.take (IntKind.i64.wrap (x8 - x7)).toNat x5)).length+1)*8 <=
   140737488355328)then
  qx x0 x1 (List.drop (Int.toNat 0) (List.take (IntKind.i64.wrap (x8 - x7)).toNat x5)++[x6])
  (IntKind.i64.wrap (x6+1))
 else none
 else none
else none:=(join_eq BK [1,1,1,0,1,0,0,1,0,0,1,1,1,1,1] _).trans (by kernel_rfl)
theorem ZF(x0:List Rel)(x1:List aM)(x5:List Int)(x6:Int)(x7:Int):jK x0 x1 x5 x6 x7 =
 bif decide ((↑x5.length:Int)<x7)then some ((false,()),())
else
 bif x7==1 then
 (ab x5 (IntKind.i64.wrap ((↑x5.length:Int) - 1))).bind λy =>
  (ab x5 (IntKind.i64.wrap ((↑x5.length:Int) - 1))).bind λy =>
  (ab x1 x6).bind λaC =>
   bif y != aC.snd.snd.snd.snd.snd.snd.fst then some ((false,()),())
   else
   bif x7==2 then
    (ab x5 (IntKind.i64.wrap ((↑x5.length:Int) - 1))).bind λy =>
    (ab x5 (IntKind.i64.wrap ((↑x5.length:Int) - 1))).bind λy =>
     (ab x1 x6).bind λbP =>
     bif y != bP.snd.snd.snd.snd.snd.snd.snd then some ((false,()),())
     else
      (ab x5 (IntKind.i64.wrap ((↑x5.length:Int) - 2))).bind λy =>
      (ab x5 (IntKind.i64.wrap ((↑x5.length:Int) - 2))).bind λy =>
       (ab x1 x6).bind λcd =>
       bif y != cd.snd.snd.snd.snd.snd.snd.fst then some ((false,()),())
       else ni x0 x1 x5 x6 x7 (↑x5.length:Int)
   else ni x0 x1 x5 x6 x7 (↑x5.length:Int)
 else
 bif x7==2 then
  (ab x5 (IntKind.i64.wrap ((↑x5.length:Int) - 1))).bind λy =>
  (ab x5 (IntKind.i64.wrap ((↑x5.length:Int) - 1))).bind λy =>
   (ab x1 x6).bind λaC =>
   bif y != aC.snd.snd.snd.snd.snd.snd.snd then some ((false,()),())
   else
    (ab x5 (IntKind.i64.wrap ((↑x5.length:Int) - 2))).bind λy =>
    (ab x5 (IntKind.i64.wrap ((↑x5.length:Int) - 2))).bind λy =>
     (ab x1 x6).bind λbP =>
     bif y != bP.snd.snd.snd.snd.snd.snd.fst then some ((false,()),())
     else ni x0 x1 x5 x6 x7 (↑x5.length:Int)
 else ni x0 x1 x5 x6 x7 (↑x5.length:Int):=(join_eq BK [1,1,1,0,1,0,0,1,0,0,1,1,1] _).trans (by kernel_rfl)
theorem Pu(x0:List Rel)(x1:List aM)(x5:List Int)(x6:Int):qx x0 x1 x5 x6 =
 bif decide (x6<(↑x1.length:Int))then
 (ab x1 x6).bind λy =>
 (yo x0 y).bind λy =>
  bif !y.fst.fst then some ((false,()),())
  else
  (ab x1 x6).bind λy =>
   bif y.fst==3 then jK x0 x1 x5 x6 2
   else
   (ab x1 x6).bind λy =>
    bif y.fst==4 then jK x0 x1 x5 x6 2
    else
    (ab x1 x6).bind λy =>
     bif decide (y.fst>1)then jK x0 x1 x5 x6 1 else jK x0 x1 x5 x6 0
else some (((↑x5.length:Int)==1,()),()):=(aQ BK [1,1,1,0,1,0] (by kernel_rfl) _).trans (by kernel_rfl)
theorem ab4(a0:List Rel)(a1:List aM):xZ a0 a1 =
 (xX a0).bind λy =>
 bif !y.fst.fst then some ((false,()),())
 else
 (gB (↑a1.length:Int) 1 12).bind λy =>
  bif !y.fst.fst then some ((false,()),())else qx a0 a1 [] 0:=(Eq.trans (by kernel_rfl:xZ a0 a1=aw v7 (Tryz.f251.body.getD .skip) wq (aU 117 [(bo,Mode.ro),(cP,Mode.ro)] (a0,a1,()))) (all_eq BK _)).trans (by kernel_rfl)
def KA:Env:=DL.env C zM.1 Tryz.f202
def N4:=DL.out C
def sZ(x0:List Rel)(x1:List aM)(x5:Int):Option ((Bool×PUnit)×PUnit):=aN KA [1,0,1,0] (Tryz.f202.body.getD .skip) N4 (V.d none 0 bo x0::V.d none 0 cP x1::dd 3 (V.d none 0 (Ty.int IntKind.i64) x5::dd 23 ([])))
def yb(a0:List Rel)(a1:List aM):Option ((Bool×PUnit)×PUnit):=Me.ao (a0,a1,())
def ah3:List (Nat×List Nat):=[(1000002,[1,0,1,0])]
theorem Um:okB ah3 (Tryz.f202.body.getD .skip) []=true:=by kernel_rfl
theorem Pw(x0:List Rel)(x1:List aM)(x5:Int):sZ x0 x1 x5 =
 bif decide (x5<(↑x1.length:Int))then
 (ab x1 x5).bind λy =>
 bif y.fst==2 then some ((false,()),())
 else
  (ab x1 x5).bind λy =>
  bif y.fst==6 then some ((false,()),())else sZ x0 x1 (IntKind.i64.wrap (x5+1))
else (xZ x0 x1).bind λy=>some ((y.fst.fst,()),()):=(aQ Um [1,0,1,0] (by kernel_rfl) _).trans (by kernel_rfl)
theorem ab7(a0:List Rel)(a1:List aM):yb a0 a1 =
 sZ a0 a1 0:=(Eq.trans (by kernel_rfl:yb a0 a1=aw KA (Tryz.f202.body.getD .skip) N4 (aU 29 [(bo,Mode.ro),(cP,Mode.ro)] (a0,a1,()))) (all_eq Um _)).trans (by kernel_rfl)
def CM:Env:=DN.env C zO.1 Tryz.f90
def C0:=DN.out C
def s9(x0:List Rel)(x3:bm)(x5:Int)(x6:an×List (List Int))(x7:Int):Option ((Bool×PUnit)×PUnit):=aN CM [1,0,1,0,0,1,0,0,1,1,1,0] (Tryz.f90.body.getD .skip) C0 (V.d none 0 bo x0::dd 2 (V.box none 0 eA x3::V.dead::(V.d none 0 (Ty.int IntKind.i64) x5::V.box none 0 hY x6::V.d none 0 (Ty.int IntKind.i64) x7::dd 80 ([]))))
def ow(x0:List Rel)(x3:bm)(x5:Int):Option ((Bool×PUnit)×PUnit):=aN CM [1,0,1,0] (Tryz.f90.body.getD .skip) C0 (V.d none 0 bo x0::dd 2 (V.box none 0 eA x3::V.dead::(V.d none 0 (Ty.int IntKind.i64) x5::dd 82 ([]))))
def yd(a0:List Rel)(a1:bm):Option ((Bool×PUnit)×PUnit):=Mg.ao (a0,a1,())
def ah5:List (Nat×List Nat):=[(1000002,[1,0,1,0]),(1000008,[1,0,1,0,0,1,0,0,1,1,1,0])]
theorem Ig:okB ah5 (Tryz.f90.body.getD .skip) []=true:=by kernel_rfl
theorem Pz(x0:List Rel)(x3:bm)(x5:Int)(x6:an×List (List Int))(x7:Int):s9 x0 x3 x5 x6 x7 =
 bif decide (x7<(↑(List.length x6.snd):Int))then
 (ab x6.snd x7).bind λy =>
 bif (↑y.length:Int) != 2 then some ((false,()),())
 else
  (ab y 0).bind λaC =>
  (gB aC 0 (IntKind.i64.wrap ((↑x0.length:Int) - 1))).bind λbP =>
   bif !bP.fst.fst then some ((false,()),())
   else
   (ab y 1).bind λcd =>
    (ab y 0).bind λy =>
    (ab x0 y).bind λy =>
     (gB cd 0 (IntKind.i64.wrap ((↑(List.length y.snd.snd):Int) - 1))).bind λy =>
     bif !y.fst.fst then some ((false,()),())else s9 x0 x3 x5 x6 (IntKind.i64.wrap (x7+1))
else ow x0 x3 (IntKind.i64.wrap (x5+1)):=(aQ Ig [1,0,1,0,0,1,0,0,1,1,1,0] (by kernel_rfl) _).trans (by kernel_rfl)
theorem Py(x0:List Rel)(x3:bm)(x5:Int):ow x0 x3 x5 =
 bif decide (x5<(↑(List.length x3.snd):Int))then
 (ab x3.snd x5).bind λy =>
 (kJ y.fst).bind λaC =>
  bif !aC.fst.fst then some ((false,()),())
  else
  bif y.fst.fst != 4 then some ((false,()),())
  else bif decide ((↑(List.length y.snd):Int)>12)then some ((false,()),())else s9 x0 x3 x5 y 0
else
 (yb x0 x3.fst).bind λy =>
 bif y.fst.fst then some ((decide ((↑(List.length x3.snd):Int)<=24),()),())else some ((false,()),()):=(aQ Ig [1,0,1,0] (by kernel_rfl) _).trans (by kernel_rfl)
theorem acb(a0:List Rel)(a1:bm):yd a0 a1 =
 ow a0 a1 0:=(Eq.trans (by kernel_rfl:yd a0 a1=aw CM (Tryz.f90.body.getD .skip) C0 (aU 88 [(bo,Mode.ro),(eA,Mode.ro)] (a0,a1,()))) (all_eq Ig _)).trans (by kernel_rfl)
def KD:Env:=DP.env C zT.1 Tryz.f307
def N7:=DP.out C
def wK(x1:aa)(x2:aa)(x4:aa)(x5:Int):Option ((aa×Bool×PUnit)×PUnit):=aN KD [1,1,1,0,1,0] (Tryz.f307.body.getD .skip) N7 (V.dead::(V.box none 0 aF x1::V.box none aF.depth aF x2::V.dead::(V.box none aF.depth aF x4::V.d none 0 (Ty.int IntKind.i64) x5::dd 30 ([]))))
def yf(a0:aa):Option ((aa×Bool×PUnit)×PUnit):=Mj.ao (a0,())
def ah7:List (Nat×List Nat):=[(1000005,[1,1,1,0,1,0])]
theorem Up:okB ah7 (Tryz.f307.body.getD .skip) []=true:=by kernel_rfl
theorem PB(x1:aa)(x2:aa)(x4:aa)(x5:Int):wK x1 x2 x4 x5 =
 bif decide (x5<(↑(List.length x1.fst):Int))then
 (ab x1.fst x5).bind λy =>
 bif decide ((List.length x4.fst+1)*8<=140737488355328)then
  wK x1 x2 (x4.fst++[IntKind.i64.wrap (0 - y)],x4.snd) (IntKind.i64.wrap (x5+1))
 else none
else some ((x4,true,()),()):=(aQ Up [1,1,1,0,1,0] (by kernel_rfl) _).trans (by kernel_rfl)
theorem aci(a0:aa):yf a0 =
 (lP a0).bind λy =>
 bif !y.fst.fst then some ((([],0,false),false,()),())
 else wK a0 ([],0,false) ([],IntKind.i64.wrap (0 - a0.snd.fst),!a0.snd.snd) 0:=(Eq.trans (by kernel_rfl:yf a0=aw KD (Tryz.f307.body.getD .skip) N7 (aU 36 [(aF,Mode.ro)] (a0,()))) (all_eq Up _)).trans (by kernel_rfl)
def KF:Env:=DS.env C zX.1 Tryz.f215
def N9:=DS.out C
def wL(x1:aa)(x3:Int):Option ((Bool×PUnit)×PUnit):=aN KF [1,0,1,0] (Tryz.f215.body.getD .skip) N9 (V.dead::(V.box none 0 aF x1::V.dead::(V.d none 0 (Ty.int IntKind.i64) x3::dd 13 ([]))))
def yh(a0:aa):Option ((Bool×PUnit)×PUnit):=Mo.ao (a0,())
def aia:List (Nat×List Nat):=[(1000002,[1,0,1,0])]
theorem Ur:okB aia (Tryz.f215.body.getD .skip) []=true:=by kernel_rfl
theorem PF(x1:aa)(x3:Int):wL x1 x3 =
 bif decide (x3<(↑(List.length x1.fst):Int))then
 (ab x1.fst x3).bind λy =>
 bif y != 0 then some ((false,()),())else wL x1 (IntKind.i64.wrap (x3+1))
else some ((true,()),()):=(aQ Ur [1,0,1,0] (by kernel_rfl) _).trans (by kernel_rfl)
theorem acq(a0:aa):yh a0 =
 wL a0 0:=(Eq.trans (by kernel_rfl:yh a0=aw KF (Tryz.f215.body.getD .skip) N9 (aU 17 [(aF,Mode.ro)] (a0,()))) (all_eq Ur _)).trans (by kernel_rfl)
def QW(a0:aa):Option ((Bool×PUnit)×PUnit):=Ms.ao (a0,())
theorem acx(a0:aa):QW a0 =
 bif decide (a0.snd.fst<0)then some ((true,()),())
else bif a0.snd.fst==0 then some ((!a0.snd.snd,()),())else some ((false,()),()):=by kernel_rfl
def EN(a0:Int):Option ((an×PUnit)×PUnit):=Mx.ao (a0,())
theorem acE(a0:Int):EN a0 =
 bif
 decide (0<=a0)&&decide (a0<=a0)&&decide (a0*(↑8:Int)<=140737488355328) &&
  decide (a0<=9223372036854775807)then
 some (((a0,[(List.replicate a0.toNat (0:Int),1,false)]),()),())
else none:=by kernel_rfl
def yk(a0:aa):Option ((aa×PUnit)×PUnit):=Mu.ao (a0,())
theorem acA(a0:aa):yk a0 =
 bif decide ((0+List.length a0.fst)*8<=140737488355328)then some (((a0.fst,a0.snd.fst,a0.snd.snd),()),())
else none:=by kernel_rfl
def qK(a0:aa):Option ((Int×PUnit)×PUnit):=Mq.ao (a0,())
theorem acu(a0:aa):qK a0 =
 (oB a0.fst 0).bind λy=>some ((y.fst.fst,()),()):=by kernel_rfl
def KG:Env:=DU.env C z8.1 Tryz.f329
def Oa:=DU.out C
def wO(x2:aa)(x3:aa)(x5:Int)(x6:Int)(x7:Int):Option ((Int×PUnit)×PUnit):=aN KG [1,1,1,0,1,0] (Tryz.f329.body.getD .skip) Oa (dd 2 (V.box none 0 aF x2::V.box none 0 aF x3::V.dead::(V.d none 0 (Ty.int IntKind.i64) x5::V.d none 0 (Ty.int IntKind.i64) x6::V.d none 0 (Ty.int IntKind.i64) x7::dd 42 ([]))))
def qL(a0:aa)(a1:aa):Option ((Int×PUnit)×PUnit):=Mt.ao (a0,a1,())
def aic:List (Nat×List Nat):=[(1000004,[1,1,1,0,1,0])]
theorem Us:okB aic (Tryz.f329.body.getD .skip) []=true:=by kernel_rfl
theorem PI(x2:aa)(x3:aa)(x5:Int)(x6:Int)(x7:Int):wO x2 x3 x5 x6 x7 =
 bif decide (x7<(↑(List.length x2.fst):Int))then
 bif decide (x7<(↑(List.length x3.fst):Int))then
 (ab x2.fst x7).bind λy =>
  bif x5 != 0 then
  (ab x3.fst x7).bind λaC =>
   bif x6 != 0 then
   bif IntKind.i64.wrap (y.tdiv x5) != IntKind.i64.wrap (aC.tdiv x6)then
    bif decide (IntKind.i64.wrap (y.tdiv x5)<IntKind.i64.wrap (aC.tdiv x6))then some ((-1,()),())
    else some ((1,()),())
   else wO x2 x3 x5 x6 (IntKind.i64.wrap (x7+1))
   else none
  else none
 else some ((0,()),())
else some ((0,()),()):=(aQ Us [1,1,1,0,1,0] (by kernel_rfl) _).trans (by kernel_rfl)
theorem acy(a0:aa)(a1:aa):qL a0 a1 =
 (qK a0).bind λy =>
 (qK a1).bind λaC =>
 wO a0 a1 (bif true then if 1<y.fst.fst then y.fst.fst else 1 else if y.fst.fst<1 then y.fst.fst else 1)
  (bif true then if 1<aC.fst.fst then aC.fst.fst else 1 else if aC.fst.fst<1 then aC.fst.fst else 1) 0:=(Eq.trans (by kernel_rfl:qL a0 a1=aw KG (Tryz.f329.body.getD .skip) Oa (aU 50 [(aF,Mode.ro),(aF,Mode.ro)] (a0,a1,()))) (all_eq Us _)).trans (by kernel_rfl)
def yj(a0:aa)(a1:aa):Option ((Bool×PUnit)×PUnit):=Mr.ao (a0,a1,())
theorem acv(a0:aa)(a1:aa):yj a0 a1 =
 (qK a1).bind λy =>
 (qK a0).bind λaC =>
 bif
  decide
   (IntKind.i64.wrap
    (a0.snd.fst*bif true then if 1<y.fst.fst then y.fst.fst else 1 else if y.fst.fst<1 then y.fst.fst else 1) >
   IntKind.i64.wrap
    (a1.snd.fst *
    bif true then if 1<aC.fst.fst then aC.fst.fst else 1 else if aC.fst.fst<1 then aC.fst.fst else 1))then
  some ((true,()),())
 else
  bif
   IntKind.i64.wrap
    (a0.snd.fst *
    bif true then if 1<y.fst.fst then y.fst.fst else 1 else if y.fst.fst<1 then y.fst.fst else 1) ==
   IntKind.i64.wrap
    (a1.snd.fst *
    bif true then if 1<aC.fst.fst then aC.fst.fst else 1 else if aC.fst.fst<1 then aC.fst.fst else 1)then
  bif a0.snd.snd then some ((true,()),())else some ((!a1.snd.snd,()),())
  else some ((false,()),()):=by kernel_rfl
def KJ:Env:=DY.env C Aa.1 Tryz.f292
def Od:=DY.out C
def wR(x0:List aa)(x3:aa)(x5:Int):Option ((List aa×PUnit)×PUnit):=aN KJ [1,1,0,0] (Tryz.f292.body.getD .skip) Od (V.d none 0 cQ x0::dd 2 (V.box none 0 aF x3::V.dead::(V.d none 0 (Ty.int IntKind.i64) x5::dd 56 ([]))))
def yn(a0:List aa)(a1:aa):Option ((List aa×PUnit)×PUnit):=Mz.ao (a0,a1,())
def aih:List (Nat×List Nat):=[(1000002,[1,1,0,0])]
theorem Uv:okB aih (Tryz.f292.body.getD .skip) []=true:=by kernel_rfl
theorem PR(x0:List aa)(x3:aa)(x5:Int):wR x0 x3 x5 =
 bif decide (x5<(↑x0.length:Int))then
 (ab x0 x5).bind λy =>
 (qL y x3).bind λy =>
  bif decide (y.fst.fst<0)then wR x0 x3 (IntKind.i64.wrap (x5+1))
  else
  bif decide (x5<(↑x0.length:Int))then
   (ab x0 x5).bind λy =>
   (qL y x3).bind λy =>
    bif y.fst.fst==0 then
    (ab x0 x5).bind λy =>
     (yj y x3).bind λy =>
     bif y.fst.fst then some ((x0,()),())
     else
      bif decide ((0+x0.length)*40<=140737488355328)then
      (ab x0 x5).bind λy =>
       (ab x0 x5).bind λy =>
       (ab x0 x5).bind λy=>(some (x0.set x5.toNat x3)).bind λy=>some ((y,()),())
      else none
    else
    bif decide (0<=0)&&decide (0<=x5)&&decide (x5<=(↑x0.length:Int))then
     bif decide ((0+(List.drop (Int.toNat 0) (List.take x5.toNat x0)).length)*40<=140737488355328)then
     bif decide (((List.drop (Int.toNat 0) (List.take x5.toNat x0)).length+1)*40<=140737488355328)then
      bif
       decide (0<=x5)&&decide (x5<=(↑x0.length:Int)) &&
       decide ((↑x0.length:Int)<=(↑x0.length:Int))then
      bif
       decide
        (((List.drop (Int.toNat 0) (List.take x5.toNat x0)++[x3]).length +
         (List.drop x5.toNat (List.take x0.length x0)).length) *
         40 <=
        140737488355328)then
       some
       ((List.drop (Int.toNat 0) (List.take x5.toNat x0)++[x3]++List.drop x5.toNat (List.take x0.length x0),
        ()),
        ())
      else none
      else none
     else none
     else none
    else none
  else
   bif decide (0<=0)&&decide (0<=x5)&&decide (x5<=(↑x0.length:Int))then
   bif decide ((0+(List.drop (Int.toNat 0) (List.take x5.toNat x0)).length)*40<=140737488355328)then
    bif decide (((List.drop (Int.toNat 0) (List.take x5.toNat x0)).length+1)*40<=140737488355328)then
    bif decide (0<=x5)&&decide (x5<=(↑x0.length:Int))&&decide ((↑x0.length:Int)<=(↑x0.length:Int))then
     bif
      decide
      (((List.drop (Int.toNat 0) (List.take x5.toNat x0)++[x3]).length +
        (List.drop x5.toNat (List.take x0.length x0)).length) *
       40 <=
       140737488355328)then
     some
      ((List.drop (Int.toNat 0) (List.take x5.toNat x0)++[x3]++List.drop x5.toNat (List.take x0.length x0),
       ()),
      ())
     else none
    else none
    else none
   else none
   else none
else
 bif decide (x5<(↑x0.length:Int))then
 (ab x0 x5).bind λy =>
  (qL y x3).bind λy =>
  bif y.fst.fst==0 then
   (ab x0 x5).bind λy =>
   (yj y x3).bind λy =>
    bif y.fst.fst then some ((x0,()),())
    else
    bif decide ((0+x0.length)*40<=140737488355328)then
     (ab x0 x5).bind λy =>
     (ab x0 x5).bind λy =>
      (ab x0 x5).bind λy=>(some (x0.set x5.toNat x3)).bind λy=>some ((y,()),())
    else none
  else
   bif decide (0<=0)&&decide (0<=x5)&&decide (x5<=(↑x0.length:Int))then
   bif decide ((0+(List.drop (Int.toNat 0) (List.take x5.toNat x0)).length)*40<=140737488355328)then
    bif decide (((List.drop (Int.toNat 0) (List.take x5.toNat x0)).length+1)*40<=140737488355328)then
    bif decide (0<=x5)&&decide (x5<=(↑x0.length:Int))&&decide ((↑x0.length:Int)<=(↑x0.length:Int))then
     bif
      decide
      (((List.drop (Int.toNat 0) (List.take x5.toNat x0)++[x3]).length +
        (List.drop x5.toNat (List.take x0.length x0)).length) *
       40 <=
       140737488355328)then
     some
      ((List.drop (Int.toNat 0) (List.take x5.toNat x0)++[x3]++List.drop x5.toNat (List.take x0.length x0),
       ()),
      ())
     else none
    else none
    else none
   else none
   else none
 else
 bif decide (0<=0)&&decide (0<=x5)&&decide (x5<=(↑x0.length:Int))then
  bif decide ((0+(List.drop (Int.toNat 0) (List.take x5.toNat x0)).length)*40<=140737488355328)then
  bif decide (((List.drop (Int.toNat 0) (List.take x5.toNat x0)).length+1)*40<=140737488355328)then
   bif decide (0<=x5)&&decide (x5<=(↑x0.length:Int))&&decide ((↑x0.length:Int)<=(↑x0.length:Int))then
   bif
    decide
     (((List.drop (Int.toNat 0) (List.take x5.toNat x0)++[x3]).length +
      (List.drop x5.toNat (List.take x0.length x0)).length) *
      40 <=
     140737488355328)then
    some
    ((List.drop (Int.toNat 0) (List.take x5.toNat x0)++[x3]++List.drop x5.toNat (List.take x0.length x0),()),
     ())
   else none
   else none
  else none
  else none
 else none:=(aQ Uv [1,1,0,0] (by kernel_rfl) _).trans (by kernel_rfl)
theorem acG(a0:List aa)(a1:aa):yn a0 a1 =
 wR a0 a1 0:=(Eq.trans (by kernel_rfl:yn a0 a1=aw KJ (Tryz.f292.body.getD .skip) Od (aU 62 [(cQ,Mode.ro),(aF,Mode.ro)] (a0,a1,()))) (all_eq Uv _)).trans (by kernel_rfl)
def KI:Env:=DX.env C Ad.1 Tryz.f214
def Oc:=DX.out C
def th(x0:Int)(x1:List aa)(x4:Int×List aa)(x5:Int×List aa)(x6:Int):Option ((an×PUnit)×PUnit):=aN KI [1,1,0,1,0] (Tryz.f214.body.getD .skip) Oc (V.d none 0 ag x0::V.d none 0 cQ x1::dd 2 (V.box none 0 aK x4::V.box none 0 aK x5::V.d none 0 (Ty.int IntKind.i64) x6::dd 31 ([])))
def qM(a0:Int)(a1:List aa):Option ((an×PUnit)×PUnit):=My.ao (a0,a1,())
def aif:List (Nat×List Nat):=[(1000003,[1,1,0,1,0])]
theorem Uu:okB aif (Tryz.f214.body.getD .skip) []=true:=by kernel_rfl
theorem PQ(x0:Int)(x1:List aa)(x4:Int×List aa)(x5:Int×List aa)(x6:Int):th x0 x1 x4 x5 x6 =
 bif decide (x6<(↑x1.length:Int))then
 (ab x1 x6).bind λy =>
 (yh y).bind λy =>
  bif y.fst.fst then
  (ab x1 x6).bind λy =>
   (QW y).bind λy =>
   bif !y.fst.fst then (EN x0).bind λy=>some ((y.fst.fst,()),())
   else th x0 x1 x4 x5 (IntKind.i64.wrap (x6+1))
  else
  (ab x1 x6).bind λy =>
   (yk y).bind λy =>
   (yn x5.snd y.fst.fst).bind λy=>th x0 x1 x4 (x5.fst,y.fst.fst) (IntKind.i64.wrap (x6+1))
else some ((x5,()),()):=(aQ Uu [1,1,0,1,0] (by kernel_rfl) _).trans (by kernel_rfl)
theorem acF(a0:Int)(a1:List aa):qM a0 a1 =
 th a0 a1 (0,[]) (a0,[]) 0:=(Eq.trans (by kernel_rfl:qM a0 a1=aw KI (Tryz.f214.body.getD .skip) Oc (aU 38 [(ag,Mode.ro),(cQ,Mode.ro)] (a0,a1,()))) (all_eq Uu _)).trans (by kernel_rfl)
def EM(a0:Int×List aa)(a1:Int×List aa):Option ((an×Bool×PUnit)×PUnit):=Mh.ao (a0,a1,())
theorem ace(a0:Int×List aa)(a1:Int×List aa):EM a0 a1 =
 (kJ a0).bind λy =>
 bif !y.fst.fst then some (((0,[]),false,()),())
 else
 (kJ a1).bind λy =>
  bif !y.fst.fst then some (((0,[]),false,()),())
  else
  bif a0.fst != a1.fst then some (((0,[]),false,()),())
  else
   bif decide ((0+List.length a0.snd)*40<=140737488355328)then
   bif decide ((List.length a0.snd+List.length a1.snd)*40<=140737488355328)then
    (qM a0.fst (a0.snd++a1.snd)).bind λy =>
    bif decide ((↑(List.length y.fst.fst.snd):Int)>16)then some (((0,[]),false,()),())
    else some ((y.fst.fst,true,()),())
   else none
   else none:=by kernel_rfl
def KE:Env:=DR.env C zU.1 Tryz.f288
def N8:=DR.out C
def tf(x0:List Int)(x6:aa)(x8:Int)(x9:aa)(bN:Int):Option ((aa×Bool×PUnit)×PUnit):=aN KE [1,1,1,0,1,0] (Tryz.f288.body.getD .skip) N8 (V.d none 0 bl x0::dd 5 (V.box none aF.depth aF x6::V.dead::(V.d none 0 (Ty.int IntKind.i64) x8::V.box none aF.depth aF x9::V.d none 0 (Ty.int IntKind.i64) bN::dd 31 ([]))))
def np(a0:List Int)(a1:Int)(a2:Bool):Option ((aa×Bool×PUnit)×PUnit):=Mn.ao (a0,a1,a2,())
def ah9:List (Nat×List Nat):=[(1000004,[1,1,1,0,1,0])]
theorem Uq:okB ah9 (Tryz.f288.body.getD .skip) []=true:=by kernel_rfl
theorem PE(x0:List Int)(x6:aa)(x8:Int)(x9:aa)(bN:Int):tf x0 x6 x8 x9 bN =
 bif decide (bN<(↑x0.length:Int))then
 (ab x0 bN).bind λy =>
 bif x8 != 0 then
  bif decide ((List.length x9.fst+1)*8<=140737488355328)then
  tf x0 x6 x8 (x9.fst++[IntKind.i64.wrap (y.tdiv x8)],x9.snd) (IntKind.i64.wrap (bN+1))
  else none
 else none
else
 (lP x9).bind λy=>bif !y.fst.fst then some ((([],0,false),false,()),())else some ((x9,true,()),()):=(aQ Uq [1,1,1,0,1,0] (by kernel_rfl) _).trans (by kernel_rfl)
theorem aco(a0:List Int)(a1:Int)(a2:Bool):np a0 a1 a2 =
 (oB a0 a1).bind λy =>
 bif (bif true then if 1<y.fst.fst then y.fst.fst else 1 else if y.fst.fst<1 then y.fst.fst else 1) != 0 then
 tf a0 ([],0,false)
  (bif true then if 1<y.fst.fst then y.fst.fst else 1 else if y.fst.fst<1 then y.fst.fst else 1)
  ([],
  IntKind.i64.wrap
   (a1.tdiv (bif true then if 1<y.fst.fst then y.fst.fst else 1 else if y.fst.fst<1 then y.fst.fst else 1)),
  a2)
  0
 else none:=(Eq.trans (by kernel_rfl:np a0 a1 a2=aw KE (Tryz.f288.body.getD .skip) N8 (aU 42 [(bl,Mode.ro),(ag,Mode.ro),(aB,Mode.ro)] (a0,a1,a2,()))) (all_eq Uq _)).trans (by kernel_rfl)
def KC:Env:=DO.env C z6.1 Tryz.f321
def N6:=DO.out C
def tc(x1:Int)(x3:Int)(x4:aa)(x6:aa)(x8:aa)(bN:List Int)(fb:Int):Option ((aa×Bool×PUnit)×PUnit):=aN KC [1,1,1,0,1,0] (Tryz.f321.body.getD .skip) N6 (V.dead::(V.d none 0 ag x1::V.dead::(V.d none 0 ag x3::V.box none 0 aF x4::V.dead::(V.box none 0 aF x6::V.dead::(V.box none aF.depth aF x8::V.dead::(V.d none (ag.depth+1) (Ty.slice 3 ag) bN::V.d none 0 (Ty.int IntKind.i64) fb::dd 86 ([])))))))
def ye(a0:aa)(a1:Int)(a2:aa)(a3:Int):Option ((aa×Bool×PUnit)×PUnit):=Mi.ao (a0,a1,a2,a3,())
def ah6:List (Nat×List Nat):=[(1000005,[1,1,1,0,1,0])]
theorem Uo:okB ah6 (Tryz.f321.body.getD .skip) []=true:=by kernel_rfl
theorem PA(x1:Int)(x3:Int)(x4:aa)(x6:aa)(x8:aa)(bN:List Int)(fb:Int):tc x1 x3 x4 x6 x8 bN fb =
 bif decide (fb<(↑(List.length x4.fst):Int))then
 (ab x4.fst fb).bind λy =>
 (ab x6.fst fb).bind λaC =>
  bif decide ((bN.length+1)*8<=140737488355328)then
  tc x1 x3 x4 x6 x8 (bN++[IntKind.i64.wrap (IntKind.i64.wrap (x1*y)+IntKind.i64.wrap (x3*aC))])
   (IntKind.i64.wrap (fb+1))
  else none
else
 bif x4.snd.snd then
 bif decide (x1>0)then
  (np bN (IntKind.i64.wrap (IntKind.i64.wrap (x1*x4.snd.fst)+IntKind.i64.wrap (x3*x6.snd.fst)))
   true).bind
  λy=>some ((y.fst.fst,y.fst.snd.fst,()),())
 else
  bif x6.snd.snd then
  (np bN (IntKind.i64.wrap (IntKind.i64.wrap (x1*x4.snd.fst)+IntKind.i64.wrap (x3*x6.snd.fst)))
    (decide (x3>0))).bind
   λy=>some ((y.fst.fst,y.fst.snd.fst,()),())
  else
  (np bN (IntKind.i64.wrap (IntKind.i64.wrap (x1*x4.snd.fst)+IntKind.i64.wrap (x3*x6.snd.fst)))
    false).bind
   λy=>some ((y.fst.fst,y.fst.snd.fst,()),())
 else
 bif x6.snd.snd then
  (np bN (IntKind.i64.wrap (IntKind.i64.wrap (x1*x4.snd.fst)+IntKind.i64.wrap (x3*x6.snd.fst)))
   (decide (x3>0))).bind
  λy=>some ((y.fst.fst,y.fst.snd.fst,()),())
 else
  (np bN (IntKind.i64.wrap (IntKind.i64.wrap (x1*x4.snd.fst)+IntKind.i64.wrap (x3*x6.snd.fst)))
   false).bind
  λy=>some ((y.fst.fst,y.fst.snd.fst,()),()):=(aQ Uo [1,1,1,0,1,0] (by kernel_rfl) _).trans (by kernel_rfl)
theorem acg(a0:aa)(a1:Int)(a2:aa)(a3:Int):ye a0 a1 a2 a3 =
 (lP a0).bind λy =>
 bif !y.fst.fst then some ((([],0,false),false,()),())
 else
 (lP a2).bind λy =>
  bif !y.fst.fst then some ((([],0,false),false,()),())
  else
  bif (↑(List.length a0.fst):Int) != (↑(List.length a2.fst):Int)then some ((([],0,false),false,()),())
  else
   (gB a1 0 400000000).bind λy =>
   bif !y.fst.fst then some ((([],0,false),false,()),())
   else
    (gB a3 0 400000000).bind λy =>
    bif !y.fst.fst then some ((([],0,false),false,()),())else tc a1 a3 a0 a2 ([],0,false) [] 0:=(Eq.trans (by kernel_rfl:ye a0 a1 a2 a3=aw KC (Tryz.f321.body.getD .skip) N6 (aU 98 [(aF,Mode.ro),(ag,Mode.ro),(aF,Mode.ro),(ag,Mode.ro)] (a0,a1,a2,a3,()))) (all_eq Uo _)).trans (by kernel_rfl)
def v8:Env:=DW.env C zW.1 Tryz.f274
def wu:=DW.out C
def qA(x1:Int)(x2:Int×List aa)(x4:Int×List aa)(x6:List aa)(x8:Int)(x9:Int):Option ((an×Bool×PUnit)×PUnit):=aN v8 [1,1,1,0,1,0,0,1,0,0,1,0] (Tryz.f274.body.getD .skip) wu (V.dead::(V.d none 0 ag x1::V.box none 0 aK x2::V.dead::(V.box none aK.depth aK x4::V.dead::(V.d none 1 (Ty.slice 153 aF) x6::V.dead::(V.d none 0 (Ty.int IntKind.i64) x8::V.d none 0 (Ty.int IntKind.i64) x9::dd 103 ([]))))))
def qB(x1:Int)(x2:Int×List aa)(x4:Int×List aa)(x6:List aa)(x8:Int):Option ((an×Bool×PUnit)×PUnit):=aN v8 [1,1,1,0,1,0] (Tryz.f274.body.getD .skip) wu (V.dead::(V.d none 0 ag x1::V.box none 0 aK x2::V.dead::(V.box none aK.depth aK x4::V.dead::(V.d none 1 (Ty.slice 153 aF) x6::V.dead::(V.d none 0 (Ty.int IntKind.i64) x8::dd 104 ([]))))))
def tg(x1:Int)(x2:Int×List aa)(x4:Int×List aa)(x6:List aa)(x7:Int):Option ((an×Bool×PUnit)×PUnit):=aN v8 [1,1,0,1,0] (Tryz.f274.body.getD .skip) wu (V.dead::(V.d none 0 ag x1::V.box none 0 aK x2::V.dead::(V.box none aK.depth aK x4::V.dead::(V.d none 1 (Ty.slice 153 aF) x6::V.d none 0 (Ty.int IntKind.i64) x7::dd 105 ([])))))
def ym(a0:Int×List aa)(a1:Int):Option ((an×Bool×PUnit)×PUnit):=Mw.ao (a0,a1,())
def aie:List (Nat×List Nat):=[(1000003,[1,1,0,1,0]),(1000008,[1,1,1,0,1,0]),(1000011,[1,1,1,0,1,0,0,1,0,0,1,0])]
theorem BL:okB aie (Tryz.f274.body.getD .skip) []=true:=by kernel_rfl
theorem PL(x1:Int)(x2:Int×List aa)(x4:Int×List aa)(x6:List aa)(x8:Int)(x9:Int):qA x1 x2 x4 x6 x8 x9 =
 bif decide (x9<(↑(List.length x2.snd):Int))then
 (ab x2.snd x8).bind λy =>
 (ab y.fst x1).bind λy =>
  (ab x2.snd x9).bind λaC =>
  (ab aC.fst x1).bind λbP =>
   bif decide (y<=0)then qA x1 x2 x4 x6 x8 (IntKind.i64.wrap (x9+1))
   else
   bif decide (bP>=0)then qA x1 x2 x4 x6 x8 (IntKind.i64.wrap (x9+1))
   else
    (ab x2.snd x8).bind λcd =>
    (ab x2.snd x9).bind λdf =>
     (ye cd (IntKind.i64.wrap (0 - bP)) df y).bind λy =>
     bif !y.fst.snd.fst then some (((0,[]),false,()),())
     else
      bif decide ((x6.length+1)*40<=140737488355328)then
      qA x1 x2 x4 (x6++[y.fst.fst]) x8 (IntKind.i64.wrap (x9+1))
      else none
else qB x1 x2 x4 x6 (IntKind.i64.wrap (x8+1)):=(aQ BL [1,1,1,0,1,0,0,1,0,0,1,0] (by kernel_rfl) _).trans (by kernel_rfl)
theorem PO(x1:Int)(x2:Int×List aa)(x4:Int×List aa)(x6:List aa)(x8:Int):qB x1 x2 x4 x6 x8 =
 bif decide (x8<(↑(List.length x2.snd):Int))then qA x1 x2 x4 x6 x8 0
else
 (qM x2.fst x6).bind λy =>
 bif decide ((↑(List.length y.fst.fst.snd):Int)>16)then some (((0,[]),false,()),())
 else some ((y.fst.fst,true,()),()):=(aQ BL [1,1,1,0,1,0] (by kernel_rfl) _).trans (by kernel_rfl)
theorem PN(x1:Int)(x2:Int×List aa)(x4:Int×List aa)(x6:List aa)(x7:Int):tg x1 x2 x4 x6 x7 =
 bif decide (x7<(↑(List.length x2.snd):Int))then
 (ab x2.snd x7).bind λy =>
 (ab y.fst x1).bind λy =>
  bif y==0 then
  (ab x2.snd x7).bind λy =>
   bif decide ((x6.length+1)*40<=140737488355328)then
   tg x1 x2 x4 (x6++[y]) (IntKind.i64.wrap (x7+1))
   else none
  else tg x1 x2 x4 x6 (IntKind.i64.wrap (x7+1))
else qB x1 x2 x4 x6 0:=(aQ BL [1,1,0,1,0] (by kernel_rfl) _).trans (by kernel_rfl)
theorem acC(a0:Int×List aa)(a1:Int):ym a0 a1 =
 tg a1 a0 (0,[]) [] 0:=(Eq.trans (by kernel_rfl:ym a0 a1=aw v8 (Tryz.f274.body.getD .skip) wu (aU 113 [(aK,Mode.ro),(ag,Mode.ro)] (a0,a1,()))) (all_eq BL _)).trans (by kernel_rfl)
def Kz:Env:=DJ.env C Ac.1 Tryz.f289
def N3:=DJ.out C
def wJ(x4:Int×List aa)(x5:Int):Option ((Bool×Bool×PUnit)×PUnit):=aN Kz [1,1,1,0,1,0] (Tryz.f289.body.getD .skip) N3 (dd 4 (V.box none 0 aK x4::V.d none 0 (Ty.int IntKind.i64) x5::dd 30 ([])))
def xY(a0:Int×List aa):Option ((Bool×Bool×PUnit)×PUnit):=Ma.ao (a0,())
def ah1:List (Nat×List Nat):=[(1000005,[1,1,1,0,1,0])]
theorem Ul:okB ah1 (Tryz.f289.body.getD .skip) []=true:=by kernel_rfl
theorem Ps(x4:Int×List aa)(x5:Int):wJ x4 x5 =
 bif decide (x5>=0)then
 (ym x4 x5).bind λy =>
 bif !y.fst.snd.fst then some ((false,false,()),())else wJ y.fst.fst (IntKind.i64.wrap (x5 - 1))
else some ((decide ((↑(List.length x4.snd):Int)>0),true,()),()):=(aQ Ul [1,1,1,0,1,0] (by kernel_rfl) _).trans (by kernel_rfl)
theorem ab2(a0:Int×List aa):xY a0 =
 (kJ a0).bind λy =>
 bif !y.fst.fst then some ((false,false,()),())
 else (qM a0.fst a0.snd).bind λy=>wJ y.fst.fst (IntKind.i64.wrap (a0.fst - 1)):=(Eq.trans (by kernel_rfl:xY a0=aw Kz (Tryz.f289.body.getD .skip) N3 (aU 36 [(aK,Mode.ro)] (a0,()))) (all_eq Ul _)).trans (by kernel_rfl)
def EL(a0:Int×List aa)(a1:aa):Option ((Bool×Bool×PUnit)×PUnit):=L5.ao (a0,a1,())
theorem abW(a0:Int×List aa)(a1:aa):EL a0 a1 =
 (yf a1).bind λy =>
 (EM a0 ((↑(List.length a1.fst):Int),[y.fst.fst])).bind λaC =>
 bif !y.fst.snd.fst then some ((false,false,()),())
 else
  bif !aC.fst.snd.fst then some ((false,false,()),())
  else (xY aC.fst.fst).bind λy=>some ((y.fst.fst,y.fst.snd.fst,()),()):=by kernel_rfl
def Ku:Env:=DE.env C zH.1 Tryz.f140
def NY:=DE.out C
def wH(x2:Int×List aa)(x3:Int×List aa)(x6:Int):Option ((Bool×Bool×PUnit)×PUnit):=aN Ku [1,1,0,1,0] (Tryz.f140.body.getD .skip) NY (dd 2 (V.box none 0 aK x2::V.box none 0 aK x3::dd 2 (V.d none 0 (Ty.int IntKind.i64) x6::dd 41 ([]))))
def xW(a0:Int×List aa)(a1:Int×List aa):Option ((Bool×Bool×PUnit)×PUnit):=L3.ao (a0,a1,())
def ahW:List (Nat×List Nat):=[(1000004,[1,1,0,1,0])]
theorem Ug:okB ahW (Tryz.f140.body.getD .skip) []=true:=by kernel_rfl
theorem Pn(x2:Int×List aa)(x3:Int×List aa)(x6:Int):wH x2 x3 x6 =
 bif decide (x6<(↑(List.length x2.snd):Int))then
 (ab x2.snd x6).bind λy =>
 (EL x3 y).bind λy =>
  bif !y.fst.snd.fst then some ((false,y.fst.snd.fst,()),())
  else bif !y.fst.fst then some ((false,y.fst.snd.fst,()),())else wH x2 x3 (IntKind.i64.wrap (x6+1))
else some ((true,true,()),()):=(aQ Ug [1,1,0,1,0] (by kernel_rfl) _).trans (by kernel_rfl)
theorem abT(a0:Int×List aa)(a1:Int×List aa):xW a0 a1 =
 (kJ a0).bind λy =>
 bif !y.fst.fst then some ((false,false,()),())
 else
 (kJ a1).bind λy =>
  bif !y.fst.fst then some ((false,false,()),())
  else bif a0.fst != a1.fst then some ((false,false,()),())else wH a0 a1 0:=(Eq.trans (by kernel_rfl:xW a0 a1=aw Ku (Tryz.f140.body.getD .skip) NY (aU 48 [(aK,Mode.ro),(aK,Mode.ro)] (a0,a1,()))) (all_eq Ug _)).trans (by kernel_rfl)
def KH:Env:=DV.env C zD.1 Tryz.f141
def Ob:=DV.out C
def wP(x1:Int×List aa)(x2:Int×List aa)(x3:Int×List aa)(x4:Int):Option ((an×PUnit)×PUnit):=aN KH [1,1,0,1,0] (Tryz.f141.body.getD .skip) Ob (V.dead::(V.box none 0 aK x1::V.box none aK.depth aK x2::V.box none aK.depth aK x3::V.d none 0 (Ty.int IntKind.i64) x4::dd 22 ([])))
def yl(a0:Int×List aa):Option ((an×PUnit)×PUnit):=Mv.ao (a0,())
def aid:List (Nat×List Nat):=[(1000003,[1,1,0,1,0])]
theorem Ut:okB aid (Tryz.f141.body.getD .skip) []=true:=by kernel_rfl
theorem PK(x1:Int×List aa)(x2:Int×List aa)(x3:Int×List aa)(x4:Int):wP x1 x2 x3 x4 =
 bif decide (x4<(↑(List.length x1.snd):Int))then
 (ab x1.snd x4).bind λy =>
 (yk y).bind λy =>
  bif decide ((List.length x3.snd+1)*40<=140737488355328)then
  wP x1 x2 (x3.fst,x3.snd++[y.fst.fst]) (IntKind.i64.wrap (x4+1))
  else none
else some ((x3,()),()):=(aQ Ut [1,1,0,1,0] (by kernel_rfl) _).trans (by kernel_rfl)
theorem acB(a0:Int×List aa):yl a0 =
 wP a0 (0,[]) (a0.fst,[]) 0:=(Eq.trans (by kernel_rfl:yl a0=aw KH (Tryz.f141.body.getD .skip) Ob (aU 27 [(aK,Mode.ro)] (a0,()))) (all_eq Ut _)).trans (by kernel_rfl)
def CN:Env:=DQ.env C Ab.1 Tryz.f45
def C1:=DQ.out C
def td(x3:bm)(x4:Int×List an)(x6:Int×List an)(x7:Int)(x8:Bool)(x9:Int):Option ((eU×Bool×PUnit)×PUnit):=aN CN [1,1,1,0,1,0,0,1,0,0,1,0,1,0] (Tryz.f45.body.getD .skip) C1 (dd 3 (V.box none 0 eA x3::V.box none dR.depth dR x4::V.dead::(V.box none dR.depth dR x6::V.d none 0 (Ty.int IntKind.i64) x7::V.d none 0 Ty.bool x8::V.d none 0 (Ty.int IntKind.i64) x9::dd 64 ([]))))
def ox(x3:bm)(x4:Int×List an)(x6:Int×List an)(x7:Int):Option ((eU×Bool×PUnit)×PUnit):=aN CN [1,1,1,0,1,0] (Tryz.f45.body.getD .skip) C1 (dd 3 (V.box none 0 eA x3::V.box none dR.depth dR x4::V.dead::(V.box none dR.depth dR x6::V.d none 0 (Ty.int IntKind.i64) x7::dd 66 ([]))))
def yg(a0:List Rel)(a1:bm):Option ((eU×Bool×PUnit)×PUnit):=Mk.ao (a0,a1,())
def ah8:List (Nat×List Nat):=[(1000005,[1,1,1,0,1,0]),(1000009,[1,1,1,0,1,0,0,1,0,0,1,0,1,0])]
theorem Ih:okB ah8 (Tryz.f45.body.getD .skip) []=true:=by kernel_rfl
theorem PD(x3:bm)(x4:Int×List an)(x6:Int×List an)(x7:Int)(x8:Bool)(x9:Int):td x3 x4 x6 x7 x8 x9 =
 bif decide (x9<(↑(List.length x6.snd):Int))then
 (ab x6.snd x9).bind λy =>
 (ab x6.snd x9).bind λy =>
  (ab x3.snd x7).bind λy =>
  (ab x6.snd x9).bind λaC =>
   (xW aC y.fst).bind λy =>
   bif !y.fst.snd.fst then some (((0,[]),false,()),())
   else
    bif x8 then td x3 x4 x6 x7 true (IntKind.i64.wrap (x9+1))
    else td x3 x4 x6 x7 y.fst.fst (IntKind.i64.wrap (x9+1))
else
 bif !x8 then
 (ab x3.snd x7).bind λy =>
  (yl y.fst).bind λy =>
  bif decide ((List.length x6.snd+1)*32<=140737488355328)then
   ox x3 x4 (x6.fst,x6.snd++[y.fst.fst]) (IntKind.i64.wrap (x7+1))
  else none
 else ox x3 x4 x6 (IntKind.i64.wrap (x7+1)):=(aQ Ih [1,1,1,0,1,0,0,1,0,0,1,0,1,0] (by kernel_rfl) _).trans (by kernel_rfl)
theorem PC(x3:bm)(x4:Int×List an)(x6:Int×List an)(x7:Int):ox x3 x4 x6 x7 =
 bif decide (x7<(↑(List.length x3.snd):Int))then td x3 x4 x6 x7 false 0
else bif decide ((↑(List.length x6.snd):Int)>12)then some (((0,[]),false,()),())else some ((x6,true,()),()):=(aQ Ih [1,1,1,0,1,0] (by kernel_rfl) _).trans (by kernel_rfl)
theorem ack(a0:List Rel)(a1:bm):yg a0 a1 =
 (yd a0 a1).bind λy =>
 bif !y.fst.fst then some (((0,[]),false,()),())else ox a1 (0,[]) (4,[]) 0:=(Eq.trans (by kernel_rfl:yg a0 a1=aw CN (Tryz.f45.body.getD .skip) C1 (aU 74 [(bo,Mode.ro),(eA,Mode.ro)] (a0,a1,()))) (all_eq Ih _)).trans (by kernel_rfl)
def Kr:Env:=Dy.env C zY.1 Tryz.f269
def NV:=Dy.out C
def sY(x0:ByteArray)(x1:Int)(x2:Int)(x7:Int):Option ((Bool×PUnit)×PUnit):=aN Kr [1,1,0,1,0] (Tryz.f269.body.getD .skip) NV (V.d none 0 bY x0::V.d none 0 hZ x1::V.d none 0 hZ x2::dd 4 (V.d none 0 (Ty.int IntKind.i64) x7::dd 26 ([])))
def tn(a0:ByteArray)(a1:Int)(a2:Int):Option ((Bool×PUnit)×PUnit):=LR.ao (a0,a1,a2,())
def ahS:List (Nat×List Nat):=[(1000004,[1,1,0,1,0])]
theorem Ud:okB ahS (Tryz.f269.body.getD .skip) []=true:=by kernel_rfl
theorem Pf(x0:ByteArray)(x1:Int)(x2:Int)(x7:Int):sY x0 x1 x2 x7 =
 bif decide (x7<(↑x0.size:Int))then
 (lY x0 x7).bind λy =>
 bif decide (y<x1)then some ((false,()),())
 else
  (lY x0 x7).bind λy =>
  bif decide (y>x2)then some ((false,()),())else sY x0 x1 x2 (IntKind.i64.wrap (x7+1))
else some ((true,()),()):=(aQ Ud [1,1,0,1,0] (by kernel_rfl) _).trans (by kernel_rfl)
theorem abH(a0:ByteArray)(a1:Int)(a2:Int):tn a0 a1 a2 =
 bif decide ((↑a0.size:Int)<1)then some ((false,()),())
else bif decide ((↑a0.size:Int)>6)then some ((false,()),())else sY a0 a1 a2 0:=(Eq.trans (by kernel_rfl:tn a0 a1 a2=aw Kr (Tryz.f269.body.getD .skip) NV (aU 34 [(bY,Mode.ro),(hZ,Mode.ro),(hZ,Mode.ro)] (a0,a1,a2,()))) (all_eq Ud _)).trans (by kernel_rfl)
def EG(a0:ByteArray):Option ((Bool×PUnit)×PUnit):=LO.ao (a0,())
theorem abC(a0:ByteArray):EG a0 =
 (tn a0 65 90).bind λy=>some ((y.fst.fst,()),()):=by kernel_rfl
def xS(a0:ByteArray):Option ((Bool×PUnit)×PUnit):=LN.ao (a0,())
theorem abA(a0:ByteArray):xS a0 =
 (tn a0 97 122).bind λy=>some ((y.fst.fst,()),()):=by kernel_rfl
def xG(a0:Int):Option ((Bool×PUnit)×PUnit):=Lt.ao (a0,())
theorem aa7(a0:Int):xG a0 =
 bif decide (a0 >= -400000000)then some ((decide (a0<=400000000),()),())else some ((false,()),()):=by kernel_rfl
def qD(a0:Int):Option ((Int×PUnit)×PUnit):=LB.ao (a0,())
theorem EE(a0:Int):qD a0 =
 bif decide (a0<0)then some ((IntKind.i64.wrap (0 - a0),()),())else some ((a0,()),()):=by kernel_rfl
def Kn:Env:=Dt.env C zn.1 Tryz.f286
def NR:=Dt.out C
def wD(x0:Int)(x1:Int):Option ((Int×PUnit)×PUnit):=aN Kn [1,1,0,0] (Tryz.f286.body.getD .skip) NR (V.d none 0 ag x0::V.d none 0 ag x1::dd 14 ([]))
def oz(a0:Int)(a1:Int):Option ((Int×PUnit)×PUnit):=LC.ao (a0,a1,())
def ahN:List (Nat×List Nat):=[(1000002,[1,1,0,0])]
theorem T8:okB ahN (Tryz.f286.body.getD .skip) []=true:=by kernel_rfl
theorem ZO(x0:Int)(x1:Int):wD x0 x1 =
 bif x1 != 0 then bif x1 != 0 then wD x1 (x0.tmod x1)else none else some ((x0,()),()):=(aQ T8 [1,1,0,0] (by kernel_rfl) _).trans (by kernel_rfl)
theorem QA(a0:Int)(a1:Int):oz a0 a1 =
 (qD a0).bind λy=>(qD a1).bind λaC=>wD y.fst.fst aC.fst.fst:=(Eq.trans (by kernel_rfl:oz a0 a1=aw Kn (Tryz.f286.body.getD .skip) NR (aU 16 [(ag,Mode.ro),(ag,Mode.ro)] (a0,a1,()))) (all_eq T8 _)).trans (by kernel_rfl)
def Kq:Env:=Dw.env C zo.1 Tryz.f287
def NU:=Dw.out C
def sX(x0:List Int)(x3:Int)(x6:List Int)(x7:Int)(x8:Int):Option ((Int×PUnit)×PUnit):=aN Kq [1,1,0,1,0] (Tryz.f287.body.getD .skip) NU (V.d none 0 bl x0::dd 2 (V.d none 0 (Ty.int IntKind.i64) x3::dd 2 (V.d none 0 bl x6::V.d none 0 (Ty.int IntKind.i64) x7::V.d none 0 (Ty.int IntKind.i64) x8::dd 8 ([]))))
def lO(a0:List Int):Option ((Int×PUnit)×PUnit):=LJ.ao (a0,())
def ahQ:List (Nat×List Nat):=[(1000003,[1,1,0,1,0])]
theorem Uc:okB ahQ (Tryz.f287.body.getD .skip) []=true:=by kernel_rfl
theorem wF(x0:List Int)(x3:Int)(x6:List Int)(x7:Int)(x8:Int):sX x0 x3 x6 x7 x8 =
 bif decide (x8<x7)then
 (ab x6 x8).bind λy =>
 (oz x3 y).bind λy=>sX x0 y.fst.fst x6 x7 (IntKind.i64.wrap (x8+1))
else some ((x3,()),()):=(aQ Uc [1,1,0,1,0] (by kernel_rfl) _).trans (by kernel_rfl)
theorem QF(a0:List Int):lO a0 =
 sX a0 0 a0 (↑a0.length:Int) 0:=(Eq.trans (by kernel_rfl:lO a0=aw Kq (Tryz.f287.body.getD .skip) NU (aU 17 [(bl,Mode.ro)] (a0,()))) (all_eq Uc _)).trans (by kernel_rfl)
def Kg:Env:=Di.env C zq.1 Tryz.f206
def NK:=Di.out C
def qo(x1:aa)(fc:List Int)(vO:Int)(sD:Int):Option ((Bool×PUnit)×PUnit):=aN Kg [1,1,0,1,0] (Tryz.f206.body.getD .skip) NK (V.dead::(V.box none 0 aF x1::dd 14 (V.d none 0 bl fc::V.d none 0 (Ty.int IntKind.i64) vO::V.d none 0 (Ty.int IntKind.i64) sD::dd 14 ([]))))
def jL(a0:aa):Option ((Bool×PUnit)×PUnit):=Lo.ao (a0,())
def ahD:List (Nat×List Nat):=[(1000004,[1,1,0,1,0])]
theorem TX:okB ahD (Tryz.f206.body.getD .skip) []=true:=by kernel_rfl
theorem OW(x1:aa)(fc:List Int)(vO:Int)(sD:Int):qo x1 fc vO sD =
 bif decide (sD<vO)then
 (ab fc sD).bind λy =>
 (xG y).bind λy =>
  bif !y.fst.fst then some ((false,()),())else qo x1 fc vO (IntKind.i64.wrap (sD+1))
else
 (lO x1.fst).bind λy =>
 (oz y.fst.fst x1.snd.fst).bind λy=>some ((decide (y.fst.fst<=1),()),()):=(aQ TX [1,1,0,1,0] (by kernel_rfl) _).trans (by kernel_rfl)
theorem aaZ(a0:aa):jL a0 =
 bif decide ((↑(List.length a0.fst):Int)>4)then some ((false,()),())
else
 (xG a0.snd.fst).bind λy =>
 bif !y.fst.fst then some ((false,()),())else qo a0 a0.fst (↑(List.length a0.fst):Int) 0:=(Eq.trans (by kernel_rfl:jL a0=aw Kg (Tryz.f206.body.getD .skip) NK (aU 33 [(aF,Mode.ro)] (a0,()))) (all_eq TX _)).trans (by kernel_rfl)
def Kh:Env:=Dj.env C zf.1 Tryz.f97
def NL:=Dj.out C
def sP(x1:Int×List aa)(vP:List aa)(fP:Int)(cR:Int):Option ((Bool×PUnit)×PUnit):=aN Kh [1,1,0,1,0] (Tryz.f97.body.getD .skip) NL (V.dead::(V.box none 0 aK x1::dd 18 (V.d none 0 (Ty.slice 153 aF) vP::V.d none 0 (Ty.int IntKind.i64) fP::V.d none 0 (Ty.int IntKind.i64) cR::dd 15 ([]))))
def jM(a0:Int×List aa):Option ((Bool×PUnit)×PUnit):=Lp.ao (a0,())
def ahE:List (Nat×List Nat):=[(1000004,[1,1,0,1,0])]
theorem TY:okB ahE (Tryz.f97.body.getD .skip) []=true:=by kernel_rfl
theorem OX(x1:Int×List aa)(vP:List aa)(fP:Int)(cR:Int):sP x1 vP fP cR =
 bif decide (cR<fP)then
 (ab vP cR).bind λy =>
 (jL y).bind λaC =>
  bif !aC.fst.fst then some ((false,()),())
  else
  bif (↑(List.length y.fst):Int) != x1.fst then some ((false,()),())
  else sP x1 vP fP (IntKind.i64.wrap (cR+1))
else some ((true,()),()):=(aQ TY [1,1,0,1,0] (by kernel_rfl) _).trans (by kernel_rfl)
theorem aa0(a0:Int×List aa):jM a0 =
 bif decide (a0.fst<0)then some ((false,()),())
else
 bif decide (a0.fst>4)then some ((false,()),())
 else
 bif decide ((↑(List.length a0.snd):Int)>16)then some ((false,()),())
 else sP a0 a0.snd (↑(List.length a0.snd):Int) 0:=(Eq.trans (by kernel_rfl:jM a0=aw Kh (Tryz.f97.body.getD .skip) NL (aU 38 [(aK,Mode.ro)] (a0,()))) (all_eq TY _)).trans (by kernel_rfl)
def Kk:Env:=Dn.env C zg.1 Tryz.f260
def NO:=Dn.out C
def sS(x1:ByteArray×Int×List Rw)(bz:List Rw)(dT:Int)(dU:Int):Option ((Bool×PUnit)×PUnit):=aN Kk [1,1,0,1,0] (Tryz.f260.body.getD .skip) NO (V.dead::(V.box none 0 iT x1::dd 24 (V.d none 0 (Ty.slice 304 oi) bz::V.d none 0 (Ty.int IntKind.i64) dT::V.d none 0 (Ty.int IntKind.i64) dU::dd 22 ([]))))
def xI(a0:ByteArray×Int×List Rw):Option ((Bool×PUnit)×PUnit):=Lv.ao (a0,())
def ahI:List (Nat×List Nat):=[(1000004,[1,1,0,1,0])]
theorem T5:okB ahI (Tryz.f260.body.getD .skip) []=true:=by kernel_rfl
theorem O2(x1:ByteArray×Int×List Rw)(bz:List Rw)(dT:Int)(dU:Int):sS x1 bz dT dU =
 bif decide (dU<dT)then
 (ab bz dU).bind λy =>
 (xS y.fst).bind λaC =>
  bif !aC.fst.fst then some ((false,()),())
  else
  (jM y.snd).bind λbP =>
   bif !bP.fst.fst then some ((false,()),())
   else
   bif y.snd.fst != x1.snd.fst then some ((false,()),())
   else sS x1 bz dT (IntKind.i64.wrap (dU+1))
else some ((true,()),()):=(aQ T5 [1,1,0,1,0] (by kernel_rfl) _).trans (by kernel_rfl)
theorem aba(a0:ByteArray×Int×List Rw):xI a0 =
 (EG a0.fst).bind λy =>
 bif !y.fst.fst then some ((false,()),())
 else
 bif decide (a0.snd.fst<0)then some ((false,()),())
 else
  bif decide (a0.snd.fst>4)then some ((false,()),())
  else
  bif decide ((↑(List.length a0.snd.snd):Int)>8)then some ((false,()),())
  else sS a0 a0.snd.snd (↑(List.length a0.snd.snd):Int) 0:=(Eq.trans (by kernel_rfl:xI a0=aw Kk (Tryz.f260.body.getD .skip) NO (aU 51 [(iT,Mode.ro)] (a0,()))) (all_eq T5 _)).trans (by kernel_rfl)
def Kf:Env:=Dh.env C zi.1 Tryz.f261
def NJ:=Dh.out C
def wA(x0:List Rel)(x1:ByteArray)(x7:List Rel)(x8:Int)(x9:Int):Option ((Int×PUnit)×PUnit):=aN Kf [1,0,1,0] (Tryz.f261.body.getD .skip) NJ (V.d none 0 bo x0::V.d none 0 bY x1::dd 5 (V.d none 0 bo x7::V.d none 0 (Ty.int IntKind.i64) x8::V.d none 0 (Ty.int IntKind.i64) x9::dd 10 ([])))
def tj(a0:List Rel)(a1:ByteArray):Option ((Int×PUnit)×PUnit):=Lm.ao (a0,a1,())
def ahC:List (Nat×List Nat):=[(1000002,[1,0,1,0])]
theorem TW:okB ahC (Tryz.f261.body.getD .skip) []=true:=by kernel_rfl
theorem OV(x0:List Rel)(x1:ByteArray)(x7:List Rel)(x8:Int)(x9:Int):wA x0 x1 x7 x8 x9 =
 bif decide (x9<x8)then
 (ab x7 x9).bind λy =>
 bif ByteArray.toList y.fst==x1.toList then some ((x9,()),())
 else wA x0 x1 x7 x8 (IntKind.i64.wrap (x9+1))
else some ((-1,()),()):=(aQ TW [1,0,1,0] (by kernel_rfl) _).trans (by kernel_rfl)
theorem aaW(a0:List Rel)(a1:ByteArray):tj a0 a1 =
 wA a0 a1 a0 (↑a0.length:Int) 0:=(Eq.trans (by kernel_rfl:tj a0 a1=aw Kf (Tryz.f261.body.getD .skip) NJ (aU 20 [(bo,Mode.ro),(bY,Mode.ro)] (a0,a1,()))) (all_eq TW _)).trans (by kernel_rfl)
def Ki:Env:=Dk.env C zd.1 Tryz.f163
def NM:=Dk.out C
def sQ(x0:List Rel)(x8:List Rel)(x9:Int)(bN:Int):Option ((Bool×PUnit)×PUnit):=aN Ki [1,1,0,1,0] (Tryz.f163.body.getD .skip) NM (V.d none 0 bo x0::dd 7 (V.d none 0 bo x8::V.d none 0 (Ty.int IntKind.i64) x9::V.d none 0 (Ty.int IntKind.i64) bN::dd 16 ([])))
def xE(a0:List Rel):Option ((Bool×PUnit)×PUnit):=Lq.ao (a0,())
def ahF:List (Nat×List Nat):=[(1000004,[1,1,0,1,0])]
theorem TZ:okB ahF (Tryz.f163.body.getD .skip) []=true:=by kernel_rfl
theorem OY(x0:List Rel)(x8:List Rel)(x9:Int)(bN:Int):sQ x0 x8 x9 bN =
 bif decide (bN<x9)then
 (ab x8 bN).bind λy =>
 (xI y).bind λaC =>
  bif !aC.fst.fst then some ((false,()),())
  else
  (tj x0 y.fst).bind λy =>
   bif y.fst.fst != bN then some ((false,()),())else sQ x0 x8 x9 (IntKind.i64.wrap (bN+1))
else some ((true,()),()):=(aQ TZ [1,1,0,1,0] (by kernel_rfl) _).trans (by kernel_rfl)
theorem aa1(a0:List Rel):xE a0 =
 bif decide ((↑a0.length:Int)>6)then some ((false,()),())else sQ a0 a0 (↑a0.length:Int) 0:=(Eq.trans (by kernel_rfl:xE a0=aw Ki (Tryz.f163.body.getD .skip) NM (aU 27 [(bo,Mode.ro)] (a0,()))) (all_eq TZ _)).trans (by kernel_rfl)
def EI(a0:aa):Option ((Bool×PUnit)×PUnit):=LS.ao (a0,())
theorem abI(a0:aa):EI a0 =
 bif (↑(List.length a0.fst):Int)==0 then
 bif a0.snd.fst==0 then some ((!a0.snd.snd,()),())else some ((false,()),())
else some ((false,()),()):=by kernel_rfl
def xT(a0:Int):Option ((Bool×PUnit)×PUnit):=LQ.ao (a0,())
theorem abG(a0:Int):xT a0 =
 bif decide (a0>=0)then some ((decide (a0<4),()),())else some ((false,()),()):=by kernel_rfl
def qk:Env:=Dx.env C zt.1 Tryz.f323
def qn:=Dx.out C
def wG(x3:Int×aa×ByteArray×ByteArray×List Int×Int×Int×Int)(vS:List Int)(vT:Int)(sJ:Int):Option ((Bool×PUnit)×PUnit):=aN qk [1,1,1,0,1,0,1,1,1,0,1,1,0,1,0] (Tryz.f323.body.getD .skip) qn (dd 3 (V.box none 0 fk x3::dd 87 (V.d none 0 bl vS::V.d none 0 (Ty.int IntKind.i64) vT::V.d none 0 (Ty.int IntKind.i64) sJ::dd 16 ([]))))
def wk(x3:Int×aa×ByteArray×ByteArray×List Int×Int×Int×Int):Option ((Bool×PUnit)×PUnit):=gw qk [1,1,1,0,1,0,1,1,1,0,1,1] (Tryz.f323.body.getD .skip) qn (dd 3 (V.box none 0 fk x3::dd 106 ([])))
def CT(x3:Int×aa×ByteArray×ByteArray×List Int×Int×Int×Int)(CE:Bool):Option ((Bool×PUnit)×PUnit):=gw qk [1,1,1,0,1,0,1,1,1,1,1] (Tryz.f323.body.getD .skip) qn (dd 3 (V.box none 0 fk x3::dd 97 (V.d none 0 Ty.bool CE::dd 8 ([]))))
def wm(x0:List Rel)(x3:Int×aa×ByteArray×ByteArray×List Int×Int×Int×Int):Option ((Bool×PUnit)×PUnit):=gw qk [1,1,1] (Tryz.f323.body.getD .skip) qn (V.d none 0 bo x0::dd 2 (V.box none 0 fk x3::dd 106 ([])))
def CU(x0:List Rel)(x3:Int×aa×ByteArray×ByteArray×List Int×Int×Int×Int):Option ((Bool×PUnit)×PUnit):=gw qk [1,1] (Tryz.f323.body.getD .skip) qn (V.d none 0 bo x0::dd 2 (V.box none 0 fk x3::dd 106 ([])))
def xR(a0:List Rel)(a1:Int×aa×ByteArray×ByteArray×List Int×Int×Int×Int):Option ((Bool×PUnit)×PUnit):=LL.ao (a0,a1,())
def ahR:List (Nat×List Nat):=[(2000003,[1,1]),(2000005,[1,1,1]),(2000012,[1,1,1,0,1,0,1,1,1,0,1,1]),(1000013,[1,1,1,0,1,0,1,1,1,0,1,1,0,1,0]),(2000021,[1,1,1,0,1,0,1,1,1,1,1])]
theorem rR:okB ahR (Tryz.f323.body.getD .skip) []=true:=by kernel_rfl
theorem Pe(x3:Int×aa×ByteArray×ByteArray×List Int×Int×Int×Int)(vS:List Int)(vT:Int)(sJ:Int):wG x3 vS vT sJ =
 bif decide (sJ<vT)then
 (ab vS sJ).bind λy =>
 (xT y).bind λy =>
  bif !y.fst.fst then some ((false,()),())else wG x3 vS vT (IntKind.i64.wrap (sJ+1))
else some ((true,()),()):=(aQ rR [1,1,1,0,1,0,1,1,1,0,1,1,0,1,0] (by kernel_rfl) _).trans (by kernel_rfl)
theorem ZA(x3:Int×aa×ByteArray×ByteArray×List Int×Int×Int×Int):wk x3 =
 wG x3 x3.snd.snd.snd.snd.fst (↑(List.length x3.snd.snd.snd.snd.fst):Int) 0:=(join_eq rR [1,1,1,0,1,0,1,1,1,0,1,1] _).trans (by kernel_rfl)
theorem NH(x3:Int×aa×ByteArray×ByteArray×List Int×Int×Int×Int)(CE:Bool):CT x3 CE =
 bif CE then (xT x3.snd.snd.snd.snd.snd.fst).bind λy=>some ((y.fst.fst,()),())
else some ((x3.snd.snd.snd.snd.snd.fst==0,()),()):=(join_eq rR [1,1,1,0,1,0,1,1,1,1,1] _).trans (by kernel_rfl)
theorem ZD(x0:List Rel)(x3:Int×aa×ByteArray×ByteArray×List Int×Int×Int×Int):wm x0 x3 =
 bif x3.fst==0 then
 bif x3.snd.snd.snd.snd.snd.fst==0 then
 (jL x3.snd.fst).bind λy =>
  bif y.fst.fst then some (((↑(List.length x3.snd.fst.fst):Int)==4,()),())else some ((false,()),())
 else some ((false,()),())
else
 bif x3.fst==1 then
 (tj x0 x3.snd.snd.fst).bind λy =>
  bif x3.snd.snd.snd.snd.snd.fst != 0 then some ((false,()),())
  else
  bif decide (y.fst.fst<0)then some ((false,()),())
  else
   (ab x0 y.fst.fst).bind λy =>
   bif y.snd.fst != (↑(List.length x3.snd.snd.snd.snd.fst):Int)then some ((false,()),())
   else
    bif !ByteArray.toList x3.snd.snd.snd.fst==(ByteArray.mk #[]).toList then
    (xS x3.snd.snd.snd.fst).bind λy=>bif !y.fst.fst then some ((false,()),())else wk x3
    else wk x3
 else bif x3.fst==5 then CT x3 true else CT x3 (x3.fst==6):=(join_eq rR [1,1,1] _).trans (by kernel_rfl)
theorem ZC(x0:List Rel)(x3:Int×aa×ByteArray×ByteArray×List Int×Int×Int×Int):CU x0 x3 =
 bif x3.fst != 1 then
 bif !ByteArray.toList x3.snd.snd.fst==(ByteArray.mk #[]).toList then some ((false,()),())
 else
 bif !ByteArray.toList x3.snd.snd.snd.fst==(ByteArray.mk #[]).toList then some ((false,()),())
 else
  bif decide ((↑(List.length x3.snd.snd.snd.snd.fst):Int)>0)then some ((false,()),())else wm x0 x3
else wm x0 x3:=(join_eq rR [1,1] _).trans (by kernel_rfl)
theorem abw(a0:List Rel)(a1:Int×aa×ByteArray×ByteArray×List Int×Int×Int×Int):xR a0 a1 =
 bif a1.fst != 0 then
 (EI a1.snd.fst).bind λy=>bif !y.fst.fst then some ((false,()),())else CU a0 a1
else CU a0 a1:=(Eq.trans (by kernel_rfl:xR a0 a1=aw qk (Tryz.f323.body.getD .skip) qn (aU 110 [(bo,Mode.ro),(fk,Mode.ro)] (a0,a1,()))) (all_eq rR _)).trans (by kernel_rfl)
def EJ(a0:Int):Option ((Int×PUnit)×PUnit):=LX.ao (a0,())
theorem abP(a0:Int):EJ a0 =
 bif a0==0 then some ((0,()),())
else
 bif a0==1 then some ((0,()),())
 else
 bif a0==2 then some ((1,()),())
 else
  bif a0==5 then some ((1,()),())
  else
  bif a0==6 then some ((1,()),())
  else bif a0==3 then some ((2,()),())else bif a0==4 then some ((2,()),())else some ((-1,()),()):=by kernel_rfl
def CI:Env:=Dl.env C zw.1 Tryz.f279
def CW:=Dl.out C
def wh(x0:List Rel)(x1:List aM)(x5:List Int)(cH:List aM)(de:Int)(bz:Int):Option ((Bool×PUnit)×PUnit):=gw CI [1,1,1,0,1,0,0,1,1,1] (Tryz.f279.body.getD .skip) CW (V.d none 0 bo x0::V.d none 0 cP x1::dd 3 (V.d none (ag.depth+1) (Ty.slice 3 ag) x5::dd 18 (V.d none 0 cP cH::V.d none 0 (Ty.int IntKind.i64) de::V.d none 0 (Ty.int IntKind.i64) bz::dd 95 ([]))))
def sR(x0:List Rel)(x1:List aM)(x5:List Int)(cH:List aM)(de:Int)(bz:Int):Option ((Bool×PUnit)×PUnit):=aN CI [1,1,1,0,1,0] (Tryz.f279.body.getD .skip) CW (V.d none 0 bo x0::V.d none 0 cP x1::dd 3 (V.d none (ag.depth+1) (Ty.slice 3 ag) x5::dd 18 (V.d none 0 cP cH::V.d none 0 (Ty.int IntKind.i64) de::V.d none 0 (Ty.int IntKind.i64) bz::dd 95 ([]))))
def xF(a0:List Rel)(a1:List aM):Option ((Bool×PUnit)×PUnit):=Ls.ao (a0,a1,())
def ahG:List (Nat×List Nat):=[(1000005,[1,1,1,0,1,0]),(2000023,[1,1,1,0,1,0,0,1,1,1])]
theorem Ia:okB ahG (Tryz.f279.body.getD .skip) []=true:=by kernel_rfl
theorem Zz(x0:List Rel)(x1:List aM)(x5:List Int)(cH:List aM)(de:Int)(bz:Int):wh x0 x1 x5 cH de bz =
 sR x0 x1 x5 cH de (IntKind.i64.wrap (bz+1)):=(join_eq Ia [1,1,1,0,1,0,0,1,1,1] _).trans (by kernel_rfl)
theorem OZ(x0:List Rel)(x1:List aM)(x5:List Int)(cH:List aM)(de:Int)(bz:Int):sR x0 x1 x5 cH de bz =
 bif decide (bz<de)then
 (ab cH bz).bind λy =>
 (xR x0 y).bind λaC =>
  bif !aC.fst.fst then some ((false,()),())
  else
  (EJ y.fst).bind λbP =>
   bif bP.fst.fst==0 then
   bif y.snd.snd.snd.snd.snd.snd.fst != 0 then some ((false,()),())
   else
    bif y.snd.snd.snd.snd.snd.snd.snd != 0 then some ((false,()),())
    else
    (ab x5 bz).bind λy =>
     (ab x5 bz).bind λy =>
     (ab x5 bz).bind λy=>(some (x5.set bz.toNat bz)).bind λy=>wh x0 x1 y cH de bz
   else
   bif bP.fst.fst==1 then
    bif bz==0 then some ((false,()),())
    else
    bif y.snd.snd.snd.snd.snd.snd.fst != IntKind.i64.wrap (bz - 1)then some ((false,()),())
    else
     bif y.snd.snd.snd.snd.snd.snd.snd != 0 then some ((false,()),())
     else
     (ab x5 (IntKind.i64.wrap (bz - 1))).bind λy =>
      (ab x5 (IntKind.i64.wrap (bz - 1))).bind λy =>
      (ab x5 bz).bind λcd =>
       (ab x5 bz).bind λdf =>
       (ab x5 bz).bind λfQ =>
        (some (x5.set bz.toNat y)).bind λy=>wh x0 x1 y cH de bz
   else
    bif bP.fst.fst==2 then
    bif bz==0 then some ((false,()),())
    else
     bif y.snd.snd.snd.snd.snd.snd.snd != IntKind.i64.wrap (bz - 1)then some ((false,()),())
     else
     (ab x5 (IntKind.i64.wrap (bz - 1))).bind λcd =>
      (ab x5 (IntKind.i64.wrap (bz - 1))).bind λdf =>
      bif df==0 then some ((false,()),())
      else
       (ab x5 (IntKind.i64.wrap (bz - 1))).bind λfQ =>
       (ab x5 (IntKind.i64.wrap (bz - 1))).bind λgh =>
        bif y.snd.snd.snd.snd.snd.snd.fst != IntKind.i64.wrap (gh - 1)then some ((false,()),())
        else
        (ab x5 y.snd.snd.snd.snd.snd.snd.fst).bind λqf =>
         (ab x5 y.snd.snd.snd.snd.snd.snd.fst).bind λy =>
         (ab x5 bz).bind λjJ =>
          (ab x5 bz).bind λiX =>
          (ab x5 bz).bind λiW =>
           (some (x5.set bz.toNat y)).bind λy=>wh x0 x1 y cH de bz
    else some ((false,()),())
else
 (ab x5 (IntKind.i64.wrap ((↑x1.length:Int) - 1))).bind λy =>
 (ab x5 (IntKind.i64.wrap ((↑x1.length:Int) - 1))).bind λy=>some ((y==0,()),()):=(aQ Ia [1,1,1,0,1,0] (by kernel_rfl) _).trans (by kernel_rfl)
theorem aa5(a0:List Rel)(a1:List aM):xF a0 a1 =
 (xE a0).bind λy =>
 bif !y.fst.fst then some ((false,()),())
 else
 bif decide ((↑a1.length:Int)<1)then some ((false,()),())
 else
  bif decide ((↑a1.length:Int)>12)then some ((false,()),())
  else
  bif
   decide (0<=(↑a1.length:Int))&&decide ((↑a1.length:Int)<=(↑a1.length:Int)) &&
    decide ((↑a1.length:Int)*(↑8:Int)<=140737488355328) &&
    decide ((↑a1.length:Int)<=9223372036854775807)then
   sR a0 a1 (List.replicate a1.length (0:Int)) a1 (↑a1.length:Int) 0
  else none:=(Eq.trans (by kernel_rfl:xF a0 a1=aw CI (Tryz.f279.body.getD .skip) CW (aU 122 [(bo,Mode.ro),(cP,Mode.ro)] (a0,a1,()))) (all_eq Ia _)).trans (by kernel_rfl)
def Kj:Env:=Dm.env C zh.1 Tryz.f200
def NN:=Dm.out C
def wB(x1:List aM)(fb:List aM)(iU:Int)(ik:Int):Option ((Bool×PUnit)×PUnit):=aN Kj [1,1,0,1,0] (Tryz.f200.body.getD .skip) NN (V.dead::(V.d none 0 cP x1::dd 9 (V.d none 0 cP fb::V.d none 0 (Ty.int IntKind.i64) iU::V.d none 0 (Ty.int IntKind.i64) ik::dd 12 ([]))))
def xH(a0:List Rel)(a1:List aM):Option ((Bool×PUnit)×PUnit):=Lu.ao (a0,a1,())
def ahH:List (Nat×List Nat):=[(1000004,[1,1,0,1,0])]
theorem T4:okB ahH (Tryz.f200.body.getD .skip) []=true:=by kernel_rfl
theorem O1(x1:List aM)(fb:List aM)(iU:Int)(ik:Int):wB x1 fb iU ik =
 bif decide (ik<iU)then
 (ab fb ik).bind λy =>
 bif y.fst==2 then some ((false,()),())
 else bif y.fst==6 then some ((false,()),())else wB x1 fb iU (IntKind.i64.wrap (ik+1))
else some ((true,()),()):=(aQ T4 [1,1,0,1,0] (by kernel_rfl) _).trans (by kernel_rfl)
theorem aa8(a0:List Rel)(a1:List aM):xH a0 a1 =
 (xF a0 a1).bind λy =>
 bif !y.fst.fst then some ((false,()),())else wB a1 a1 (↑a1.length:Int) 0:=(Eq.trans (by kernel_rfl:xH a0 a1=aw Kj (Tryz.f200.body.getD .skip) NN (aU 26 [(bo,Mode.ro),(cP,Mode.ro)] (a0,a1,()))) (all_eq T4 _)).trans (by kernel_rfl)
def EH(a0:List Rel)(a1:Int)(a2:Int):Option ((Bool×PUnit)×PUnit):=LP.ao (a0,a1,a2,())
theorem abE(a0:List Rel)(a1:Int)(a2:Int):EH a0 a1 a2 =
 bif decide (a1>=0)then
 bif decide (a1<(↑a0.length:Int))then
 bif decide (a2>=0)then (ab a0 a1).bind λy=>some ((decide (a2<(↑(List.length y.snd.snd):Int)),()),())
 else some ((false,()),())
 else some ((false,()),())
else some ((false,()),()):=by kernel_rfl
def CJ:Env:=Dp.env C zr.1 Tryz.f87
def CX:=Dp.out C
def sT(x0:List Rel)(x3:bm)(x6:an×List (List Int))(fP:List bA)(cR:Int)(cS:Int)(vQ:List (List Int))(vR:Int)(sG:Int):Option ((Bool×PUnit)×PUnit):=aN CJ [1,1,0,1,0,0,1,1,0,0,1,1,1,0] (Tryz.f87.body.getD .skip) CX (V.d none 0 bo x0::dd 2 (V.box none 0 eA x3::dd 2 (V.box none 0 hY x6::dd 14 (V.d none 0 (Ty.slice 48 hY) fP::V.d none 0 (Ty.int IntKind.i64) cR::V.d none 0 (Ty.int IntKind.i64) cS::dd 20 (V.d none 0 (Ty.slice 32 bl) vQ::V.d none 0 (Ty.int IntKind.i64) vR::V.d none 0 (Ty.int IntKind.i64) sG::dd 19 ([]))))))
def qp(x0:List Rel)(x3:bm)(fP:List bA)(cR:Int)(cS:Int):Option ((Bool×PUnit)×PUnit):=aN CJ [1,1,0,1,0] (Tryz.f87.body.getD .skip) CX (V.d none 0 bo x0::dd 2 (V.box none 0 eA x3::dd 17 (V.d none 0 (Ty.slice 48 hY) fP::V.d none 0 (Ty.int IntKind.i64) cR::V.d none 0 (Ty.int IntKind.i64) cS::dd 42 ([]))))
def xJ(a0:List Rel)(a1:bm):Option ((Bool×PUnit)×PUnit):=Lw.ao (a0,a1,())
def ahJ:List (Nat×List Nat):=[(1000004,[1,1,0,1,0]),(1000009,[1,1,0,1,0,0,1,1,0,0,1,1,1,0])]
theorem Ib:okB ahJ (Tryz.f87.body.getD .skip) []=true:=by kernel_rfl
theorem O4(x0:List Rel)(x3:bm)(x6:an×List (List Int))(fP:List bA)(cR:Int)(cS:Int)(vQ:List (List Int))(vR:Int)(sG:Int):sT x0 x3 x6 fP cR cS vQ vR sG =
 bif decide (sG<vR)then
 (ab vQ sG).bind λy =>
 bif (↑y.length:Int) != 2 then some ((false,()),())
 else
  (ab y 0).bind λaC =>
  (ab y 1).bind λy =>
   (EH x0 aC y).bind λy =>
   bif !y.fst.fst then some ((false,()),())
   else sT x0 x3 x6 fP cR cS vQ vR (IntKind.i64.wrap (sG+1))
else qp x0 x3 fP cR (IntKind.i64.wrap (cS+1)):=(aQ Ib [1,1,0,1,0,0,1,1,0,0,1,1,1,0] (by kernel_rfl) _).trans (by kernel_rfl)
theorem O3(x0:List Rel)(x3:bm)(fP:List bA)(cR:Int)(cS:Int):qp x0 x3 fP cR cS =
 bif decide (cS<cR)then
 (ab fP cS).bind λy =>
 (jM y.fst).bind λaC =>
  bif !aC.fst.fst then some ((false,()),())
  else
  bif y.fst.fst != 4 then some ((false,()),())
  else
   bif decide ((↑(List.length y.snd):Int)>12)then some ((false,()),())
   else sT x0 x3 y fP cR cS y.snd (↑(List.length y.snd):Int) 0
else some ((true,()),()):=(aQ Ib [1,1,0,1,0] (by kernel_rfl) _).trans (by kernel_rfl)
theorem abc(a0:List Rel)(a1:bm):xJ a0 a1 =
 (xH a0 a1.fst).bind λy =>
 bif !y.fst.fst then some ((false,()),())
 else
 bif decide ((↑(List.length a1.snd):Int)>24)then some ((false,()),())
 else qp a0 a1 a1.snd (↑(List.length a1.snd):Int) 0:=(Eq.trans (by kernel_rfl:xJ a0 a1=aw CJ (Tryz.f87.body.getD .skip) CX (aU 66 [(bo,Mode.ro),(eA,Mode.ro)] (a0,a1,()))) (all_eq Ib _)).trans (by kernel_rfl)
def Km:Env:=Dr.env C zj.1 Tryz.f282
def NQ:=Dr.out C
def wC(x1:aa)(x2:aa)(x4:aa)(cS:List Int)(cH:Int)(de:Int):Option ((aa×Bool×PUnit)×PUnit):=aN Km [1,1,1,0,1,0] (Tryz.f282.body.getD .skip) NQ (V.dead::(V.box none 0 aF x1::V.box none aF.depth aF x2::V.dead::(V.box none aF.depth aF x4::dd 18 (V.d none 0 bl cS::V.d none 0 (Ty.int IntKind.i64) cH::V.d none 0 (Ty.int IntKind.i64) de::dd 12 ([])))))
def xL(a0:aa):Option ((aa×Bool×PUnit)×PUnit):=Lz.ao (a0,())
def ahL:List (Nat×List Nat):=[(1000005,[1,1,1,0,1,0])]
theorem T7:okB ahL (Tryz.f282.body.getD .skip) []=true:=by kernel_rfl
theorem O6(x1:aa)(x2:aa)(x4:aa)(cS:List Int)(cH:Int)(de:Int):wC x1 x2 x4 cS cH de =
 bif decide (de<cH)then
 (ab cS de).bind λy =>
 (ab x4.fst de).bind λaC =>
  (ab x4.fst de).bind λbP =>
  (ab x4.fst de).bind λcd =>
   (some (List.set x4.fst de.toNat (IntKind.i64.wrap (0 - y)))).bind λy =>
   wC x1 x2 (y,x4.snd) cS cH (IntKind.i64.wrap (de+1))
else some ((x4,true,()),()):=(aQ T7 [1,1,1,0,1,0] (by kernel_rfl) _).trans (by kernel_rfl)
theorem abi(a0:aa):xL a0 =
 (jL a0).bind λy =>
 bif !y.fst.fst then some ((([],0,false),false,()),())
 else
 bif
  decide (0<=(↑(List.length a0.fst):Int)) &&
    decide ((↑(List.length a0.fst):Int)<=(↑(List.length a0.fst):Int)) &&
   decide ((↑(List.length a0.fst):Int)*(↑8:Int)<=140737488355328) &&
   decide ((↑(List.length a0.fst):Int)<=9223372036854775807)then
  wC a0 ([],0,false)
  (List.replicate (List.length a0.fst) (0:Int),IntKind.i64.wrap (0 - a0.snd.fst),!a0.snd.snd) a0.fst
  (↑(List.length a0.fst):Int) 0
 else none:=(Eq.trans (by kernel_rfl:xL a0=aw Km (Tryz.f282.body.getD .skip) NQ (aU 38 [(aF,Mode.ro)] (a0,()))) (all_eq T7 _)).trans (by kernel_rfl)
def ES(a0:Option PUnit)(a1:Int):Option ((List aa×PUnit)×PUnit):=ME.ao (a0,a1,())
theorem acO(a0:Option PUnit)(a1:Int):ES a0 a1 =
 bif decide (a1<0)then none
else
 bif decide (IntKind.i64.wrap (a1 - IntKind.i64.wrap (0 - 0))>0)then
 bif
  decide (0<IntKind.i64.wrap (a1 - IntKind.i64.wrap (0 - 0)))&&decide (aF.sz≠0) &&
   decide (IntKind.i64.wrap (a1 - IntKind.i64.wrap (0 - 0))*(↑40:(Ty.int IntKind.i64).den)<=140737488355328) &&
   decide (IntKind.i64.wrap (a1 - IntKind.i64.wrap (0 - 0))<=140737488355328)then
  some (([],()),())
 else none
 else some (([],()),()):=by kernel_rfl
def CP:Env:=D1.env C Ah.1 Tryz.f296
def C3:=D1.out C
def wS(x0:List (List aa))(x6:List aa)(de:List (List aa))(bz:Int)(dT:Int):Option ((List aa×PUnit)×PUnit):=aN CP [1,1,1,1,0,1,0] (Tryz.f296.body.getD .skip) C3 (V.d none 0 p5 x0::dd 5 (V.d none 1 cQ x6::dd 18 (V.d none 0 p5 de::V.d none 0 (Ty.int IntKind.i64) bz::V.d none 0 (Ty.int IntKind.i64) dT::dd 8 ([]))))
def wT(x0:List (List aa))(x3:Int)(x9:List (List aa))(bN:Int)(fb:Int):Option ((List aa×PUnit)×PUnit):=aN CP [1,1,0,1,0] (Tryz.f296.body.getD .skip) C3 (V.d none 0 p5 x0::dd 2 (V.d none 0 (Ty.int IntKind.i64) x3::dd 5 (V.d none 0 p5 x9::V.d none 0 (Ty.int IntKind.i64) bN::V.d none 0 (Ty.int IntKind.i64) fb::dd 24 ([]))))
def yp(a0:List (List aa)):Option ((List aa×PUnit)×PUnit):=MD.ao (a0,())
def aik:List (Nat×List Nat):=[(1000003,[1,1,0,1,0]),(1000011,[1,1,1,1,0,1,0])]
theorem Ij:okB aik (Tryz.f296.body.getD .skip) []=true:=by kernel_rfl
theorem Dd(x0:List (List aa))(x6:List aa)(de:List (List aa))(bz:Int)(dT:Int):wS x0 x6 de bz dT =
 bif decide (dT<bz)then
 (ab de dT).bind λy =>
 bif decide ((x6.length+y.length)*40<=140737488355328)then
  wS x0 (x6++y) de bz
  (IntKind.i64.wrap (dT+1))
 else none
else some ((x6,()),()):=(aQ Ij [1,1,1,1,0,1,0] (by kernel_rfl) _).trans (by kernel_rfl)
theorem De(x0:List (List aa))(x3:Int)(x9:List (List aa))(bN:Int)(fb:Int):wT x0 x3 x9 bN fb =
 bif decide (fb<bN)then
 (ab x9 fb).bind λy =>
 bif decide (IntKind.i64.wrap (x3+(↑y.length:Int))<0)then none
 else
  wT x0
  (IntKind.i64.wrap (x3+(↑y.length:Int))) x9 bN (IntKind.i64.wrap (fb+1))
else
 (ES none x3).bind λy =>
 wS x0 y.fst.fst x0 (↑x0.length:Int) 0:=(aQ Ij [1,1,0,1,0] (by kernel_rfl) _).trans (by kernel_rfl)
theorem acN(a0:List (List aa)):yp a0 =
 wT a0 0 a0 (↑a0.length:Int) 0:=(Eq.trans (by kernel_rfl:yp a0=aw CP (Tryz.f296.body.getD .skip) C3 (aU 36 [(p5,Mode.ro)] (a0,()))) (all_eq Ij _)).trans (by kernel_rfl)
def EF(a0:aa):Option ((Bool×PUnit)×PUnit):=LM.ao (a0,())
theorem aby(a0:aa):EF a0 =
 (lO a0.fst).bind λy=>some ((y.fst.fst != 0,()),()):=by kernel_rfl
def xQ(a0:Int):Option ((an×PUnit)×PUnit):=LK.ao (a0,())
theorem abv(a0:Int):xQ a0 =
 bif
 decide (0<=a0)&&decide (a0<=a0)&&decide (a0*(↑8:Int)<=140737488355328) &&
  decide (a0<=9223372036854775807)then
 some (((a0,[(List.replicate a0.toNat (0:Int),1,false)]),()),())
else none:=by kernel_rfl
def QE(a0:List Int):Option ((List Int×PUnit)×PUnit):=LH.ao (a0,())
theorem abr(a0:List Int):QE a0 =
 bif decide ((0+a0.length)*8<=140737488355328)then some ((a0,()),())else none:=by kernel_rfl
def xM(a0:aa):Option ((aa×PUnit)×PUnit):=LF.ao (a0,())
theorem abp(a0:aa):xM a0 =
 (QE a0.fst).bind λy=>some (((y.fst.fst,a0.snd.fst,a0.snd.snd),()),()):=by kernel_rfl
def qE(a0:aa):Option ((Int×PUnit)×PUnit):=LI.ao (a0,())
theorem abt(a0:aa):qE a0 =
 (lO a0.fst).bind λy=>bif y.fst.fst==0 then some ((1,()),())else some ((y.fst.fst,()),()):=by kernel_rfl
def xV(a0:Int)(a1:Int):Option ((Int×PUnit)×PUnit):=LZ.ao (a0,a1,())
theorem abS(a0:Int)(a1:Int):xV a0 a1 =
 bif decide (a0<a1)then some ((-1,()),())else bif decide (a0>a1)then some ((1,()),())else some ((0,()),()):=by kernel_rfl
def Ko:Env:=Du.env C zy.1 Tryz.f357
def NS:=Du.out C
def wE(x2:aa)(x3:aa)(x5:Int)(x6:Int)(kH:Int)(fc:Int):Option ((Int×PUnit)×PUnit):=aN Ko [1,1,0,1,0] (Tryz.f357.body.getD .skip) NS (dd 2 (V.box none 0 aF x2::V.box none 0 aF x3::V.dead::(V.d none 0 ag x5::V.d none 0 ag x6::dd 8 (V.d none 0 (Ty.int IntKind.i64) kH::V.d none 0 (Ty.int IntKind.i64) fc::dd 21 ([])))))
def tl(a0:aa)(a1:aa):Option ((Int×PUnit)×PUnit):=LD.ao (a0,a1,())
def ahO:List (Nat×List Nat):=[(1000003,[1,1,0,1,0])]
theorem Ua:okB ahO (Tryz.f357.body.getD .skip) []=true:=by kernel_rfl
theorem O9(x2:aa)(x3:aa)(x5:Int)(x6:Int)(kH:Int)(fc:Int):wE x2 x3 x5 x6 kH fc =
 bif decide (fc<kH)then
 (ab x2.fst fc).bind λy =>
 bif x5 != 0 then
  (ab x3.fst fc).bind λaC =>
  bif x6 != 0 then
   (xV (IntKind.i64.wrap (y.tdiv x5)) (IntKind.i64.wrap (aC.tdiv x6))).bind λy =>
   bif y.fst.fst != 0 then some ((y.fst.fst,()),())
   else wE x2 x3 x5 x6 kH (IntKind.i64.wrap (fc+1))
  else none
 else none
else some ((0,()),()):=(aQ Ua [1,1,0,1,0] (by kernel_rfl) _).trans (by kernel_rfl)
theorem abo(a0:aa)(a1:aa):tl a0 a1 =
 (qE a0).bind λy =>
 (qE a1).bind λaC =>
 wE a0 a1 y.fst.fst aC.fst.fst (↑(List.length a0.fst):Int) 0:=(Eq.trans (by kernel_rfl:tl a0 a1=aw Ko (Tryz.f357.body.getD .skip) NS (aU 38 [(aF,Mode.ro),(aF,Mode.ro)] (a0,a1,()))) (all_eq Ua _)).trans (by kernel_rfl)
def Qw(a0:aa)(a1:aa):Option ((Int×PUnit)×PUnit):=wb.ao (a0,a1,())
theorem aaQ(a0:aa)(a1:aa):Qw a0 a1 =
 (jL a0).bind λy =>
 bif !y.fst.fst then some ((2,()),())
 else
 (jL a1).bind λy =>
  bif !y.fst.fst then some ((2,()),())
  else
  bif (↑(List.length a0.fst):Int) != (↑(List.length a1.fst):Int)then some ((2,()),())
  else
   (tl a0 a1).bind λy =>
   bif y.fst.fst != 0 then some ((y.fst.fst,()),())
   else
    (qE a1).bind λy =>
    (qE a0).bind λaC =>
     (xV (IntKind.i64.wrap (a0.snd.fst*y.fst.fst)) (IntKind.i64.wrap (a1.snd.fst*aC.fst.fst))).bind
     λy =>
     bif y.fst.fst != 0 then some ((y.fst.fst,()),())
     else
      bif a0.snd.snd==a1.snd.snd then some ((0,()),())
      else bif a0.snd.snd then some ((1,()),())else some ((-1,()),()):=by kernel_rfl
def QZ(x0:(List ((List Int)×(Int×Bool))))(x1:Value):Option (Unit×(List ((List Int)×(Int×Bool)))×Unit):=CR.ao (x0,(x1,()))
def CL:Env:=DC.env C Ai.1 Tryz.f331
def CZ:=DC.out C
def qs(x4:Int×List aa)(x5:Int×List aa)(x8:Int×List aa)(qb:Int)(eR:Int):Option ((an×PUnit)×PUnit):=aN CL [1,1,1,1,1,0,1,0] (Tryz.f331.body.getD .skip) CZ (dd 4 (V.box none aK.depth aK x4::V.bK 0 1 ((Ty.int IntKind.i64).pair (Ty.slice 153 (bl.pair (ag.pair aB)).agg)) x5::dd 2 (V.box none aK.depth aK x8::dd 37 (V.same 5 (Ty.slice 153 (bl.pair (ag.pair aB)).agg)::V.d none 0 (Ty.int IntKind.i64) qb::V.d none 0 (Ty.int IntKind.i64) eR::dd 27 ([])))))
def qt(x0:Int)(x1:List aa)(x4:Int×List aa)(x5:List aa)(iU:List aa)(ik:Int)(il:Int):Option ((an×PUnit)×PUnit):=aN CL [1,1,0,1,0] (Tryz.f331.body.getD .skip) CZ (V.d none 0 ag x0::V.d none 0 cQ x1::dd 2 (V.box none aK.depth aK x4::V.d none (aF.depth+1) (Ty.slice 153 aF) x5::dd 6 (V.d none 0 cQ iU::V.d none 0 (Ty.int IntKind.i64) ik::V.d none 0 (Ty.int IntKind.i64) il::dd 61 ([]))))
def qF(a0:Int)(a1:List aa):Option ((an×PUnit)×PUnit):=LW.ao (a0,a1,())
def ahU:List (Nat×List Nat):=[(1000003,[1,1,0,1,0]),(1000013,[1,1,1,1,1,0,1,0])]
theorem Ie:okB ahU (Tryz.f331.body.getD .skip) []=true:=by kernel_rfl
theorem Ph(x4:Int×List aa)(x5:Int×List aa)(x8:Int×List aa)(qb:Int)(eR:Int):qs x4 x5 x8 qb eR =
 bif decide (eR<qb)then
 (ab x5.snd eR).bind λy =>
 bif V.dead.idle&&decide (x5.fst<=eR)then
  (ab x5.snd eR).bind λy =>
  bif decide (IntKind.i64.wrap (eR+1)<(↑(List.length x5.snd):Int))then
   (ab x5.snd (IntKind.i64.wrap (eR+1))).bind λaC =>
   bif decide (eR+1<=IntKind.i64.wrap (eR+1))then
    (ab x5.snd (IntKind.i64.wrap (eR+1))).bind λbP =>
    bif decide (eR+1<=IntKind.i64.wrap (eR+1))then
     (ab x5.snd (IntKind.i64.wrap (eR+1))).bind λcd =>
     (tl y cd).bind λdf =>
      bif df.fst.fst==0 then qs x4 (eR+1,x5.snd) x8 qb (IntKind.i64.wrap (eR+1))
      else
      bif decide ((List.length x8.snd+1)*40<=140737488355328)then
       qs x4 (eR+1,x5.snd) (x8.fst,x8.snd++[y]) qb (IntKind.i64.wrap (eR+1))
      else none
    else none
   else none
  else
   bif decide ((List.length x8.snd+1)*40<=140737488355328)then
   qs x4 (eR+1,x5.snd) (x8.fst,x8.snd++[y]) qb (IntKind.i64.wrap (eR+1))
   else none
 else none
else some ((x8,()),()):=(aQ Ie [1,1,1,1,1,0,1,0] (by kernel_rfl) _).trans (by kernel_rfl)
theorem Pk(x0:Int)(x1:List aa)(x4:Int×List aa)(x5:List aa)(iU:List aa)(ik:Int)(il:Int):qt x0 x1 x4 x5 iU ik il =
 bif decide (il<ik)then
 (ab iU il).bind λy =>
 (EF y).bind λaC =>
  bif !aC.fst.fst then
  bif decide (y.snd.fst>0)then (xQ x0).bind λy=>some ((y.fst.fst,()),())
  else
   bif y.snd.fst==0 then
   bif y.snd.snd then (xQ x0).bind λy=>some ((y.fst.fst,()),())
   else qt x0 x1 x4 x5 iU ik (IntKind.i64.wrap (il+1))
   else qt x0 x1 x4 x5 iU ik (IntKind.i64.wrap (il+1))
  else
  (xM y).bind λy =>
   bif decide ((x5.length+1)*40<=140737488355328)then
   qt x0 x1 x4 (x5++[y.fst.fst]) iU ik (IntKind.i64.wrap (il+1))
   else none
else
 Option.bind
 (Go.Proofs.YtbhogmdpmkpinaaGreat.P.It.QZ x5
  (Value.func (Fn.func 356) #[] #[]))
 λy=>qs x4 (0,y.snd.fst) (x0,[]) (↑(List.length y.snd.fst):Int) 0:=(aQ Ie [1,1,0,1,0] (by kernel_rfl) _).trans (by kernel_rfl)
theorem abN(a0:Int)(a1:List aa):qF a0 a1 =
 qt a0 a1 (0,[]) [] a1 (↑a1.length:Int) 0:=(Eq.trans (by kernel_rfl:qF a0 a1=aw CL (Tryz.f331.body.getD .skip) CZ (aU 76 [(ag,Mode.ro),(cQ,Mode.ro)] (a0,a1,()))) (all_eq Ie _)).trans (by kernel_rfl)
def xU(a0:Int)(a1:List aa):Option ((an×Bool×PUnit)×PUnit):=LU.ao (a0,a1,())
theorem abK(a0:Int)(a1:List aa):xU a0 a1 =
 (qF a0 a1).bind λy =>
 bif decide ((↑(List.length y.fst.fst.snd):Int)>16)then some (((0,[]),false,()),())
 else some ((y.fst.fst,true,()),()):=by kernel_rfl
def ED(a0:Int×List aa)(a1:Int×List aa):Option ((an×Bool×PUnit)×PUnit):=Lx.ao (a0,a1,())
theorem abe(a0:Int×List aa)(a1:Int×List aa):ED a0 a1 =
 (jM a0).bind λy =>
 bif !y.fst.fst then some (((0,[]),false,()),())
 else
 (jM a1).bind λy =>
  bif !y.fst.fst then some (((0,[]),false,()),())
  else
  bif a0.fst != a1.fst then some (((0,[]),false,()),())
  else
   (yp [a0.snd,a1.snd]).bind λy =>
   (xU a0.fst y.fst.fst).bind λy=>some ((y.fst.fst,y.fst.snd.fst,()),()):=by kernel_rfl
def Ks:Env:=Dz.env C zk.1 Tryz.f220
def NW:=Dz.out C
def qq(x0:List Int)(x6:aa)(x8:Int)(x9:aa)(bz:List Int)(dT:Int)(dU:Int):Option ((aa×Bool×PUnit)×PUnit):=aN Ks [1,1,1,1,0,1,0] (Tryz.f220.body.getD .skip) NW (V.d none 0 bl x0::dd 5 (V.box none aF.depth aF x6::V.dead::(V.d none 0 (Ty.int IntKind.i64) x8::V.box none aF.depth aF x9::dd 16 (V.d none 0 bl bz::V.d none 0 (Ty.int IntKind.i64) dT::V.d none 0 (Ty.int IntKind.i64) dU::dd 17 ([])))))
def nm(a0:List Int)(a1:Int)(a2:Bool):Option ((aa×Bool×PUnit)×PUnit):=LV.ao (a0,a1,a2,())
def ahT:List (Nat×List Nat):=[(1000006,[1,1,1,1,0,1,0])]
theorem Ue:okB ahT (Tryz.f220.body.getD .skip) []=true:=by kernel_rfl
theorem Pg(x0:List Int)(x6:aa)(x8:Int)(x9:aa)(bz:List Int)(dT:Int)(dU:Int):qq x0 x6 x8 x9 bz dT dU =
 bif decide (dU<dT)then
 (ab bz dU).bind λy =>
 bif x8 != 0 then
  (ab x9.fst dU).bind λaC =>
  (ab x9.fst dU).bind λbP =>
   (ab x9.fst dU).bind λcd =>
   (some (List.set x9.fst dU.toNat (IntKind.i64.wrap (y.tdiv x8)))).bind λy =>
    qq x0 x6 x8 (y,x9.snd) bz dT (IntKind.i64.wrap (dU+1))
 else none
else
 (jL x9).bind λy=>bif !y.fst.fst then some ((([],0,false),false,()),())else some ((x9,true,()),()):=(aQ Ue [1,1,1,1,0,1,0] (by kernel_rfl) _).trans (by kernel_rfl)
theorem abL(a0:List Int)(a1:Int)(a2:Bool):nm a0 a1 a2 =
 (lO a0).bind λy =>
 (oz y.fst.fst a1).bind λy =>
 bif y.fst.fst==0 then
  bif
   decide (0<=(↑a0.length:Int))&&decide ((↑a0.length:Int)<=(↑a0.length:Int)) &&
    decide ((↑a0.length:Int)*(↑8:Int)<=140737488355328) &&
   decide ((↑a0.length:Int)<=9223372036854775807)then
  qq a0 ([],0,false) 1 (List.replicate a0.length (0:Int),IntKind.i64.wrap (a1.tdiv 1),a2) a0 (↑a0.length:Int)
   0
  else none
 else
  bif
   decide (0<=(↑a0.length:Int))&&decide ((↑a0.length:Int)<=(↑a0.length:Int)) &&
    decide ((↑a0.length:Int)*(↑8:Int)<=140737488355328) &&
   decide ((↑a0.length:Int)<=9223372036854775807)then
  bif y.fst.fst != 0 then
   qq a0 ([],0,false) y.fst.fst (List.replicate a0.length (0:Int),IntKind.i64.wrap (a1.tdiv y.fst.fst),a2) a0
   (↑a0.length:Int) 0
  else none
  else none:=(Eq.trans (by kernel_rfl:nm a0 a1 a2=aw Ks (Tryz.f220.body.getD .skip) NW (aU 46 [(bl,Mode.ro),(ag,Mode.ro),(aB,Mode.ro)] (a0,a1,a2,()))) (all_eq Ue _)).trans (by kernel_rfl)
def Kl:Env:=Dq.env C zu.1 Tryz.f370
def NP:=Dq.out C
def sU(x1:Int)(x3:Int)(x4:aa)(x6:aa)(x8:aa)(bN:List Int)(fm:Int)(dC:Int):Option ((aa×Bool×PUnit)×PUnit):=aN Kl [1,1,1,1,0,1,0] (Tryz.f370.body.getD .skip) NP (V.dead::(V.d none 0 ag x1::V.dead::(V.d none 0 ag x3::V.box none 0 aF x4::V.dead::(V.box none 0 aF x6::V.dead::(V.box none aF.depth aF x8::V.dead::(V.d none (ag.depth+1) (Ty.slice 3 ag) bN::dd 39 (V.d none 0 (Ty.int IntKind.i64) fm::V.d none 0 (Ty.int IntKind.i64) dC::dd 48 ([]))))))))
def xK(a0:aa)(a1:Int)(a2:aa)(a3:Int):Option ((aa×Bool×PUnit)×PUnit):=Ly.ao (a0,a1,a2,a3,())
def ahK:List (Nat×List Nat):=[(1000007,[1,1,1,1,0,1,0])]
theorem T6:okB ahK (Tryz.f370.body.getD .skip) []=true:=by kernel_rfl
theorem O5(x1:Int)(x3:Int)(x4:aa)(x6:aa)(x8:aa)(bN:List Int)(fm:Int)(dC:Int):sU x1 x3 x4 x6 x8 bN fm dC =
 bif decide (dC<fm)then
 (ab x4.fst dC).bind λy =>
 (ab x6.fst dC).bind λaC =>
  (ab bN dC).bind λbP =>
  (ab bN dC).bind λcd =>
   (ab bN dC).bind λdf =>
   (some (bN.set dC.toNat (IntKind.i64.wrap (IntKind.i64.wrap (x1*y)+IntKind.i64.wrap (x3*aC))))).bind
    λy=>sU x1 x3 x4 x6 x8 y fm (IntKind.i64.wrap (dC+1))
else
 bif x4.snd.snd then
 bif x1 != 0 then
  (nm bN (IntKind.i64.wrap (IntKind.i64.wrap (x1*x4.snd.fst)+IntKind.i64.wrap (x3*x6.snd.fst)))
   true).bind
  λy=>some ((y.fst.fst,y.fst.snd.fst,()),())
 else
  bif x6.snd.snd then
  (nm bN (IntKind.i64.wrap (IntKind.i64.wrap (x1*x4.snd.fst)+IntKind.i64.wrap (x3*x6.snd.fst)))
    (x3 != 0)).bind
   λy=>some ((y.fst.fst,y.fst.snd.fst,()),())
  else
  (nm bN (IntKind.i64.wrap (IntKind.i64.wrap (x1*x4.snd.fst)+IntKind.i64.wrap (x3*x6.snd.fst)))
    false).bind
   λy=>some ((y.fst.fst,y.fst.snd.fst,()),())
 else
 bif x6.snd.snd then
  (nm bN (IntKind.i64.wrap (IntKind.i64.wrap (x1*x4.snd.fst)+IntKind.i64.wrap (x3*x6.snd.fst)))
   (x3 != 0)).bind
  λy=>some ((y.fst.fst,y.fst.snd.fst,()),())
 else
  (nm bN (IntKind.i64.wrap (IntKind.i64.wrap (x1*x4.snd.fst)+IntKind.i64.wrap (x3*x6.snd.fst)))
   false).bind
  λy=>some ((y.fst.fst,y.fst.snd.fst,()),()):=(aQ T6 [1,1,1,1,0,1,0] (by kernel_rfl) _).trans (by kernel_rfl)
theorem abg(a0:aa)(a1:Int)(a2:aa)(a3:Int):xK a0 a1 a2 a3 =
 (jL a0).bind λy =>
 bif !y.fst.fst then some ((([],0,false),false,()),())
 else
 (jL a2).bind λy =>
  bif !y.fst.fst then some ((([],0,false),false,()),())
  else
  bif (↑(List.length a0.fst):Int) != (↑(List.length a2.fst):Int)then some ((([],0,false),false,()),())
  else
   bif decide (a1<0)then some ((([],0,false),false,()),())
   else
   bif decide (a1>400000000)then some ((([],0,false),false,()),())
   else
    bif decide (a3<0)then some ((([],0,false),false,()),())
    else
    bif decide (a3>400000000)then some ((([],0,false),false,()),())
    else
     bif
      decide (0<=(↑(List.length a0.fst):Int)) &&
       decide ((↑(List.length a0.fst):Int)<=(↑(List.length a0.fst):Int)) &&
       decide ((↑(List.length a0.fst):Int)*(↑8:Int)<=140737488355328) &&
      decide ((↑(List.length a0.fst):Int)<=9223372036854775807)then
     sU a1 a3 a0 a2 ([],0,false) (List.replicate (List.length a0.fst) (0:Int))
      (↑(List.replicate (List.length a0.fst) (0:Int)).length:Int) 0
     else none:=(Eq.trans (by kernel_rfl:xK a0 a1 a2 a3=aw Kl (Tryz.f370.body.getD .skip) NP (aU 100 [(aF,Mode.ro),(ag,Mode.ro),(aF,Mode.ro),(ag,Mode.ro)] (a0,a1,a2,a3,()))) (all_eq T6 _)).trans (by kernel_rfl)
def vZ:Env:=Dg.env C zl.1 Tryz.f353
def wo:=Dg.out C
def sM(x1:Int)(x2:Int×List aa)(x4:Int×List aa)(x6:List aa)(bN:aa)(iV:List aa)(fm:Int)(dC:Int)(sH:List aa)(sI:Int)(qc:Int):Option ((an×Bool×PUnit)×PUnit):=aN vZ [1,1,1,1,0,1,0,0,1,1,0,0,1,1,1,0] (Tryz.f353.body.getD .skip) wo (V.dead::(V.d none 0 ag x1::V.box none 0 aK x2::V.dead::(V.box none aK.depth aK x4::V.dead::(V.d none 1 (Ty.slice 153 aF) x6::dd 3 (V.box none 0 aF bN::dd 38 (V.d none 0 (Ty.slice 153 aF) iV::V.d none 0 (Ty.int IntKind.i64) fm::V.d none 0 (Ty.int IntKind.i64) dC::dd 10 (V.d none 0 (Ty.slice 153 aF) sH::V.d none 0 (Ty.int IntKind.i64) sI::V.d none 0 (Ty.int IntKind.i64) qc::dd 41 ([]))))))))
def oq(x1:Int)(x2:Int×List aa)(x4:Int×List aa)(x6:List aa)(iV:List aa)(fm:Int)(dC:Int):Option ((an×Bool×PUnit)×PUnit):=aN vZ [1,1,1,1,0,1,0] (Tryz.f353.body.getD .skip) wo (V.dead::(V.d none 0 ag x1::V.box none 0 aK x2::V.dead::(V.box none aK.depth aK x4::V.dead::(V.d none 1 (Ty.slice 153 aF) x6::dd 42 (V.d none 0 (Ty.slice 153 aF) iV::V.d none 0 (Ty.int IntKind.i64) fm::V.d none 0 (Ty.int IntKind.i64) dC::dd 54 ([]))))))
def sN(x1:Int)(x2:Int×List aa)(x4:Int×List aa)(x6:List aa)(gg:List aa)(sF:Int)(qa:Int):Option ((an×Bool×PUnit)×PUnit):=aN vZ [1,1,1,0,1,0] (Tryz.f353.body.getD .skip) wo (V.dead::(V.d none 0 ag x1::V.box none 0 aK x2::V.dead::(V.box none aK.depth aK x4::V.dead::(V.d none 1 (Ty.slice 153 aF) x6::dd 24 (V.d none 0 (Ty.slice 153 aF) gg::V.d none 0 (Ty.int IntKind.i64) sF::V.d none 0 (Ty.int IntKind.i64) qa::dd 72 ([]))))))
def xD(a0:Int×List aa)(a1:Int):Option ((an×Bool×PUnit)×PUnit):=Ll.ao (a0,a1,())
def ahB:List (Nat×List Nat):=[(1000005,[1,1,1,0,1,0]),(1000011,[1,1,1,1,0,1,0]),(1000015,[1,1,1,1,0,1,0,0,1,1,0,0,1,1,1,0])]
theorem BH:okB ahB (Tryz.f353.body.getD .skip) []=true:=by kernel_rfl
theorem OS(x1:Int)(x2:Int×List aa)(x4:Int×List aa)(x6:List aa)(bN:aa)(iV:List aa)(fm:Int)(dC:Int)(sH:List aa)(sI:Int)(qc:Int):sM x1 x2 x4 x6 bN iV fm dC sH sI qc =
 bif decide (qc<sI)then
 (ab sH qc).bind λy =>
 (ab y.fst x1).bind λaC =>
  bif decide (aC>=0)then sM x1 x2 x4 x6 bN iV fm dC sH sI (IntKind.i64.wrap (qc+1))
  else
  (ab y.fst x1).bind λbP =>
   (ab bN.fst x1).bind λcd =>
   (xK bN (IntKind.i64.wrap (0 - bP)) y cd).bind λy =>
    bif !y.fst.snd.fst then some (((0,[]),false,()),())
    else
    bif decide ((x6.length+1)*40<=140737488355328)then
     sM x1 x2 x4 (x6++[y.fst.fst]) bN iV fm dC sH sI (IntKind.i64.wrap (qc+1))
    else none
else oq x1 x2 x4 x6 iV fm (IntKind.i64.wrap (dC+1)):=(aQ BH [1,1,1,1,0,1,0,0,1,1,0,0,1,1,1,0] (by kernel_rfl) _).trans (by kernel_rfl)
theorem OR(x1:Int)(x2:Int×List aa)(x4:Int×List aa)(x6:List aa)(iV:List aa)(fm:Int)(dC:Int):oq x1 x2 x4 x6 iV fm dC =
 bif decide (dC<fm)then
 (ab iV dC).bind λy =>
 (ab y.fst x1).bind λaC =>
  bif decide (aC<=0)then oq x1 x2 x4 x6 iV fm (IntKind.i64.wrap (dC+1))
  else sM x1 x2 x4 x6 y iV fm dC x2.snd (↑(List.length x2.snd):Int) 0
else (xU x2.fst x6).bind λy=>some ((y.fst.fst,y.fst.snd.fst,()),()):=(aQ BH [1,1,1,1,0,1,0] (by kernel_rfl) _).trans (by kernel_rfl)
theorem OT(x1:Int)(x2:Int×List aa)(x4:Int×List aa)(x6:List aa)(gg:List aa)(sF:Int)(qa:Int):sN x1 x2 x4 x6 gg sF qa =
 bif decide (qa<sF)then
 (ab gg qa).bind λy =>
 (ab y.fst x1).bind λaC =>
  bif aC==0 then
  bif decide ((x6.length+1)*40<=140737488355328)then
   sN x1 x2 x4 (x6++[y]) gg sF (IntKind.i64.wrap (qa+1))
  else none
  else sN x1 x2 x4 x6 gg sF (IntKind.i64.wrap (qa+1))
else oq x1 x2 x4 x6 x2.snd (↑(List.length x2.snd):Int) 0:=(aQ BH [1,1,1,0,1,0] (by kernel_rfl) _).trans (by kernel_rfl)
theorem aaU(a0:Int×List aa)(a1:Int):xD a0 a1 =
 (jM a0).bind λy =>
 bif !y.fst.fst then some (((0,[]),false,()),())
 else
 bif decide (a1<0)then some (((0,[]),false,()),())
 else
  bif decide (a1>=a0.fst)then some (((0,[]),false,()),())
  else sN a1 a0 (0,[]) [] a0.snd (↑(List.length a0.snd):Int) 0:=(Eq.trans (by kernel_rfl:xD a0 a1=aw vZ (Tryz.f353.body.getD .skip) wo (aU 106 [(aK,Mode.ro),(ag,Mode.ro)] (a0,a1,()))) (all_eq BH _)).trans (by kernel_rfl)
def Kt:Env:=DD.env C zc.1 Tryz.f327
def NX:=DD.out C
def ou(x4:List an)(x5:Int):Option ((List an×Bool×PUnit)×PUnit):=aN Kt [1,1,1,1,0,1,0] (Tryz.f327.body.getD .skip) NX (dd 4 (V.d none (aK.depth+1) (Ty.slice 45 aK) x4::V.d none 0 (Ty.int IntKind.i64) x5::dd 42 ([])))
def EK(a0:Int×List aa):Option ((List an×Bool×PUnit)×PUnit):=LY.ao (a0,())
def ahV:List (Nat×List Nat):=[(1000006,[1,1,1,1,0,1,0])]
theorem Uf:okB ahV (Tryz.f327.body.getD .skip) []=true:=by kernel_rfl
theorem Pm(x4:List an)(x5:Int):ou x4 x5 =
 bif decide (x5>=0)then
 (ab x4 (IntKind.i64.wrap (x5+1))).bind λy =>
 (ab x4 (IntKind.i64.wrap (x5+1))).bind λy =>
  (ab x4 (IntKind.i64.wrap (x5+1))).bind λy =>
  (xD y x5).bind λy =>
   bif !y.fst.snd.fst then some (([],false,()),())
   else
   (ab x4 x5).bind λaC =>
    (ab x4 x5).bind λbP =>
    (ab x4 x5).bind λcd =>
     (some (x4.set x5.toNat y.fst.fst)).bind λy=>ou y (IntKind.i64.wrap (x5 - 1))
else some ((x4,true,()),()):=(aQ Uf [1,1,1,1,0,1,0] (by kernel_rfl) _).trans (by kernel_rfl)
theorem abR(a0:Int×List aa):EK a0 =
 (jM a0).bind λy =>
 bif !y.fst.fst then some (([],false,()),())
 else
 bif
  decide (0<=IntKind.i64.wrap (a0.fst+1)) &&
    decide (IntKind.i64.wrap (a0.fst+1)<=IntKind.i64.wrap (a0.fst+1)) &&
   decide (IntKind.i64.wrap (a0.fst+1)*(↑32:Int)<=140737488355328) &&
   decide (IntKind.i64.wrap (a0.fst+1)<=9223372036854775807)then
  (qF a0.fst a0.snd).bind λy =>
  (ab (List.replicate (IntKind.i64.wrap (a0.fst+1)).toNat ((0,[]):an)) a0.fst).bind λaC =>
   (ab (List.replicate (IntKind.i64.wrap (a0.fst+1)).toNat ((0,[]):an)) a0.fst).bind λbP =>
   (ab (List.replicate (IntKind.i64.wrap (a0.fst+1)).toNat ((0,[]):an)) a0.fst).bind λcd =>
    (some ((List.replicate (IntKind.i64.wrap (a0.fst+1)).toNat ((0,[]):an)).set (Int.toNat a0.fst) y.fst.fst)).bind
    λy=>ou y (IntKind.i64.wrap (a0.fst - 1))
 else none:=(Eq.trans (by kernel_rfl:EK a0=aw Kt (Tryz.f327.body.getD .skip) NX (aU 48 [(aK,Mode.ro)] (a0,()))) (all_eq Uf _)).trans (by kernel_rfl)
def EC(a0:Int×List aa):Option ((Bool×Bool×PUnit)×PUnit):=Lr.ao (a0,())
theorem aa3(a0:Int×List aa):EC a0 =
 (EK a0).bind λy =>
 bif !y.fst.snd.fst then some ((false,false,()),())
 else
 (ab y.fst.fst 0).bind λaC =>
  (ab y.fst.fst 0).bind λbP =>
  (ab y.fst.fst 0).bind λy=>some ((decide ((↑(List.length y.snd):Int)>0),true,()),()):=by kernel_rfl
def EB(a0:Int×List aa)(a1:aa):Option ((Bool×Bool×PUnit)×PUnit):=Ln.ao (a0,a1,())
theorem aaX(a0:Int×List aa)(a1:aa):EB a0 a1 =
 (xL a1).bind λy =>
 bif !y.fst.snd.fst then some ((false,false,()),())
 else
 (ED a0 ((↑(List.length y.fst.fst.fst):Int),[y.fst.fst])).bind λy =>
  bif !y.fst.snd.fst then some ((false,false,()),())
  else (EC y.fst.fst).bind λy=>some ((y.fst.fst,y.fst.snd.fst,()),()):=by kernel_rfl
def Ke:Env:=Df.env C ze.1 Tryz.f94
def NI:=Df.out C
def wz(x2:Int×List aa)(x3:Int×List aa)(bz:List aa)(dT:Int)(dU:Int):Option ((Bool×Bool×PUnit)×PUnit):=aN Ke [1,1,0,1,0] (Tryz.f94.body.getD .skip) NI (dd 2 (V.box none 0 aK x2::V.box none 0 aK x3::dd 22 (V.d none 0 (Ty.slice 153 aF) bz::V.d none 0 (Ty.int IntKind.i64) dT::V.d none 0 (Ty.int IntKind.i64) dU::dd 14 ([]))))
def xC(a0:Int×List aa)(a1:Int×List aa):Option ((Bool×Bool×PUnit)×PUnit):=Lk.ao (a0,a1,())
def ahA:List (Nat×List Nat):=[(1000004,[1,1,0,1,0])]
theorem TV:okB ahA (Tryz.f94.body.getD .skip) []=true:=by kernel_rfl
theorem OQ(x2:Int×List aa)(x3:Int×List aa)(bz:List aa)(dT:Int)(dU:Int):wz x2 x3 bz dT dU =
 bif decide (dU<dT)then
 (ab bz dU).bind λy =>
 (EB x3 y).bind λy =>
  bif !y.fst.snd.fst then some ((false,false,()),())
  else bif !y.fst.fst then some ((false,true,()),())else wz x2 x3 bz dT (IntKind.i64.wrap (dU+1))
else some ((true,true,()),()):=(aQ TV [1,1,0,1,0] (by kernel_rfl) _).trans (by kernel_rfl)
theorem aaS(a0:Int×List aa)(a1:Int×List aa):xC a0 a1 =
 (jM a0).bind λy =>
 bif !y.fst.fst then some ((false,false,()),())
 else
 (jM a1).bind λy =>
  bif !y.fst.fst then some ((false,false,()),())
  else
  bif a0.fst != a1.fst then some ((false,false,()),())
  else wz a0 a1 a0.snd (↑(List.length a0.snd):Int) 0:=(Eq.trans (by kernel_rfl:xC a0 a1=aw Ke (Tryz.f94.body.getD .skip) NI (aU 43 [(aK,Mode.ro),(aK,Mode.ro)] (a0,a1,()))) (all_eq TV _)).trans (by kernel_rfl)
def Kp:Env:=Dv.env C zb.1 Tryz.f95
def NT:=Dv.out C
def sW(x1:Int×List aa)(x2:Int×List aa)(x3:Int×List aa)(il:List aa)(kH:Int)(fc:Int):Option ((an×PUnit)×PUnit):=aN Kp [1,1,0,1,0] (Tryz.f95.body.getD .skip) NT (V.dead::(V.box none 0 aK x1::V.box none aK.depth aK x2::V.box none aK.depth aK x3::dd 10 (V.d none 0 (Ty.slice 153 aF) il::V.d none 0 (Ty.int IntKind.i64) kH::V.d none 0 (Ty.int IntKind.i64) fc::dd 12 ([]))))
def xN(a0:Int×List aa):Option ((an×PUnit)×PUnit):=LG.ao (a0,())
def ahP:List (Nat×List Nat):=[(1000003,[1,1,0,1,0])]
theorem Ub:okB ahP (Tryz.f95.body.getD .skip) []=true:=by kernel_rfl
theorem Pb(x1:Int×List aa)(x2:Int×List aa)(x3:Int×List aa)(il:List aa)(kH:Int)(fc:Int):sW x1 x2 x3 il kH fc =
 bif decide (fc<kH)then
 (ab il fc).bind λy =>
 (xM y).bind λy =>
  bif decide ((List.length x3.snd+1)*40<=140737488355328)then
  sW x1 x2 (x3.fst,x3.snd++[y.fst.fst]) il kH (IntKind.i64.wrap (fc+1))
  else none
else some ((x3,()),()):=(aQ Ub [1,1,0,1,0] (by kernel_rfl) _).trans (by kernel_rfl)
theorem abq(a0:Int×List aa):xN a0 =
 bif
 decide (0<=0)&&decide (0<=(↑(List.length a0.snd):Int)) &&
  decide ((↑(List.length a0.snd):Int)*(↑40:Int)<=140737488355328) &&
  decide ((↑(List.length a0.snd):Int)<=9223372036854775807)then
 sW a0 (0,[]) (a0.fst,List.replicate (Int.toNat 0) ([],0,false)) a0.snd (↑(List.length a0.snd):Int) 0
else none:=(Eq.trans (by kernel_rfl:xN a0=aw Kp (Tryz.f95.body.getD .skip) NT (aU 29 [(aK,Mode.ro)] (a0,()))) (all_eq Ub _)).trans (by kernel_rfl)
def CK:Env:=Ds.env C zp.1 Tryz.f19
def CY:=Ds.out C
def sV(x3:bm)(x4:Int×List an)(x6:Int×List an)(x8:an×List (List Int))(x9:Bool)(cR:List bA)(cS:Int)(cH:Int)(sE:Int)(gg:Int):Option ((eU×Bool×PUnit)×PUnit):=aN CK [1,1,1,0,1,0,0,1,1,0,0,1,1,0,1,0] (Tryz.f19.body.getD .skip) CY (dd 3 (V.box none 0 eA x3::V.box none dR.depth dR x4::V.dead::(V.box none dR.depth dR x6::V.dead::(V.box none 0 hY x8::V.d none 0 Ty.bool x9::dd 12 (V.d none 0 (Ty.slice 48 hY) cR::V.d none 0 (Ty.int IntKind.i64) cS::V.d none 0 (Ty.int IntKind.i64) cH::dd 4 (V.view 6 [St.aW 1 (ag.sz+0)] (Ty.slice 45 aK)::V.d none 0 (Ty.int IntKind.i64) sE::V.d none 0 (Ty.int IntKind.i64) gg::dd 34 ([])))))))
def ot(x3:bm)(x4:Int×List an)(x6:Int×List an)(cR:List bA)(cS:Int)(cH:Int):Option ((eU×Bool×PUnit)×PUnit):=aN CK [1,1,1,0,1,0] (Tryz.f19.body.getD .skip) CY (dd 3 (V.box none 0 eA x3::V.box none dR.depth dR x4::V.dead::(V.box none dR.depth dR x6::dd 15 (V.d none 0 (Ty.slice 48 hY) cR::V.d none 0 (Ty.int IntKind.i64) cS::V.d none 0 (Ty.int IntKind.i64) cH::dd 41 ([])))))
def tk(a0:List Rel)(a1:bm):Option ((eU×Bool×PUnit)×PUnit):=LA.ao (a0,a1,())
def ahM:List (Nat×List Nat):=[(1000005,[1,1,1,0,1,0]),(1000009,[1,1,1,0,1,0,0,1,1,0,0,1,1,0,1,0])]
theorem Ic:okB ahM (Tryz.f19.body.getD .skip) []=true:=by kernel_rfl
theorem O8(x3:bm)(x4:Int×List an)(x6:Int×List an)(x8:an×List (List Int))(x9:Bool)(cR:List bA)(cS:Int)(cH:Int)(sE:Int)(gg:Int):sV x3 x4 x6 x8 x9 cR cS cH sE gg =
 bif decide (gg<sE)then
 (ab x6.snd gg).bind λy =>
 (ab x6.snd gg).bind λy =>
  (ab x6.snd gg).bind λy =>
  (xC y x8.fst).bind λy =>
   bif !y.fst.snd.fst then some (((0,[]),false,()),())
   else
   bif x9 then sV x3 x4 x6 x8 true cR cS cH sE (IntKind.i64.wrap (gg+1))
   else sV x3 x4 x6 x8 y.fst.fst cR cS cH sE (IntKind.i64.wrap (gg+1))
else
 bif x9 then ot x3 x4 x6 cR cS (IntKind.i64.wrap (cH+1))
 else
 bif (↑(List.length x6.snd):Int)==12 then some (((0,[]),false,()),())
 else
  (xN x8.fst).bind λy =>
  bif decide ((List.length x6.snd+1)*32<=140737488355328)then
   ot x3 x4 (x6.fst,x6.snd++[y.fst.fst]) cR cS (IntKind.i64.wrap (cH+1))
  else none:=(aQ Ic [1,1,1,0,1,0,0,1,1,0,0,1,1,0,1,0] (by kernel_rfl) _).trans (by kernel_rfl)
theorem O7(x3:bm)(x4:Int×List an)(x6:Int×List an)(cR:List bA)(cS:Int)(cH:Int):ot x3 x4 x6 cR cS cH =
 bif decide (cH<cS)then
 (ab cR cH).bind λy=>sV x3 x4 x6 y false cR cS cH (↑(List.length x6.snd):Int) 0
else some ((x6,true,()),()):=(aQ Ic [1,1,1,0,1,0] (by kernel_rfl) _).trans (by kernel_rfl)
theorem abk(a0:List Rel)(a1:bm):tk a0 a1 =
 (xJ a0 a1).bind λy =>
 bif !y.fst.fst then some (((0,[]),false,()),())
 else ot a1 (0,[]) (4,[]) a1.snd (↑(List.length a1.snd):Int) 0:=(Eq.trans (by kernel_rfl:tk a0 a1=aw CK (Tryz.f19.body.getD .skip) CY (aU 66 [(bo,Mode.ro),(eA,Mode.ro)] (a0,a1,()))) (all_eq Ic _)).trans (by kernel_rfl)
def KN:Env:=D4.env C zm.1 Tryz.f64
def Oh:=D4.out C
def wX(x0:List Int)(x1:List Int)(x5:Int):Option ((Bool×PUnit)×PUnit):=aN KN [1,1,0,1,0] (Tryz.f64.body.getD .skip) Oh (V.d none 0 bl x0::V.d none 0 bl x1::dd 3 (V.d none 0 (Ty.int IntKind.i64) x5::dd 20 ([])))
def qP(a0:List Int)(a1:List Int):Option ((Bool×PUnit)×PUnit):=MK.ao (a0,a1,())
def ain:List (Nat×List Nat):=[(1000004,[1,1,0,1,0])]
theorem UA:okB ain (Tryz.f64.body.getD .skip) []=true:=by kernel_rfl
theorem PY(x0:List Int)(x1:List Int)(x5:Int):wX x0 x1 x5 =
 bif decide (x5<(↑x0.length:Int))then
 (ab x0 x5).bind λy =>
 (ab x1 x5).bind λaC =>
  bif y != aC then some ((false,()),())else wX x0 x1 (IntKind.i64.wrap (x5+1))
else some ((true,()),()):=(aQ UA [1,1,0,1,0] (by kernel_rfl) _).trans (by kernel_rfl)
theorem acY(a0:List Int)(a1:List Int):qP a0 a1 =
 bif (↑a0.length:Int) != (↑a1.length:Int)then some ((false,()),())else wX a0 a1 0:=(Eq.trans (by kernel_rfl:qP a0 a1=aw KN (Tryz.f64.body.getD .skip) Oh (aU 26 [(bl,Mode.ro),(bl,Mode.ro)] (a0,a1,()))) (all_eq UA _)).trans (by kernel_rfl)
def yq(a0:aa)(a1:aa):Option ((Bool×PUnit)×PUnit):=MG.ao (a0,a1,())
theorem acS(a0:aa)(a1:aa):yq a0 a1 =
 (qP a0.fst a1.fst).bind λy =>
 bif !y.fst.fst then some ((false,()),())
 else
 bif a0.snd.fst != a1.snd.fst then some ((false,()),())
 else bif !a0.snd.snd==a1.snd.snd then some ((false,()),())else some ((true,()),()):=by kernel_rfl
def KL:Env:=D2.env C Aj.1 Tryz.f298
def Of:=D2.out C
def wU(x0:List aa)(x1:List aa)(x5:Int):Option ((Bool×PUnit)×PUnit):=aN KL [1,1,0,1,0] (Tryz.f298.body.getD .skip) Of (V.d none 0 cQ x0::V.d none 0 cQ x1::dd 3 (V.d none 0 (Ty.int IntKind.i64) x5::dd 21 ([])))
def yr(a0:List aa)(a1:List aa):Option ((Bool×PUnit)×PUnit):=MH.ao (a0,a1,())
def ail:List (Nat×List Nat):=[(1000004,[1,1,0,1,0])]
theorem Ux:okB ail (Tryz.f298.body.getD .skip) []=true:=by kernel_rfl
theorem PV(x0:List aa)(x1:List aa)(x5:Int):wU x0 x1 x5 =
 bif decide (x5<(↑x0.length:Int))then
 (ab x0 x5).bind λy =>
 (ab x1 x5).bind λaC =>
  (yq y aC).bind λy =>
  bif !y.fst.fst then some ((false,()),())else wU x0 x1 (IntKind.i64.wrap (x5+1))
else some ((true,()),()):=(aQ Ux [1,1,0,1,0] (by kernel_rfl) _).trans (by kernel_rfl)
theorem acQ(a0:List aa)(a1:List aa):yr a0 a1 =
 bif (↑a0.length:Int) != (↑a1.length:Int)then some ((false,()),())else wU a0 a1 0:=(Eq.trans (by kernel_rfl:yr a0 a1=aw KL (Tryz.f298.body.getD .skip) Of (aU 27 [(cQ,Mode.ro),(cQ,Mode.ro)] (a0,a1,()))) (all_eq Ux _)).trans (by kernel_rfl)
def tq(a0:Int×List aa)(a1:Int×List aa):Option ((Bool×PUnit)×PUnit):=MI.ao (a0,a1,())
theorem acV(a0:Int×List aa)(a1:Int×List aa):tq a0 a1 =
 bif a0.fst != a1.fst then some ((false,()),())
else (yr a0.snd a1.snd).bind λy=>bif !y.fst.fst then some ((false,()),())else some ((true,()),()):=by kernel_rfl
def KM:Env:=D3.env C Ak.1 Tryz.f114
def Og:=D3.out C
def wV(x0:List an)(x1:List an)(x5:Int):Option ((Bool×PUnit)×PUnit):=aN KM [1,1,0,1,0] (Tryz.f114.body.getD .skip) Og (V.d none 0 gd x0::V.d none 0 gd x1::dd 3 (V.d none 0 (Ty.int IntKind.i64) x5::dd 21 ([])))
def yt(a0:List an)(a1:List an):Option ((Bool×PUnit)×PUnit):=MJ.ao (a0,a1,())
def aim:List (Nat×List Nat):=[(1000004,[1,1,0,1,0])]
theorem Uy:okB aim (Tryz.f114.body.getD .skip) []=true:=by kernel_rfl
theorem PW(x0:List an)(x1:List an)(x5:Int):wV x0 x1 x5 =
 bif decide (x5<(↑x0.length:Int))then
 (ab x0 x5).bind λy =>
 (ab x1 x5).bind λaC =>
  (tq y aC).bind λy =>
  bif !y.fst.fst then some ((false,()),())else wV x0 x1 (IntKind.i64.wrap (x5+1))
else some ((true,()),()):=(aQ Uy [1,1,0,1,0] (by kernel_rfl) _).trans (by kernel_rfl)
theorem acT(a0:List an)(a1:List an):yt a0 a1 =
 bif (↑a0.length:Int) != (↑a1.length:Int)then some ((false,()),())else wV a0 a1 0:=(Eq.trans (by kernel_rfl:yt a0 a1=aw KM (Tryz.f114.body.getD .skip) Og (aU 27 [(gd,Mode.ro),(gd,Mode.ro)] (a0,a1,()))) (all_eq Uy _)).trans (by kernel_rfl)
def tr(a0:Int×List an)(a1:Int×List an):Option ((Bool×PUnit)×PUnit):=MO.ao (a0,a1,())
theorem ac3(a0:Int×List an)(a1:Int×List an):tr a0 a1 =
 bif a0.fst != a1.fst then some ((false,()),())
else (yt a0.snd a1.snd).bind λy=>bif !y.fst.fst then some ((false,()),())else some ((true,()),()):=by kernel_rfl
def EY(a0:ByteArray×Int×List aa)(a1:ByteArray×Int×List aa):Option ((Bool×PUnit)×PUnit):=MR.ao (a0,a1,())
theorem adb(a0:ByteArray×Int×List aa)(a1:ByteArray×Int×List aa):EY a0 a1 =
 bif !ByteArray.toList a0.fst==ByteArray.toList a1.fst then some ((false,()),())
else (tq a0.snd a1.snd).bind λy=>bif !y.fst.fst then some ((false,()),())else some ((true,()),()):=by kernel_rfl
def KR:Env:=D8.env C Ap.1 Tryz.f245
def Om:=D8.out C
def w6(x0:List Rw)(x1:List Rw)(x5:Int):Option ((Bool×PUnit)×PUnit):=aN KR [1,1,0,1,0] (Tryz.f245.body.getD .skip) Om (V.d none 0 iS x0::V.d none 0 iS x1::dd 3 (V.d none 0 (Ty.int IntKind.i64) x5::dd 21 ([])))
def yx(a0:List Rw)(a1:List Rw):Option ((Bool×PUnit)×PUnit):=MS.ao (a0,a1,())
def air:List (Nat×List Nat):=[(1000004,[1,1,0,1,0])]
theorem UD:okB air (Tryz.f245.body.getD .skip) []=true:=by kernel_rfl
theorem P1(x0:List Rw)(x1:List Rw)(x5:Int):w6 x0 x1 x5 =
 bif decide (x5<(↑x0.length:Int))then
 (ab x0 x5).bind λy =>
 (ab x1 x5).bind λaC =>
  (EY y aC).bind λy =>
  bif !y.fst.fst then some ((false,()),())else w6 x0 x1 (IntKind.i64.wrap (x5+1))
else some ((true,()),()):=(aQ UD [1,1,0,1,0] (by kernel_rfl) _).trans (by kernel_rfl)
theorem ac9(a0:List Rw)(a1:List Rw):yx a0 a1 =
 bif (↑a0.length:Int) != (↑a1.length:Int)then some ((false,()),())else w6 a0 a1 0:=(Eq.trans (by kernel_rfl:yx a0 a1=aw KR (Tryz.f245.body.getD .skip) Om (aU 27 [(iS,Mode.ro),(iS,Mode.ro)] (a0,a1,()))) (all_eq UD _)).trans (by kernel_rfl)
def EX(a0:ByteArray×Int×List Rw)(a1:ByteArray×Int×List Rw):Option ((Bool×PUnit)×PUnit):=MP.ao (a0,a1,())
theorem ac7(a0:ByteArray×Int×List Rw)(a1:ByteArray×Int×List Rw):EX a0 a1 =
 bif !ByteArray.toList a0.fst==ByteArray.toList a1.fst then some ((false,()),())
else
 bif a0.snd.fst != a1.snd.fst then some ((false,()),())
 else
 (yx a0.snd.snd a1.snd.snd).bind λy=>bif !y.fst.fst then some ((false,()),())else some ((true,()),()):=by kernel_rfl
def KQ:Env:=D7.env C Ao.1 Tryz.f48
def Ol:=D7.out C
def wZ(x0:List Rel)(x1:List Rel)(x5:Int):Option ((Bool×PUnit)×PUnit):=aN KQ [1,1,0,1,0] (Tryz.f48.body.getD .skip) Ol (V.d none 0 bo x0::V.d none 0 bo x1::dd 3 (V.d none 0 (Ty.int IntKind.i64) x5::dd 21 ([])))
def yw(a0:List Rel)(a1:List Rel):Option ((Bool×PUnit)×PUnit):=MQ.ao (a0,a1,())
def aiq:List (Nat×List Nat):=[(1000004,[1,1,0,1,0])]
theorem UC:okB aiq (Tryz.f48.body.getD .skip) []=true:=by kernel_rfl
theorem P0(x0:List Rel)(x1:List Rel)(x5:Int):wZ x0 x1 x5 =
 bif decide (x5<(↑x0.length:Int))then
 (ab x0 x5).bind λy =>
 (ab x1 x5).bind λaC =>
  (EX y aC).bind λy =>
  bif !y.fst.fst then some ((false,()),())else wZ x0 x1 (IntKind.i64.wrap (x5+1))
else some ((true,()),()):=(aQ UC [1,1,0,1,0] (by kernel_rfl) _).trans (by kernel_rfl)
theorem ac5(a0:List Rel)(a1:List Rel):yw a0 a1 =
 bif (↑a0.length:Int) != (↑a1.length:Int)then some ((false,()),())else wZ a0 a1 0:=(Eq.trans (by kernel_rfl:yw a0 a1=aw KQ (Tryz.f48.body.getD .skip) Ol (aU 27 [(bo,Mode.ro),(bo,Mode.ro)] (a0,a1,()))) (all_eq UC _)).trans (by kernel_rfl)
def EW(a0:Int×aa×ByteArray×ByteArray×List Int×Int×Int×Int)(a1:Int×aa×ByteArray×ByteArray×List Int×Int×Int×Int):Option ((Bool×PUnit)×PUnit):=MM.ao (a0,a1,())
theorem ac1(a0:Int×aa×ByteArray×ByteArray×List Int×Int×Int×Int)(a1:Int×aa×ByteArray×ByteArray×List Int×Int×Int×Int):EW a0 a1 =
 bif a0.fst != a1.fst then some ((false,()),())
else
 (yq a0.snd.fst a1.snd.fst).bind λy =>
 bif !y.fst.fst then some ((false,()),())
 else
  bif !ByteArray.toList a0.snd.snd.fst==ByteArray.toList a1.snd.snd.fst then some ((false,()),())
  else
  bif !ByteArray.toList a0.snd.snd.snd.fst==ByteArray.toList a1.snd.snd.snd.fst then some ((false,()),())
  else
   (qP a0.snd.snd.snd.snd.fst a1.snd.snd.snd.snd.fst).bind λy =>
   bif !y.fst.fst then some ((false,()),())
   else
    bif a0.snd.snd.snd.snd.snd.fst != a1.snd.snd.snd.snd.snd.fst then some ((false,()),())
    else
    bif a0.snd.snd.snd.snd.snd.snd.fst != a1.snd.snd.snd.snd.snd.snd.fst then some ((false,()),())
    else
     bif a0.snd.snd.snd.snd.snd.snd.snd != a1.snd.snd.snd.snd.snd.snd.snd then some ((false,()),())
     else some ((true,()),()):=by kernel_rfl
def KP:Env:=D6.env C Al.1 Tryz.f56
def Oj:=D6.out C
def wY(x0:List aM)(x1:List aM)(x5:Int):Option ((Bool×PUnit)×PUnit):=aN KP [1,1,0,1,0] (Tryz.f56.body.getD .skip) Oj (V.d none 0 cP x0::V.d none 0 cP x1::dd 3 (V.d none 0 (Ty.int IntKind.i64) x5::dd 21 ([])))
def yv(a0:List aM)(a1:List aM):Option ((Bool×PUnit)×PUnit):=MN.ao (a0,a1,())
def aip:List (Nat×List Nat):=[(1000004,[1,1,0,1,0])]
theorem UB:okB aip (Tryz.f56.body.getD .skip) []=true:=by kernel_rfl
theorem PZ(x0:List aM)(x1:List aM)(x5:Int):wY x0 x1 x5 =
 bif decide (x5<(↑x0.length:Int))then
 (ab x0 x5).bind λy =>
 (ab x1 x5).bind λaC =>
  (EW y aC).bind λy =>
  bif !y.fst.fst then some ((false,()),())else wY x0 x1 (IntKind.i64.wrap (x5+1))
else some ((true,()),()):=(aQ UB [1,1,0,1,0] (by kernel_rfl) _).trans (by kernel_rfl)
theorem acZ(a0:List aM)(a1:List aM):yv a0 a1 =
 bif (↑a0.length:Int) != (↑a1.length:Int)then some ((false,()),())else wY a0 a1 0:=(Eq.trans (by kernel_rfl:yv a0 a1=aw KP (Tryz.f56.body.getD .skip) Oj (aU 27 [(cP,Mode.ro),(cP,Mode.ro)] (a0,a1,()))) (all_eq UB _)).trans (by kernel_rfl)
def KO:Env:=D5.env C An.1 Tryz.f313
def Oi:=D5.out C
def wW(x0:List (List Int))(x1:List (List Int))(x5:Int):Option ((Bool×PUnit)×PUnit):=aN KO [1,1,0,1,0] (Tryz.f313.body.getD .skip) Oi (V.d none 0 eB x0::V.d none 0 eB x1::dd 3 (V.d none 0 (Ty.int IntKind.i64) x5::dd 21 ([])))
def yu(a0:List (List Int))(a1:List (List Int)):Option ((Bool×PUnit)×PUnit):=ML.ao (a0,a1,())
def aio:List (Nat×List Nat):=[(1000004,[1,1,0,1,0])]
theorem Uz:okB aio (Tryz.f313.body.getD .skip) []=true:=by kernel_rfl
theorem PX(x0:List (List Int))(x1:List (List Int))(x5:Int):wW x0 x1 x5 =
 bif decide (x5<(↑x0.length:Int))then
 (ab x0 x5).bind λy =>
 (ab x1 x5).bind λaC =>
  (qP y aC).bind λy =>
  bif !y.fst.fst then some ((false,()),())else wW x0 x1 (IntKind.i64.wrap (x5+1))
else some ((true,()),()):=(aQ Uz [1,1,0,1,0] (by kernel_rfl) _).trans (by kernel_rfl)
theorem acW(a0:List (List Int))(a1:List (List Int)):yu a0 a1 =
 bif (↑a0.length:Int) != (↑a1.length:Int)then some ((false,()),())else wW a0 a1 0:=(Eq.trans (by kernel_rfl:yu a0 a1=aw KO (Tryz.f313.body.getD .skip) Oi (aU 27 [(eB,Mode.ro),(eB,Mode.ro)] (a0,a1,()))) (all_eq Uz _)).trans (by kernel_rfl)
def EZ(a0:an×List (List Int))(a1:an×List (List Int)):Option ((Bool×PUnit)×PUnit):=MT.ao (a0,a1,())
theorem adh(a0:an×List (List Int))(a1:an×List (List Int)):EZ a0 a1 =
 (tq a0.fst a1.fst).bind λy =>
 bif !y.fst.fst then some ((false,()),())
 else (yu a0.snd a1.snd).bind λy=>bif !y.fst.fst then some ((false,()),())else some ((true,()),()):=by kernel_rfl
def KS:Env:=D9.env C Aq.1 Tryz.f145
def On:=D9.out C
def xa(x0:List bA)(x1:List bA)(x5:Int):Option ((Bool×PUnit)×PUnit):=aN KS [1,1,0,1,0] (Tryz.f145.body.getD .skip) On (V.d none 0 hR x0::V.d none 0 hR x1::dd 3 (V.d none 0 (Ty.int IntKind.i64) x5::dd 21 ([])))
def yy(a0:List bA)(a1:List bA):Option ((Bool×PUnit)×PUnit):=MU.ao (a0,a1,())
def ais:List (Nat×List Nat):=[(1000004,[1,1,0,1,0])]
theorem UE:okB ais (Tryz.f145.body.getD .skip) []=true:=by kernel_rfl
theorem P2(x0:List bA)(x1:List bA)(x5:Int):xa x0 x1 x5 =
 bif decide (x5<(↑x0.length:Int))then
 (ab x0 x5).bind λy =>
 (ab x1 x5).bind λaC =>
  (EZ y aC).bind λy =>
  bif !y.fst.fst then some ((false,()),())else xa x0 x1 (IntKind.i64.wrap (x5+1))
else some ((true,()),()):=(aQ UE [1,1,0,1,0] (by kernel_rfl) _).trans (by kernel_rfl)
theorem adf(a0:List bA)(a1:List bA):yy a0 a1 =
 bif (↑a0.length:Int) != (↑a1.length:Int)then some ((false,()),())else xa a0 a1 0:=(Eq.trans (by kernel_rfl:yy a0 a1=aw KS (Tryz.f145.body.getD .skip) On (aU 27 [(hR,Mode.ro),(hR,Mode.ro)] (a0,a1,()))) (all_eq UE _)).trans (by kernel_rfl)
def E0(a0:bm)(a1:bm):Option ((Bool×PUnit)×PUnit):=MV.ao (a0,a1,())
theorem adj(a0:bm)(a1:bm):E0 a0 a1 =
 (yv a0.fst a1.fst).bind λy =>
 bif !y.fst.fst then some ((false,()),())
 else (yy a0.snd a1.snd).bind λy=>bif !y.fst.fst then some ((false,()),())else some ((true,()),()):=by kernel_rfl
def K5:Env:=El.env C Ar.1 Tryz.f146
def OC:=El.out C
def xm(x0:Int)(x3:ByteArray):Option ((ByteArray×PUnit)×PUnit):=aN K5 [1,1,1,0,0] (Tryz.f146.body.getD .skip) OC (V.d none 0 ag x0::dd 2 (V.d none 0 Ty.str x3::dd 16 ([])))
def lQ(a0:Int):Option ((ByteArray×PUnit)×PUnit):=Na.ao (a0,())
def aiE:List (Nat×List Nat):=[(1000004,[1,1,1,0,0])]
theorem UQ:okB aiE (Tryz.f146.body.getD .skip) []=true:=by kernel_rfl
theorem Qe(x0:Int)(x3:ByteArray):xm x0 x3 =
 bif decide (x0>0)then
 bif decide ((strOf [IntKind.u8.wrap (IntKind.i64.wrap (48+x0.tmod 10))]).size+x3.size<=140737488355328)then
 xm (IntKind.i64.wrap (x0.tdiv 10)) (strOf [IntKind.u8.wrap (IntKind.i64.wrap (48+x0.tmod 10))]++x3)
 else none
else
 bif decide ((ByteArray.mk #[109]).size+x3.size<=140737488355328)then some ((ByteArray.mk #[109]++x3,()),())
 else none:=(aQ UQ [1,1,1,0,0] (by kernel_rfl) _).trans (by kernel_rfl)
theorem adJ(a0:Int):lQ a0 =
 bif decide (a0<=0)then some ((ByteArray.mk #[109,48],()),())else xm a0 (ByteArray.mk #[]):=(Eq.trans (by kernel_rfl:lQ a0=aw K5 (Tryz.f146.body.getD .skip) OC (aU 20 [(ag,Mode.ro)] (a0,()))) (all_eq UQ _)).trans (by kernel_rfl)
def KY:Env:=Ef.env C AD.1 Tryz.f67
def Ow:=Ef.out C
def xh(x0:List Int)(x1:Int)(x5:Int):Option ((Int×PUnit)×List Int×PUnit):=aN KY [1,0,1,0] (Tryz.f67.body.getD .skip) Ow (V.d none 1 bl x0::V.d none 0 ag x1::dd 3 (V.d none 0 (Ty.int IntKind.i64) x5::dd 13 ([])))
def oC(a0:List Int)(a1:Int):Option ((Int×PUnit)×List Int×PUnit):=M3.ao (a0,a1,())
def aiy:List (Nat×List Nat):=[(1000002,[1,0,1,0])]
theorem UL:okB aiy (Tryz.f67.body.getD .skip) []=true:=by kernel_rfl
theorem P9(x0:List Int)(x1:Int)(x5:Int):xh x0 x1 x5 =
 bif decide (x5<(↑x0.length:Int))then
 (ab x0 x5).bind λy =>
 (ab x0 x5).bind λy =>
  (ab x0 x5).bind λy =>
  (some (x0.set x5.toNat x1)).bind λy=>xh y (IntKind.i64.wrap (x1+1)) (IntKind.i64.wrap (x5+1))
else some ((x1,()),x0,()):=(aQ UL [1,0,1,0] (by kernel_rfl) _).trans (by kernel_rfl)
theorem ady(a0:List Int)(a1:Int):oC a0 a1 =
 xh a0 a1 0:=(Eq.trans (by kernel_rfl:oC a0 a1=aw KY (Tryz.f67.body.getD .skip) Ow (aU 19 [(bl,Mode.mut 1),(ag,Mode.ro)] (a0,a1,()))) (all_eq UL _)).trans (by kernel_rfl)
def KW:Env:=Ed.env C Aw.1 Tryz.f225
def Ou:=Ed.out C
def xe(x0:List aa)(x1:Int)(x5:Int):Option ((Int×PUnit)×List aa×PUnit):=aN KW [1,0,1,0] (Tryz.f225.body.getD .skip) Ou (V.d none 2 cQ x0::V.d none 0 ag x1::dd 3 (V.d none 0 (Ty.int IntKind.i64) x5::dd 30 ([])))
def qQ(a0:List aa)(a1:Int):Option ((Int×PUnit)×List aa×PUnit):=M0.ao (a0,a1,())
def aiw:List (Nat×List Nat):=[(1000002,[1,0,1,0])]
theorem UI:okB aiw (Tryz.f225.body.getD .skip) []=true:=by kernel_rfl
theorem P6(x0:List aa)(x1:Int)(x5:Int):xe x0 x1 x5 =
 bif decide (x5<(↑x0.length:Int))then
 (ab x0 x5).bind λy =>
 (ab x0 x5).bind λy =>
  (ab x0 x5).bind λy =>
  (oC y.fst x1).bind λy =>
   (ab x0 x5).bind λaC =>
   (some (x0.set x5.toNat (y.snd.fst,aC.snd))).bind λbP =>
    (ab bP x5).bind λcd =>
    (ab bP x5).bind λdf =>
     (ab bP x5).bind λfQ =>
     (some (bP.set x5.toNat (fQ.fst,y.fst.fst,fQ.snd.snd))).bind λgh =>
      (ab gh x5).bind λqf =>
      (ab gh x5).bind λjJ =>
       (ab gh x5).bind λiX =>
       (some (gh.set x5.toNat (iX.fst,iX.snd.fst,(IntKind.i64.wrap (y.fst.fst+1)).tmod 3==0))).bind
        λiW =>
        xe iW (IntKind.i64.wrap (IntKind.i64.wrap (y.fst.fst+1)+1)) (IntKind.i64.wrap (x5+1))
else some ((x1,()),x0,()):=(aQ UI [1,0,1,0] (by kernel_rfl) _).trans (by kernel_rfl)
theorem adt(a0:List aa)(a1:Int):qQ a0 a1 =
 xe a0 a1 0:=(Eq.trans (by kernel_rfl:qQ a0 a1=aw KW (Tryz.f225.body.getD .skip) Ou (aU 36 [(cQ,Mode.mut 2),(ag,Mode.ro)] (a0,a1,()))) (all_eq UI _)).trans (by kernel_rfl)
def K3:Env:=Ej.env C Av.1 Tryz.f147
def OA:=Ej.out C
def xk(x0:List Rw)(x1:Int)(x5:Int):Option ((Int×PUnit)×List Rw×PUnit):=aN K3 [1,0,1,0] (Tryz.f147.body.getD .skip) OA (V.d none 3 iS x0::V.d none 0 ag x1::dd 3 (V.d none 0 (Ty.int IntKind.i64) x5::dd 31 ([])))
def yJ(a0:List Rw)(a1:Int):Option ((Int×PUnit)×List Rw×PUnit):=M8.ao (a0,a1,())
def aiC:List (Nat×List Nat):=[(1000002,[1,0,1,0])]
theorem UO:okB aiC (Tryz.f147.body.getD .skip) []=true:=by kernel_rfl
theorem Qc(x0:List Rw)(x1:Int)(x5:Int):xk x0 x1 x5 =
 bif decide (x5<(↑x0.length:Int))then
 (lQ x1).bind λy =>
 (ab x0 x5).bind λaC =>
  (ab x0 x5).bind λbP =>
  (ab x0 x5).bind λcd =>
   (some (x0.set x5.toNat (y.fst.fst,cd.snd))).bind λy =>
   (ab y x5).bind λdf =>
    (ab y x5).bind λfQ =>
    (ab y x5).bind λgh =>
     (some (y.set x5.toNat (gh.fst,IntKind.i64.wrap (x1+1),gh.snd.snd))).bind λy =>
     (ab y x5).bind λqf =>
      (ab y x5).bind λjJ =>
      (ab y x5).bind λiX =>
       (qQ iX.snd.snd (IntKind.i64.wrap (IntKind.i64.wrap (x1+1)+1))).bind λiW =>
       (ab y x5).bind λjI =>
        (some (y.set x5.toNat (jI.fst,jI.snd.fst,iW.snd.fst))).bind λy =>
        xk y iW.fst.fst (IntKind.i64.wrap (x5+1))
else some ((x1,()),x0,()):=(aQ UO [1,0,1,0] (by kernel_rfl) _).trans (by kernel_rfl)
theorem adF(a0:List Rw)(a1:Int):yJ a0 a1 =
 xk a0 a1 0:=(Eq.trans (by kernel_rfl:yJ a0 a1=aw K3 (Tryz.f147.body.getD .skip) OA (aU 37 [(iS,Mode.mut 3),(ag,Mode.ro)] (a0,a1,()))) (all_eq UO _)).trans (by kernel_rfl)
def K2:Env:=Ei.env C AB.1 Tryz.f50
def Oz:=Ei.out C
def xj(x0:List Rel)(x1:Int)(x5:Int):Option ((Int×PUnit)×List Rel×PUnit):=aN K2 [1,0,1,0] (Tryz.f50.body.getD .skip) Oz (V.d none 4 bo x0::V.d none 0 ag x1::dd 3 (V.d none 0 (Ty.int IntKind.i64) x5::dd 29 ([])))
def yI(a0:List Rel)(a1:Int):Option ((Int×PUnit)×List Rel×PUnit):=M7.ao (a0,a1,())
def aiB:List (Nat×List Nat):=[(1000002,[1,0,1,0])]
theorem UN:okB aiB (Tryz.f50.body.getD .skip) []=true:=by kernel_rfl
theorem Qb(x0:List Rel)(x1:Int)(x5:Int):xj x0 x1 x5 =
 bif decide (x5<(↑x0.length:Int))then
 (lQ x1).bind λy =>
 (ab x0 x5).bind λaC =>
  (ab x0 x5).bind λbP =>
  (ab x0 x5).bind λcd =>
   (some (x0.set x5.toNat (y.fst.fst,cd.snd))).bind λy =>
   (ab y x5).bind λdf =>
    (ab y x5).bind λfQ =>
    (ab y x5).bind λgh =>
     (some (y.set x5.toNat (gh.fst,IntKind.i64.wrap (x1+1),gh.snd.snd))).bind λy =>
     (ab y x5).bind λqf =>
      (ab y x5).bind λjJ =>
      (ab y x5).bind λiX =>
       (yJ iX.snd.snd (IntKind.i64.wrap (IntKind.i64.wrap (x1+1)+1))).bind λiW =>
       (ab y x5).bind λjI =>
        (some (y.set x5.toNat (jI.fst,jI.snd.fst,iW.snd.fst))).bind λy =>
        xj y iW.fst.fst (IntKind.i64.wrap (x5+1))
else some ((x1,()),x0,()):=(aQ UN [1,0,1,0] (by kernel_rfl) _).trans (by kernel_rfl)
theorem adD(a0:List Rel)(a1:Int):yI a0 a1 =
 xj a0 a1 0:=(Eq.trans (by kernel_rfl:yI a0 a1=aw K2 (Tryz.f50.body.getD .skip) Oz (aU 35 [(bo,Mode.mut 4),(ag,Mode.ro)] (a0,a1,()))) (all_eq UN _)).trans (by kernel_rfl)
def K1:Env:=Eh.env C AA.1 Tryz.f66
def Oy:=Eh.out C
def xi(x0:List aM)(x1:Int)(x5:Int):Option ((Int×PUnit)×List aM×PUnit):=aN K1 [1,0,1,0] (Tryz.f66.body.getD .skip) Oy (V.d none 2 cP x0::V.d none 0 ag x1::dd 3 (V.d none 0 (Ty.int IntKind.i64) x5::dd 84 ([])))
def yH(a0:List aM)(a1:Int):Option ((Int×PUnit)×List aM×PUnit):=M5.ao (a0,a1,())
def aiA:List (Nat×List Nat):=[(1000002,[1,0,1,0])]
theorem UM:okB aiA (Tryz.f66.body.getD .skip) []=true:=by kernel_rfl
theorem Qa(x0:List aM)(x1:Int)(x5:Int):xi x0 x1 x5 =
 bif decide (x5<(↑x0.length:Int))then
 (ab x0 x5).bind λy =>
 (ab x0 x5).bind λy =>
  (ab x0 x5).bind λy =>
  (some (x0.set x5.toNat (x1,y.snd))).bind λy =>
   (ab y x5).bind λaC =>
   (ab y x5).bind λbP =>
    (ab y x5).bind λcd =>
    (oC cd.snd.fst.fst (IntKind.i64.wrap (x1+1))).bind λdf =>
     (ab y x5).bind λfQ =>
     (some (y.set x5.toNat (fQ.fst,(df.snd.fst,fQ.snd.fst.snd),fQ.snd.snd))).bind λy =>
      (ab y x5).bind λgh =>
      (ab y x5).bind λqf =>
       (ab y x5).bind λjJ =>
       (some (y.set x5.toNat (jJ.fst,(jJ.snd.fst.fst,df.fst.fst,jJ.snd.fst.snd.snd),jJ.snd.snd))).bind
        λy =>
        (ab y x5).bind λiX =>
        (ab y x5).bind λiW =>
         (ab y x5).bind λjI =>
         (some
           (y.set x5.toNat
           (jI.fst,
            (jI.snd.fst.fst,jI.snd.fst.snd.fst,(IntKind.i64.wrap (df.fst.fst+1)).tmod 3==0),
            jI.snd.snd))).bind
          λy =>
          (lQ (IntKind.i64.wrap (IntKind.i64.wrap (df.fst.fst+1)+1))).bind λJ0 =>
          (ab y x5).bind λvU =>
           (ab y x5).bind λJ1 =>
           (ab y x5).bind λvV =>
            (some (y.set x5.toNat (vV.fst,vV.snd.fst,J0.fst.fst,vV.snd.snd.snd))).bind λy =>
            (lQ
              (IntKind.i64.wrap (IntKind.i64.wrap (IntKind.i64.wrap (df.fst.fst+1)+1)+1))).bind
             λJ2 =>
             (ab y x5).bind λJ3 =>
             (ab y x5).bind λXc =>
              (ab y x5).bind λCF =>
              (some
                (y.set x5.toNat
                (CF.fst,CF.snd.fst,CF.snd.snd.fst,J2.fst.fst,CF.snd.snd.snd.snd))).bind
               λy =>
               (ab y x5).bind λarz =>
               (ab y x5).bind λarA =>
                (ab y x5).bind λaqS =>
                (oC aqS.snd.snd.snd.snd.fst
                  (IntKind.i64.wrap
                  (IntKind.i64.wrap (IntKind.i64.wrap (IntKind.i64.wrap (df.fst.fst+1)+1)+1) +
                   1))).bind
                 λvW =>
                 (ab y x5).bind λvX =>
                 (some
                   (y.set x5.toNat
                   (vX.fst,vX.snd.fst,vX.snd.snd.fst,vX.snd.snd.snd.fst,vW.snd.fst,
                    vX.snd.snd.snd.snd.snd))).bind
                  λy =>
                  (ab y x5).bind λarB =>
                  (ab y x5).bind λarC =>
                   (ab y x5).bind λsK =>
                   (some
                     (y.set x5.toNat
                     (sK.fst,sK.snd.fst,sK.snd.snd.fst,sK.snd.snd.snd.fst,
                      sK.snd.snd.snd.snd.fst,vW.fst.fst,sK.snd.snd.snd.snd.snd.snd))).bind
                    λy =>
                    (ab y x5).bind λarD =>
                    (ab y x5).bind λarE =>
                     (ab y x5).bind λqd =>
                     (some
                       (y.set x5.toNat
                       (qd.fst,qd.snd.fst,qd.snd.snd.fst,qd.snd.snd.snd.fst,
                        qd.snd.snd.snd.snd.fst,qd.snd.snd.snd.snd.snd.fst,
                        IntKind.i64.wrap (vW.fst.fst+1),
                        qd.snd.snd.snd.snd.snd.snd.snd))).bind
                      λy =>
                      (ab y x5).bind λarF =>
                      (ab y x5).bind λarG =>
                       (ab y x5).bind λqe =>
                       (some
                         (y.set x5.toNat
                         (qe.fst,qe.snd.fst,qe.snd.snd.fst,qe.snd.snd.snd.fst,
                          qe.snd.snd.snd.snd.fst,qe.snd.snd.snd.snd.snd.fst,
                          qe.snd.snd.snd.snd.snd.snd.fst,
                          IntKind.i64.wrap (IntKind.i64.wrap (vW.fst.fst+1)+1)))).bind
                        λy =>
                        xi y
                        (IntKind.i64.wrap
                         (IntKind.i64.wrap (IntKind.i64.wrap (vW.fst.fst+1)+1)+1))
                        (IntKind.i64.wrap (x5+1))
else some ((x1,()),x0,()):=(aQ UM [1,0,1,0] (by kernel_rfl) _).trans (by kernel_rfl)
theorem adz(a0:List aM)(a1:Int):yH a0 a1 =
 xi a0 a1 0:=(Eq.trans (by kernel_rfl:yH a0 a1=aw K1 (Tryz.f66.body.getD .skip) Oy (aU 90 [(cP,Mode.mut 2),(ag,Mode.ro)] (a0,a1,()))) (all_eq UM _)).trans (by kernel_rfl)
def KZ:Env:=Eg.env C Ay.1 Tryz.f247
def Ox:=Eg.out C
def xg(x0:List (List Int))(x1:Int)(x5:Int):Option ((Int×PUnit)×List (List Int)×PUnit):=aN KZ [1,0,1,0] (Tryz.f247.body.getD .skip) Ox (V.d none 2 eB x0::V.d none 0 ag x1::dd 3 (V.d none 0 (Ty.int IntKind.i64) x5::dd 13 ([])))
def yF(a0:List (List Int))(a1:Int):Option ((Int×PUnit)×List (List Int)×PUnit):=M4.ao (a0,a1,())
def aiz:List (Nat×List Nat):=[(1000002,[1,0,1,0])]
theorem UK:okB aiz (Tryz.f247.body.getD .skip) []=true:=by kernel_rfl
theorem P8(x0:List (List Int))(x1:Int)(x5:Int):xg x0 x1 x5 =
 bif decide (x5<(↑x0.length:Int))then
 (ab x0 x5).bind λy =>
 (ab x0 x5).bind λy =>
  (ab x0 x5).bind λy =>
  (oC y x1).bind λy =>
   (ab x0 x5).bind λaC =>
   (some (x0.set x5.toNat y.snd.fst)).bind λbP=>xg bP y.fst.fst (IntKind.i64.wrap (x5+1))
else some ((x1,()),x0,()):=(aQ UK [1,0,1,0] (by kernel_rfl) _).trans (by kernel_rfl)
theorem adw(a0:List (List Int))(a1:Int):yF a0 a1 =
 xg a0 a1 0:=(Eq.trans (by kernel_rfl:yF a0 a1=aw KZ (Tryz.f247.body.getD .skip) Ox (aU 19 [(eB,Mode.mut 2),(ag,Mode.ro)] (a0,a1,()))) (all_eq UK _)).trans (by kernel_rfl)
def K4:Env:=Ek.env C Ax.1 Tryz.f148
def OB:=Ek.out C
def xl(x0:List bA)(x1:Int)(x5:Int):Option ((Int×PUnit)×List bA×PUnit):=aN K4 [1,0,1,0] (Tryz.f148.body.getD .skip) OB (V.d none 3 hR x0::V.d none 0 ag x1::dd 3 (V.d none 0 (Ty.int IntKind.i64) x5::dd 30 ([])))
def yK(a0:List bA)(a1:Int):Option ((Int×PUnit)×List bA×PUnit):=M9.ao (a0,a1,())
def aiD:List (Nat×List Nat):=[(1000002,[1,0,1,0])]
theorem UP:okB aiD (Tryz.f148.body.getD .skip) []=true:=by kernel_rfl
theorem Qd(x0:List bA)(x1:Int)(x5:Int):xl x0 x1 x5 =
 bif decide (x5<(↑x0.length:Int))then
 (ab x0 x5).bind λy =>
 (ab x0 x5).bind λy =>
  (ab x0 x5).bind λy =>
  (some (x0.set x5.toNat ((x1,y.fst.snd),y.snd))).bind λy =>
   (ab y x5).bind λaC =>
   (ab y x5).bind λbP =>
    (ab y x5).bind λcd =>
    (qQ cd.fst.snd (IntKind.i64.wrap (x1+1))).bind λdf =>
     (ab y x5).bind λfQ =>
     (some (y.set x5.toNat ((fQ.fst.fst,df.snd.fst),fQ.snd))).bind λy =>
      (ab y x5).bind λgh =>
      (ab y x5).bind λqf =>
       (ab y x5).bind λjJ =>
       (yF jJ.snd df.fst.fst).bind λiX =>
        (ab y x5).bind λiW =>
        (some (y.set x5.toNat (iW.fst,iX.snd.fst))).bind λy =>
         xl y iX.fst.fst (IntKind.i64.wrap (x5+1))
else some ((x1,()),x0,()):=(aQ UP [1,0,1,0] (by kernel_rfl) _).trans (by kernel_rfl)
theorem adH(a0:List bA)(a1:Int):yK a0 a1 =
 xl a0 a1 0:=(Eq.trans (by kernel_rfl:yK a0 a1=aw K4 (Tryz.f148.body.getD .skip) OB (aU 36 [(hR,Mode.mut 3),(ag,Mode.ro)] (a0,a1,()))) (all_eq UP _)).trans (by kernel_rfl)
def E3(a0:bm)(a1:Int):Option ((Int×PUnit) ×
 bm ×
 PUnit):=Nb.ao (a0,a1,())
theorem adK(a0:bm)(a1:Int):E3 a0 a1 =
 (yH a0.fst a1).bind λy =>
 (yK a0.snd y.fst.fst).bind λaC=>some ((aC.fst.fst,()),(y.snd.fst,aC.snd.fst),()):=by kernel_rfl
def KX:Env:=Ee.env C AE.1 Tryz.f116
def Ov:=Ee.out C
def xf(x0:List an)(x1:Int)(x5:Int):Option ((Int×PUnit)×List an×PUnit):=aN KX [1,0,1,0] (Tryz.f116.body.getD .skip) Ov (V.d none 3 gd x0::V.d none 0 ag x1::dd 3 (V.d none 0 (Ty.int IntKind.i64) x5::dd 21 ([])))
def yE(a0:List an)(a1:Int):Option ((Int×PUnit)×List an×PUnit):=M1.ao (a0,a1,())
def aix:List (Nat×List Nat):=[(1000002,[1,0,1,0])]
theorem UJ:okB aix (Tryz.f116.body.getD .skip) []=true:=by kernel_rfl
theorem P7(x0:List an)(x1:Int)(x5:Int):xf x0 x1 x5 =
 bif decide (x5<(↑x0.length:Int))then
 (ab x0 x5).bind λy =>
 (ab x0 x5).bind λy =>
  (ab x0 x5).bind λy =>
  (some (x0.set x5.toNat (x1,y.snd))).bind λy =>
   (ab y x5).bind λaC =>
   (ab y x5).bind λbP =>
    (ab y x5).bind λcd =>
    (qQ cd.snd (IntKind.i64.wrap (x1+1))).bind λdf =>
     (ab y x5).bind λfQ =>
     (some (y.set x5.toNat (fQ.fst,df.snd.fst))).bind λy =>
      xf y df.fst.fst (IntKind.i64.wrap (x5+1))
else some ((x1,()),x0,()):=(aQ UJ [1,0,1,0] (by kernel_rfl) _).trans (by kernel_rfl)
theorem adu(a0:List an)(a1:Int):yE a0 a1 =
 xf a0 a1 0:=(Eq.trans (by kernel_rfl:yE a0 a1=aw KX (Tryz.f116.body.getD .skip) Ov (aU 27 [(gd,Mode.mut 3),(ag,Mode.ro)] (a0,a1,()))) (all_eq UJ _)).trans (by kernel_rfl)
def E2(a0:Int×List an)(a1:Int):Option ((Int×PUnit)×eU×PUnit):=M6.ao (a0,a1,())
theorem adB(a0:Int×List an)(a1:Int):E2 a0 a1 =
 (yE a0.snd a1).bind λy=>some ((y.fst.fst,()),(a0.fst,y.snd.fst),()):=by kernel_rfl
def KV:Env:=Ec.env C Az.1 Tryz.f68
def Ot:=Ec.out C
def xd(x0:List Int)(x1:Int)(x5:Int):Option ((Int×PUnit)×PUnit):=aN KV [1,0,1,0] (Tryz.f68.body.getD .skip) Ot (V.d none 0 bl x0::V.d none 0 ag x1::dd 3 (V.d none 0 (Ty.int IntKind.i64) x5::dd 15 ([])))
def yC(a0:List Int)(a1:Int):Option ((Int×PUnit)×PUnit):=MY.ao (a0,a1,())
def aiv:List (Nat×List Nat):=[(1000002,[1,0,1,0])]
theorem UH:okB aiv (Tryz.f68.body.getD .skip) []=true:=by kernel_rfl
theorem P5(x0:List Int)(x1:Int)(x5:Int):xd x0 x1 x5 =
 bif decide (x5<(↑x0.length:Int))then
 (ab x0 x5).bind λy =>
 bif y != x1 then some ((-1,()),())else xd x0 (IntKind.i64.wrap (x1+1)) (IntKind.i64.wrap (x5+1))
else some ((x1,()),()):=(aQ UH [1,0,1,0] (by kernel_rfl) _).trans (by kernel_rfl)
theorem adp(a0:List Int)(a1:Int):yC a0 a1 =
 xd a0 a1 0:=(Eq.trans (by kernel_rfl:yC a0 a1=aw KV (Tryz.f68.body.getD .skip) Ot (aU 21 [(bl,Mode.ro),(ag,Mode.ro)] (a0,a1,()))) (all_eq UH _)).trans (by kernel_rfl)
def KT:Env:=Ea.env C Au.1 Tryz.f226
def Oo:=Ea.out C
def xb(x0:List aa)(x1:Int)(x5:Int):Option ((Int×PUnit)×PUnit):=aN KT [1,0,1,0] (Tryz.f226.body.getD .skip) Oo (V.d none 0 cQ x0::V.d none 0 ag x1::dd 3 (V.d none 0 (Ty.int IntKind.i64) x5::dd 36 ([])))
def yA(a0:List aa)(a1:Int):Option ((Int×PUnit)×PUnit):=MW.ao (a0,a1,())
def ait:List (Nat×List Nat):=[(1000002,[1,0,1,0])]
theorem UF:okB ait (Tryz.f226.body.getD .skip) []=true:=by kernel_rfl
theorem P3(x0:List aa)(x1:Int)(x5:Int):xb x0 x1 x5 =
 bif decide (x5<(↑x0.length:Int))then
 (ab x0 x5).bind λy =>
 (yC y.fst x1).bind λy =>
  bif decide (y.fst.fst<0)then some ((-1,()),())
  else
  (ab x0 x5).bind λaC =>
   bif aC.snd.fst != y.fst.fst then some ((-1,()),())
   else
   (ab x0 x5).bind λbP =>
    bif !bP.snd.snd==((IntKind.i64.wrap (y.fst.fst+1)).tmod 3==0)then some ((-1,()),())
    else xb x0 (IntKind.i64.wrap (IntKind.i64.wrap (y.fst.fst+1)+1)) (IntKind.i64.wrap (x5+1))
else some ((x1,()),()):=(aQ UF [1,0,1,0] (by kernel_rfl) _).trans (by kernel_rfl)
theorem adl(a0:List aa)(a1:Int):yA a0 a1 =
 xb a0 a1 0:=(Eq.trans (by kernel_rfl:yA a0 a1=aw KT (Tryz.f226.body.getD .skip) Oo (aU 42 [(cQ,Mode.ro),(ag,Mode.ro)] (a0,a1,()))) (all_eq UF _)).trans (by kernel_rfl)
def KU:Env:=Eb.env C As.1 Tryz.f117
def Oq:=Eb.out C
def xc(x0:List an)(x1:Int)(x5:Int):Option ((Int×PUnit)×PUnit):=aN KU [1,0,1,0] (Tryz.f117.body.getD .skip) Oq (V.d none 0 gd x0::V.d none 0 ag x1::dd 3 (V.d none 0 (Ty.int IntKind.i64) x5::dd 25 ([])))
def yB(a0:List an)(a1:Int):Option ((Int×PUnit)×PUnit):=MX.ao (a0,a1,())
def aiu:List (Nat×List Nat):=[(1000002,[1,0,1,0])]
theorem UG:okB aiu (Tryz.f117.body.getD .skip) []=true:=by kernel_rfl
theorem P4(x0:List an)(x1:Int)(x5:Int):xc x0 x1 x5 =
 bif decide (x5<(↑x0.length:Int))then
 (ab x0 x5).bind λy =>
 bif y.fst != x1 then some ((-1,()),())
 else
  (ab x0 x5).bind λy =>
  (yA y.snd (IntKind.i64.wrap (x1+1))).bind λy =>
   bif decide (y.fst.fst<0)then some ((-1,()),())else xc x0 y.fst.fst (IntKind.i64.wrap (x5+1))
else some ((x1,()),()):=(aQ UG [1,0,1,0] (by kernel_rfl) _).trans (by kernel_rfl)
theorem adn(a0:List an)(a1:Int):yB a0 a1 =
 xc a0 a1 0:=(Eq.trans (by kernel_rfl:yB a0 a1=aw KU (Tryz.f117.body.getD .skip) Oq (aU 31 [(gd,Mode.ro),(ag,Mode.ro)] (a0,a1,()))) (all_eq UG _)).trans (by kernel_rfl)
def yD(a0:Int×List an)(a1:Int):Option ((Int×PUnit)×PUnit):=MZ.ao (a0,a1,())
theorem adr(a0:Int×List an)(a1:Int):yD a0 a1 =
 (yB a0.snd a1).bind λy =>
 bif decide (y.fst.fst<0)then some ((-1,()),())else some ((y.fst.fst,()),()):=by kernel_rfl
def ET(a0:List Rel)(a1:bm):Option ((Bool×PUnit)×PUnit):=CS.ao (a0,a1,())
theorem acP(a0:List Rel)(a1:bm):ET a0 a1 =
 (yS a0 1048576).bind λy =>
 bif decide (y.fst.fst<0)then some ((true,()),())
 else
 (E5 a1 y.fst.fst).bind λy =>
  bif decide (y.fst.fst<0)then some ((true,()),())
  else
  (oE a0).bind λy =>
   (qS a1).bind λaC =>
   (yg y.fst.fst aC.fst.fst).bind λy =>
    (oE a0).bind λbP =>
    (qS a1).bind λcd =>
     (tk bP.fst.fst cd.fst.fst).bind λdf =>
     (tr df.fst.fst y.fst.fst).bind λfQ =>
      bif !fQ.fst.fst then some ((false,()),())
      else
      bif !df.fst.snd.fst==y.fst.snd.fst then some ((false,()),())
      else
       (oE a0).bind λgh =>
       (yw bP.fst.fst gh.fst.fst).bind λqf =>
        bif !qf.fst.fst then some ((false,()),())
        else
        (qS a1).bind λjJ =>
         (E0 cd.fst.fst jJ.fst.fst).bind λiX =>
         bif !iX.fst.fst then some ((false,()),())
         else
          (yI bP.fst.fst 1).bind λiW =>
          (E3 cd.fst.fst iW.fst.fst).bind λjI =>
           bif decide (jI.fst.fst<0)then some ((false,()),())
           else
           (tr df.fst.fst y.fst.fst).bind λJ0 =>
            bif !J0.fst.fst then some ((false,()),())
            else
            bif !df.fst.snd.fst==y.fst.snd.fst then some ((false,()),())
            else
             (E2 df.fst.fst 1).bind λvU =>
             (yD vU.snd.fst 1).bind λJ1 =>
              bif decide (J1.fst.fst<0)then some ((false,()),())
              else
              bif J1.fst.fst != vU.fst.fst then some ((false,()),())
              else
               (oE a0).bind λvV =>
               (qS a1).bind λJ2 =>
                (tk vV.fst.fst J2.fst.fst).bind λJ3 =>
                (tr J3.fst.fst y.fst.fst).bind λXc =>
                 bif !Xc.fst.fst then some ((false,()),())
                 else
                 bif !J3.fst.snd.fst==y.fst.snd.fst then some ((false,()),())
                 else
                  (yD vU.snd.fst 1).bind λy =>
                  bif decide (y.fst.fst<0)then some ((false,()),())
                  else
                   bif y.fst.fst != vU.fst.fst then some ((false,()),())
                   else some ((true,()),()):=by kernel_rfl
end
end Go.Proofs.YtbhogmdpmkpinaaGreat.P.It
