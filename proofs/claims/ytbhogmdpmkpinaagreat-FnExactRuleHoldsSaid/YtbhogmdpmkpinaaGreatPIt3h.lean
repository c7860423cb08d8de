/- A part of the proof: It3h. No conditions. -/
import Derived.Test.YtbhogmdpmkpinaaGreatPIt2h
import Derived.Test.YtbhogmdpmkpinaaGreatPG8
import Derived.Test.YtbhogmdpmkpinaaGreatChecked
import Derived.KernelRfl
set_option linter.unusedVariables false
set_option maxRecDepth 100000
namespace Go.Proofs.YtbhogmdpmkpinaaGreat.P.It
open Am
noncomputable section
def zW(a0:List Int)(a1:Int):Option ((Int×PUnit)×PUnit):=O1.ao (a0,a1,())
theorem ag5(a0:List Int)(a1:Int):zW a0 a1 =
 bif decide (IntKind.i64.wrap (a1 - (↑a0.length:Int))<0)then some ((-1,()),())
else some ((IntKind.i64.wrap (a1 - (↑a0.length:Int)),()),()):=by kernel_rfl
def va(a0:aa)(a1:Int):Option ((Int×PUnit)×PUnit):=OY.ao (a0,a1,())
theorem ag2(a0:aa)(a1:Int):va a0 a1 =
 (zW a0.fst a1).bind λy=>bif decide (y.fst.fst<0)then some ((-1,()),())else some ((y.fst.fst,()),()):=by kernel_rfl
def MD:Env:=Fl.env C Bp.1 Tryz.f334
def Qd:=Fl.out C
def yP(x0:List aa)(x1:Int)(x5:Int):Option ((Int×PUnit)×PUnit):=aM MD [1,1,1,0,1,0] (Tryz.f334.body.getD .skip) Qd (V.d none 0 od x0::V.d none 0 (Ty.int IntKind.i64) x1::dd 3 (V.d none 0 (Ty.int IntKind.i64) x5::dd 21 ([])))
def zV(a0:List aa)(a1:Int):Option ((Int×PUnit)×PUnit):=OZ.ao (a0,a1,())
def alN:List (Nat×List Nat):=[(1000005,[1,1,1,0,1,0])]
theorem Xx:okB alN (Tryz.f334.body.getD .skip) []=true:=by kernel_rfl
theorem Sn(x0:List aa)(x1:Int)(x5:Int):yP x0 x1 x5 =
 bif decide (x5<(↑x0.length:Int))then
 (ae x0 x5).bind λy =>
 (va y x1).bind λy =>
  bif decide (y.fst.fst<0)then some ((-1,()),())else yP x0 y.fst.fst (IntKind.i64.wrap (x5+1))
else some ((x1,()),()):=(aQ Xx [1,1,1,0,1,0] (by kernel_rfl) _).trans (by kernel_rfl)
theorem ag0(a0:List aa)(a1:Int):zV a0 a1 =
 bif decide (IntKind.i64.wrap (a1 - (↑a0.length:Int))<0)then some ((-1,()),())
else yP a0 (IntKind.i64.wrap (a1 - (↑a0.length:Int))) 0:=(Eq.trans (by kernel_rfl:zV a0 a1=aC MD (Tryz.f334.body.getD .skip) Qd (aY 27 [(od,Mode.ro),(ak,Mode.ro)] (a0,a1,()))) (all_eq Xx _)).trans (by kernel_rfl)
def Gh(a0:Int×List aa)(a1:Int):Option ((Int×PUnit)×PUnit):=O0.ao (a0,a1,())
theorem ag3(a0:Int×List aa)(a1:Int):Gh a0 a1 =
 (zV a0.snd a1).bind λy=>bif decide (y.fst.fst<0)then some ((-1,()),())else some ((y.fst.fst,()),()):=by kernel_rfl
def z7(a0:ByteArray×Int×List aa)(a1:Int):Option ((Int×PUnit)×PUnit):=O6.ao (a0,a1,())
theorem ahg(a0:ByteArray×Int×List aa)(a1:Int):z7 a0 a1 =
 bif decide (IntKind.i64.wrap (a1 - (↑(ByteArray.size a0.fst):Int))<0)then some ((-1,()),())
else
 (Gh a0.snd (IntKind.i64.wrap (a1 - (↑(ByteArray.size a0.fst):Int)))).bind λy =>
 bif decide (y.fst.fst<0)then some ((-1,()),())else some ((y.fst.fst,()),()):=by kernel_rfl
def MH:Env:=Fp.env C Bu.1 Tryz.f239
def Qg:=Fp.out C
def yS(x0:List Rw)(x1:Int)(x5:Int):Option ((Int×PUnit)×PUnit):=aM MH [1,1,1,0,1,0] (Tryz.f239.body.getD .skip) Qg (V.d none 0 oc x0::V.d none 0 (Ty.int IntKind.i64) x1::dd 3 (V.d none 0 (Ty.int IntKind.i64) x5::dd 21 ([])))
def z8(a0:List Rw)(a1:Int):Option ((Int×PUnit)×PUnit):=O7.ao (a0,a1,())
def alQ:List (Nat×List Nat):=[(1000005,[1,1,1,0,1,0])]
theorem XA:okB alQ (Tryz.f239.body.getD .skip) []=true:=by kernel_rfl
theorem Sr(x0:List Rw)(x1:Int)(x5:Int):yS x0 x1 x5 =
 bif decide (x5<(↑x0.length:Int))then
 (ae x0 x5).bind λy =>
 (z7 y x1).bind λy =>
  bif decide (y.fst.fst<0)then some ((-1,()),())else yS x0 y.fst.fst (IntKind.i64.wrap (x5+1))
else some ((x1,()),()):=(aQ XA [1,1,1,0,1,0] (by kernel_rfl) _).trans (by kernel_rfl)
theorem ahe(a0:List Rw)(a1:Int):z8 a0 a1 =
 bif decide (IntKind.i64.wrap (a1 - (↑a0.length:Int))<0)then some ((-1,()),())
else yS a0 (IntKind.i64.wrap (a1 - (↑a0.length:Int))) 0:=(Eq.trans (by kernel_rfl:z8 a0 a1=aC MH (Tryz.f239.body.getD .skip) Qg (aY 27 [(oc,Mode.ro),(ak,Mode.ro)] (a0,a1,()))) (all_eq XA _)).trans (by kernel_rfl)
def zZ(a0:ByteArray×Int×List Rw)(a1:Int):Option ((Int×PUnit)×PUnit):=O4.ao (a0,a1,())
theorem ahc(a0:ByteArray×Int×List Rw)(a1:Int):zZ a0 a1 =
 bif decide (IntKind.i64.wrap (a1 - (↑(ByteArray.size a0.fst):Int))<0)then some ((-1,()),())
else
 (z8 a0.snd.snd (IntKind.i64.wrap (a1 - (↑(ByteArray.size a0.fst):Int)))).bind λy =>
 bif decide (y.fst.fst<0)then some ((-1,()),())else some ((y.fst.fst,()),()):=by kernel_rfl
def MG:Env:=Fo.env C Bt.1 Tryz.f43
def Qf:=Fo.out C
def yR(x0:List Rel)(x1:Int)(x5:Int):Option ((Int×PUnit)×PUnit):=aM MG [1,1,1,0,1,0] (Tryz.f43.body.getD .skip) Qf (V.d none 0 ja x0::V.d none 0 (Ty.int IntKind.i64) x1::dd 3 (V.d none 0 (Ty.int IntKind.i64) x5::dd 21 ([])))
def z6(a0:List Rel)(a1:Int):Option ((Int×PUnit)×PUnit):=O5.ao (a0,a1,())
def alP:List (Nat×List Nat):=[(1000005,[1,1,1,0,1,0])]
theorem Xz:okB alP (Tryz.f43.body.getD .skip) []=true:=by kernel_rfl
theorem Sq(x0:List Rel)(x1:Int)(x5:Int):yR x0 x1 x5 =
 bif decide (x5<(↑x0.length:Int))then
 (ae x0 x5).bind λy =>
 (zZ y x1).bind λy =>
  bif decide (y.fst.fst<0)then some ((-1,()),())else yR x0 y.fst.fst (IntKind.i64.wrap (x5+1))
else some ((x1,()),()):=(aQ Xz [1,1,1,0,1,0] (by kernel_rfl) _).trans (by kernel_rfl)
theorem aha(a0:List Rel)(a1:Int):z6 a0 a1 =
 bif decide (IntKind.i64.wrap (a1 - (↑a0.length:Int))<0)then some ((-1,()),())
else yR a0 (IntKind.i64.wrap (a1 - (↑a0.length:Int))) 0:=(Eq.trans (by kernel_rfl:z6 a0 a1=aC MG (Tryz.f43.body.getD .skip) Qf (aY 27 [(ja,Mode.ro),(ak,Mode.ro)] (a0,a1,()))) (all_eq Xz _)).trans (by kernel_rfl)
def zX(a0:Int×aa×ByteArray×ByteArray×List Int×Int×Int×Int)(a1:Int):Option ((Int×PUnit)×PUnit):=O2.ao (a0,a1,())
theorem ag8(a0:Int×aa×ByteArray×ByteArray×List Int×Int×Int×Int)(a1:Int):zX a0 a1 =
 (va a0.snd.fst a1).bind λy =>
 bif decide (y.fst.fst<0)then some ((-1,()),())
 else
 bif decide (IntKind.i64.wrap (y.fst.fst - (↑(ByteArray.size a0.snd.snd.fst):Int))<0)then some ((-1,()),())
 else
  bif
   decide
   (IntKind.i64.wrap
    (IntKind.i64.wrap (y.fst.fst - (↑(ByteArray.size a0.snd.snd.fst):Int)) -
     (↑(ByteArray.size a0.snd.snd.snd.fst):Int)) <
    0)then
  some ((-1,()),())
  else
  (zW a0.snd.snd.snd.snd.fst
    (IntKind.i64.wrap
    (IntKind.i64.wrap (y.fst.fst - (↑(ByteArray.size a0.snd.snd.fst):Int)) -
     (↑(ByteArray.size a0.snd.snd.snd.fst):Int)))).bind
   λy=>bif decide (y.fst.fst<0)then some ((-1,()),())else some ((y.fst.fst,()),()):=by kernel_rfl
def ME:Env:=Fm.env C Bq.1 Tryz.f52
def Qe:=Fm.out C
def yQ(x0:List al)(x1:Int)(x5:Int):Option ((Int×PUnit)×PUnit):=aM ME [1,1,1,0,1,0] (Tryz.f52.body.getD .skip) Qe (V.d none 0 gO x0::V.d none 0 (Ty.int IntKind.i64) x1::dd 3 (V.d none 0 (Ty.int IntKind.i64) x5::dd 21 ([])))
def zY(a0:List al)(a1:Int):Option ((Int×PUnit)×PUnit):=O3.ao (a0,a1,())
def alO:List (Nat×List Nat):=[(1000005,[1,1,1,0,1,0])]
theorem Xy:okB alO (Tryz.f52.body.getD .skip) []=true:=by kernel_rfl
theorem Sp(x0:List al)(x1:Int)(x5:Int):yQ x0 x1 x5 =
 bif decide (x5<(↑x0.length:Int))then
 (ae x0 x5).bind λy =>
 (zX y x1).bind λy =>
  bif decide (y.fst.fst<0)then some ((-1,()),())else yQ x0 y.fst.fst (IntKind.i64.wrap (x5+1))
else some ((x1,()),()):=(aQ Xy [1,1,1,0,1,0] (by kernel_rfl) _).trans (by kernel_rfl)
theorem ag6(a0:List al)(a1:Int):zY a0 a1 =
 bif decide (IntKind.i64.wrap (a1 - (↑a0.length:Int))<0)then some ((-1,()),())
else yQ a0 (IntKind.i64.wrap (a1 - (↑a0.length:Int))) 0:=(Eq.trans (by kernel_rfl:zY a0 a1=aC ME (Tryz.f52.body.getD .skip) Qe (aY 27 [(gO,Mode.ro),(ak,Mode.ro)] (a0,a1,()))) (all_eq Xy _)).trans (by kernel_rfl)
def MJ:Env:=Fs.env C Br.1 Tryz.f254
def Qi:=Fs.out C
def yU(x0:List Int)(x3:List Int)(x4:Int):Option ((List Int×PUnit)×PUnit):=aM MJ [1,1,0,1,0] (Tryz.f254.body.getD .skip) Qi (V.d none 0 bl x0::dd 2 (V.d none (ak.depth+1) (Ty.slice 3 ak) x3::V.d none 0 (Ty.int IntKind.i64) x4::dd 17 ([])))
def vc(a0:List Int):Option ((List Int×PUnit)×PUnit):=Pb.ao (a0,())
def alS:List (Nat×List Nat):=[(1000003,[1,1,0,1,0])]
theorem XC:okB alS (Tryz.f254.body.getD .skip) []=true:=by kernel_rfl
theorem Su(x0:List Int)(x3:List Int)(x4:Int):yU x0 x3 x4 =
 bif decide (x4<(↑x0.length:Int))then
 (ae x0 x4).bind λy =>
 (ae x3 x4).bind λaA =>
  (ae x3 x4).bind λbU =>
  (ae x3 x4).bind λdc=>(some (x3.set x4.toNat y)).bind λy=>yU x0 y (IntKind.i64.wrap (x4+1))
else some ((x3,()),()):=(aQ XC [1,1,0,1,0] (by kernel_rfl) _).trans (by kernel_rfl)
theorem ahn(a0:List Int):vc a0 =
 bif
 decide (0<=(↑a0.length:Int))&&decide ((↑a0.length:Int)<=(↑a0.length:Int)) &&
  decide ((↑a0.length:Int)*(↑8:Int)<=140737488355328) &&
  decide ((↑a0.length:Int)<=9223372036854775807)then
 yU a0 (List.replicate a0.length (0:Int)) 0
else none:=(Eq.trans (by kernel_rfl:vc a0=aC MJ (Tryz.f254.body.getD .skip) Qi (aY 22 [(bl,Mode.ro)] (a0,()))) (all_eq XC _)).trans (by kernel_rfl)
def vb(a0:aa):Option ((aa×PUnit)×PUnit):=O8.ao (a0,())
theorem ahk(a0:aa):vb a0 =
 (vc a0.fst).bind λy=>some (((y.fst.fst,a0.snd.fst,a0.snd.snd),()),()):=by kernel_rfl
def MI:Env:=Fq.env C Bv.1 Tryz.f335
def Qh:=Fq.out C
def yT(x0:List aa)(x3:List aa)(x4:Int):Option ((List aa×PUnit)×PUnit):=aM MI [1,1,0,1,0] (Tryz.f335.body.getD .skip) Qh (V.d none 0 od x0::dd 2 (V.d none (aJ.depth+1) (Ty.slice 153 aJ) x3::V.d none 0 (Ty.int IntKind.i64) x4::dd 18 ([])))
def Aa(a0:List aa):Option ((List aa×PUnit)×PUnit):=O9.ao (a0,())
def alR:List (Nat×List Nat):=[(1000003,[1,1,0,1,0])]
theorem XB:okB alR (Tryz.f335.body.getD .skip) []=true:=by kernel_rfl
theorem Ss(x0:List aa)(x3:List aa)(x4:Int):yT x0 x3 x4 =
 bif decide (x4<(↑x0.length:Int))then
 (ae x0 x4).bind λy =>
 (vb y).bind λy =>
  (ae x3 x4).bind λaA =>
  (ae x3 x4).bind λbU =>
   (ae x3 x4).bind λdc =>
   (some (x3.set x4.toNat y.fst.fst)).bind λy=>yT x0 y (IntKind.i64.wrap (x4+1))
else some ((x3,()),()):=(aQ XB [1,1,0,1,0] (by kernel_rfl) _).trans (by kernel_rfl)
theorem ahi(a0:List aa):Aa a0 =
 bif
 decide (0<=(↑a0.length:Int))&&decide ((↑a0.length:Int)<=(↑a0.length:Int)) &&
  decide ((↑a0.length:Int)*(↑40:Int)<=140737488355328) &&
  decide ((↑a0.length:Int)<=9223372036854775807)then
 yT a0 (List.replicate a0.length ([],0,false)) 0
else none:=(Eq.trans (by kernel_rfl:Aa a0=aC MI (Tryz.f335.body.getD .skip) Qh (aY 23 [(od,Mode.ro)] (a0,()))) (all_eq XB _)).trans (by kernel_rfl)
def Gi(a0:Int×List aa):Option ((ab×PUnit)×PUnit):=Pa.ao (a0,())
theorem ahl(a0:Int×List aa):Gi a0 =
 (Aa a0.snd).bind λy=>some (((a0.fst,y.fst.fst),()),()):=by kernel_rfl
def Ad(a0:ByteArray×Int×List aa):Option ((Rw×PUnit)×PUnit):=Pg.ao (a0,())
theorem ahy(a0:ByteArray×Int×List aa):Ad a0 =
 (Gi a0.snd).bind λy=>some (((a0.fst,y.fst.fst),()),()):=by kernel_rfl
def MM:Env:=Fv.env C By.1 Tryz.f243
def Ql:=Fv.out C
def yX(x0:List Rw)(x3:List Rw)(x4:Int):Option ((List Rw×PUnit)×PUnit):=aM MM [1,1,0,1,0] (Tryz.f243.body.getD .skip) Ql (V.d none 0 oc x0::dd 2 (V.d none (og.depth+1) (Ty.slice 304 og) x3::V.d none 0 (Ty.int IntKind.i64) x4::dd 18 ([])))
def Ae(a0:List Rw):Option ((List Rw×PUnit)×PUnit):=Ph.ao (a0,())
def alV:List (Nat×List Nat):=[(1000003,[1,1,0,1,0])]
theorem XF:okB alV (Tryz.f243.body.getD .skip) []=true:=by kernel_rfl
theorem Sx(x0:List Rw)(x3:List Rw)(x4:Int):yX x0 x3 x4 =
 bif decide (x4<(↑x0.length:Int))then
 (ae x0 x4).bind λy =>
 (Ad y).bind λy =>
  (ae x3 x4).bind λaA =>
  (ae x3 x4).bind λbU =>
   (ae x3 x4).bind λdc =>
   (some (x3.set x4.toNat y.fst.fst)).bind λy=>yX x0 y (IntKind.i64.wrap (x4+1))
else some ((x3,()),()):=(aQ XF [1,1,0,1,0] (by kernel_rfl) _).trans (by kernel_rfl)
theorem ahw(a0:List Rw):Ae a0 =
 bif
 decide (0<=(↑a0.length:Int))&&decide ((↑a0.length:Int)<=(↑a0.length:Int)) &&
  decide ((↑a0.length:Int)*(↑48:Int)<=140737488355328) &&
  decide ((↑a0.length:Int)<=9223372036854775807)then
 yX a0 (List.replicate a0.length (ByteArray.empty,0,[])) 0
else none:=(Eq.trans (by kernel_rfl:Ae a0=aC MM (Tryz.f243.body.getD .skip) Ql (aY 23 [(oc,Mode.ro)] (a0,()))) (all_eq XF _)).trans (by kernel_rfl)
def Ac(a0:ByteArray×Int×List Rw):Option ((Rel×PUnit)×PUnit):=Pe.ao (a0,())
theorem ahu(a0:ByteArray×Int×List Rw):Ac a0 =
 (Ae a0.snd.snd).bind λy=>some (((a0.fst,a0.snd.fst,y.fst.fst),()),()):=by kernel_rfl
def ML:Env:=Fu.env C Bx.1 Tryz.f46
def Qk:=Fu.out C
def yW(x0:List Rel)(x3:List Rel)(x4:Int):Option ((List Rel×PUnit)×PUnit):=aM ML [1,1,0,1,0] (Tryz.f46.body.getD .skip) Qk (V.d none 0 ja x0::dd 2 (V.d none (fN.depth+1) (Ty.slice 210 fN) x3::V.d none 0 (Ty.int IntKind.i64) x4::dd 18 ([])))
def rY(a0:List Rel):Option ((List Rel×PUnit)×PUnit):=Pf.ao (a0,())
def alU:List (Nat×List Nat):=[(1000003,[1,1,0,1,0])]
theorem XE:okB alU (Tryz.f46.body.getD .skip) []=true:=by kernel_rfl
theorem Sw(x0:List Rel)(x3:List Rel)(x4:Int):yW x0 x3 x4 =
 bif decide (x4<(↑x0.length:Int))then
 (ae x0 x4).bind λy =>
 (Ac y).bind λy =>
  (ae x3 x4).bind λaA =>
  (ae x3 x4).bind λbU =>
   (ae x3 x4).bind λdc =>
   (some (x3.set x4.toNat y.fst.fst)).bind λy=>yW x0 y (IntKind.i64.wrap (x4+1))
else some ((x3,()),()):=(aQ XE [1,1,0,1,0] (by kernel_rfl) _).trans (by kernel_rfl)
theorem ahs(a0:List Rel):rY a0 =
 bif
 decide (0<=(↑a0.length:Int))&&decide ((↑a0.length:Int)<=(↑a0.length:Int)) &&
  decide ((↑a0.length:Int)*(↑48:Int)<=140737488355328) &&
  decide ((↑a0.length:Int)<=9223372036854775807)then
 yW a0 (List.replicate a0.length (ByteArray.empty,0,[])) 0
else none:=(Eq.trans (by kernel_rfl:rY a0=aC ML (Tryz.f46.body.getD .skip) Qk (aY 23 [(ja,Mode.ro)] (a0,()))) (all_eq XE _)).trans (by kernel_rfl)
def Ab(a0:Int×aa×ByteArray×ByteArray×List Int×Int×Int×Int):Option ((al×PUnit)×PUnit):=Pc.ao (a0,())
theorem ahq(a0:Int×aa×ByteArray×ByteArray×List Int×Int×Int×Int):Ab a0 =
 (vb a0.snd.fst).bind λy =>
 (vc a0.snd.snd.snd.snd.fst).bind λaA =>
 some
  (((a0.fst,y.fst.fst,a0.snd.snd.fst,a0.snd.snd.snd.fst,aA.fst.fst,a0.snd.snd.snd.snd.snd.fst,
   a0.snd.snd.snd.snd.snd.snd.fst,a0.snd.snd.snd.snd.snd.snd.snd),
   ()),
  ()):=by kernel_rfl
def MK:Env:=Ft.env C Bw.1 Tryz.f54
def Qj:=Ft.out C
def yV(x0:List al)(x3:List al)(x4:Int):Option ((List al×PUnit)×PUnit):=aM MK [1,1,0,1,0] (Tryz.f54.body.getD .skip) Qj (V.d none 0 gO x0::dd 2 (V.d none (c7.depth+1) (Ty.slice 225 c7) x3::V.d none 0 (Ty.int IntKind.i64) x4::dd 18 ([])))
def rX(a0:List al):Option ((List al×PUnit)×PUnit):=Pd.ao (a0,())
def alT:List (Nat×List Nat):=[(1000003,[1,1,0,1,0])]
theorem XD:okB alT (Tryz.f54.body.getD .skip) []=true:=by kernel_rfl
theorem Sv(x0:List al)(x3:List al)(x4:Int):yV x0 x3 x4 =
 bif decide (x4<(↑x0.length:Int))then
 (ae x0 x4).bind λy =>
 (Ab y).bind λy =>
  (ae x3 x4).bind λaA =>
  (ae x3 x4).bind λbU =>
   (ae x3 x4).bind λdc =>
   (some (x3.set x4.toNat y.fst.fst)).bind λy=>yV x0 y (IntKind.i64.wrap (x4+1))
else some ((x3,()),()):=(aQ XD [1,1,0,1,0] (by kernel_rfl) _).trans (by kernel_rfl)
theorem aho(a0:List al):rX a0 =
 bif
 decide (0<=(↑a0.length:Int))&&decide ((↑a0.length:Int)<=(↑a0.length:Int)) &&
  decide ((↑a0.length:Int)*(↑128:Int)<=140737488355328) &&
  decide ((↑a0.length:Int)<=9223372036854775807)then
 yV a0 (List.replicate a0.length (0,([],0,false),ByteArray.empty,ByteArray.empty,[],0,0,0)) 0
else none:=(Eq.trans (by kernel_rfl:rX a0=aC MK (Tryz.f54.body.getD .skip) Qj (aY 23 [(gO,Mode.ro)] (a0,()))) (all_eq XD _)).trans (by kernel_rfl)
def gT(a0:Int)(a1:Int)(a2:Int):Option ((Bool×PUnit)×PUnit):=Ol.ao (a0,a1,a2,())
theorem aga(a0:Int)(a1:Int)(a2:Int):gT a0 a1 a2 =
 bif decide (a0>=a1)then some ((decide (a0<=a2),()),())else some ((false,()),()):=by kernel_rfl
def Mx:Env:=Fe.env C A1.1 Tryz.f184
def P7:=Fe.out C
def uG(x0:ByteArray)(x1:Int)(x2:Int)(x7:Int):Option ((Bool×PUnit)×PUnit):=aM Mx [1,0,1,0] (Tryz.f184.body.getD .skip) P7 (V.d none 0 bX x0::V.d none 0 iZ x1::V.d none 0 iZ x2::dd 4 (V.d none 0 (Ty.int IntKind.i64) x7::dd 21 ([])))
def rV(a0:ByteArray)(a1:Int)(a2:Int):Option ((Bool×PUnit)×PUnit):=OL.ao (a0,a1,a2,())
def alG:List (Nat×List Nat):=[(1000002,[1,0,1,0])]
theorem Xq:okB alG (Tryz.f184.body.getD .skip) []=true:=by kernel_rfl
theorem Se(x0:ByteArray)(x1:Int)(x2:Int)(x7:Int):uG x0 x1 x2 x7 =
 bif decide (x7<(↑x0.size:Int))then
 (nr x0 x7).bind λy =>
 bif decide (y<x1)then some ((false,()),())
 else
  (nr x0 x7).bind λy =>
  bif decide (y>x2)then some ((false,()),())else uG x0 x1 x2 (IntKind.i64.wrap (x7+1))
else (gT (↑x0.size:Int) 1 6).bind λy=>some ((y.fst.fst,()),()):=(aQ Xq [1,0,1,0] (by kernel_rfl) _).trans (by kernel_rfl)
theorem agE(a0:ByteArray)(a1:Int)(a2:Int):rV a0 a1 a2 =
 uG a0 a1 a2 0:=(Eq.trans (by kernel_rfl:rV a0 a1 a2=aC Mx (Tryz.f184.body.getD .skip) P7 (aY 29 [(bX,Mode.ro),(iZ,Mode.ro),(iZ,Mode.ro)] (a0,a1,a2,()))) (all_eq Xq _)).trans (by kernel_rfl)
def zt(a0:Int):Option ((Bool×PUnit)×PUnit):=N7.ao (a0,())
theorem afT(a0:Int):zt a0 =
 (gT a0 (-400000000) 400000000).bind λy=>some ((y.fst.fst,()),()):=by kernel_rfl
def uZ(a0:Int):Option ((Int×PUnit)×PUnit):=Oj.ao (a0,())
theorem Ti(a0:Int):uZ a0 =
 some
 ((bif true then if a0<IntKind.i64.wrap (0 - a0)then IntKind.i64.wrap (0 - a0)else a0
  else if IntKind.i64.wrap (0 - a0)<a0 then IntKind.i64.wrap (0 - a0)else a0,
  ()),
 ()):=by kernel_rfl
def DG:Env:=E2.env C AZ.1 Tryz.f325
def DX:=E2.out C
def yC(x0:List Int)(x5:Int)(x6:Int)(x7:Int):Option ((Int×PUnit)×PUnit):=aM DG [1,1,0,1,0,0,1,0,0,1,0] (Tryz.f325.body.getD .skip) DX (V.d none 0 bl x0::dd 4 (V.d none 0 ak x5::V.d none 0 (Ty.int IntKind.i64) x6::V.d none 0 ak x7::dd 20 ([])))
def rz(x0:List Int)(x5:Int)(x6:Int):Option ((Int×PUnit)×PUnit):=aM DG [1,1,0,1,0] (Tryz.f325.body.getD .skip) DX (V.d none 0 bl x0::dd 4 (V.d none 0 ak x5::V.d none 0 (Ty.int IntKind.i64) x6::dd 21 ([])))
def py(a0:List Int)(a1:Int):Option ((Int×PUnit)×PUnit):=Oo.ao (a0,a1,())
def alv:List (Nat×List Nat):=[(1000003,[1,1,0,1,0]),(1000006,[1,1,0,1,0,0,1,0,0,1,0])]
theorem JQ:okB alv (Tryz.f325.body.getD .skip) []=true:=by kernel_rfl
theorem acZ(x0:List Int)(x5:Int)(x6:Int)(x7:Int):yC x0 x5 x6 x7 =
 bif x7 != 0 then bif x7 != 0 then yC x0 x7 x6 (x5.tmod x7)else none
else rz x0 x5 (IntKind.i64.wrap (x6+1)):=(aQ JQ [1,1,0,1,0,0,1,0,0,1,0] (by kernel_rfl) _).trans (by kernel_rfl)
theorem yB(x0:List Int)(x5:Int)(x6:Int):rz x0 x5 x6 =
 bif decide (x6<(↑x0.length:Int))then
 (ae x0 x6).bind λy=>(uZ y).bind λy=>yC x0 x5 x6 y.fst.fst
else some ((x5,()),()):=(aQ JQ [1,1,0,1,0] (by kernel_rfl) _).trans (by kernel_rfl)
theorem Tm(a0:List Int)(a1:Int):py a0 a1 =
 (uZ a1).bind λy=>rz a0 y.fst.fst 0:=(Eq.trans (by kernel_rfl:py a0 a1=aC DG (Tryz.f325.body.getD .skip) DX (aY 28 [(bl,Mode.ro),(ak,Mode.ro)] (a0,a1,()))) (all_eq JQ _)).trans (by kernel_rfl)
def Mf:Env:=EN.env C A3.1 Tryz.f280
def PO:=EN.out C
def rm(x1:aa)(x3:Int):Option ((Bool×PUnit)×PUnit):=aM Mf [1,1,0,1,0] (Tryz.f280.body.getD .skip) PO (V.dead::(V.box none 0 aJ x1::V.dead::(V.d none 0 (Ty.int IntKind.i64) x3::dd 30 ([]))))
def mV(a0:aa):Option ((Bool×PUnit)×PUnit):=N2.ao (a0,())
def alf:List (Nat×List Nat):=[(1000004,[1,1,0,1,0])]
theorem W8:okB alf (Tryz.f280.body.getD .skip) []=true:=by kernel_rfl
theorem Rx(x1:aa)(x3:Int):rm x1 x3 =
 bif decide (x3<(↑(List.length x1.fst):Int))then
 (ae x1.fst x3).bind λy =>
 (zt y).bind λy =>
  bif !y.fst.fst then some ((false,()),())else rm x1 (IntKind.i64.wrap (x3+1))
else (py x1.fst x1.snd.fst).bind λy=>some ((decide (y.fst.fst<=1),()),()):=(aQ W8 [1,1,0,1,0] (by kernel_rfl) _).trans (by kernel_rfl)
theorem afN(a0:aa):mV a0 =
 bif decide ((↑(List.length a0.fst):Int)>4)then some ((false,()),())
else (zt a0.snd.fst).bind λy=>bif !y.fst.fst then some ((false,()),())else rm a0 0:=(Eq.trans (by kernel_rfl:mV a0=aC Mf (Tryz.f280.body.getD .skip) PO (aY 34 [(aJ,Mode.ro)] (a0,()))) (all_eq W8 _)).trans (by kernel_rfl)
def Mg:Env:=EO.env C AO.1 Tryz.f201
def PQ:=EO.out C
def rq(x1:Int×List aa)(x3:Int):Option ((Bool×PUnit)×PUnit):=aM Mg [1,0,1,0] (Tryz.f201.body.getD .skip) PQ (V.dead::(V.box none 0 av x1::V.dead::(V.d none 0 (Ty.int IntKind.i64) x3::dd 35 ([]))))
def mW(a0:Int×List aa):Option ((Bool×PUnit)×PUnit):=N3.ao (a0,())
def alg:List (Nat×List Nat):=[(1000002,[1,0,1,0])]
theorem W9:okB alg (Tryz.f201.body.getD .skip) []=true:=by kernel_rfl
theorem Ry(x1:Int×List aa)(x3:Int):rq x1 x3 =
 bif decide (x3<(↑(List.length x1.snd):Int))then
 (ae x1.snd x3).bind λy =>
 (mV y).bind λy =>
  bif !y.fst.fst then some ((false,()),())
  else
  (ae x1.snd x3).bind λy =>
   bif (↑(List.length y.fst):Int) != x1.fst then some ((false,()),())
   else rq x1 (IntKind.i64.wrap (x3+1))
else
 (gT x1.fst 0 4).bind λy =>
 bif y.fst.fst then some ((decide ((↑(List.length x1.snd):Int)<=16),()),())else some ((false,()),()):=(aQ W9 [1,0,1,0] (by kernel_rfl) _).trans (by kernel_rfl)
theorem afO(a0:Int×List aa):mW a0 =
 rq a0 0:=(Eq.trans (by kernel_rfl:mW a0=aC Mg (Tryz.f201.body.getD .skip) PQ (aY 39 [(av,Mode.ro)] (a0,()))) (all_eq W9 _)).trans (by kernel_rfl)
def Mk:Env:=EU.env C AP.1 Tryz.f258
def PU:=EU.out C
def ry(x1:ByteArray×Int×List Rw)(x3:Int):Option ((Bool×PUnit)×PUnit):=aM Mk [1,0,1,0] (Tryz.f258.body.getD .skip) PU (V.dead::(V.box none 0 fN x1::V.dead::(V.d none 0 (Ty.int IntKind.i64) x3::dd 51 ([]))))
def uX(a0:ByteArray×Int×List Rw):Option ((Bool×PUnit)×PUnit):=N9.ao (a0,())
def alm:List (Nat×List Nat):=[(1000002,[1,0,1,0])]
theorem Xd:okB alm (Tryz.f258.body.getD .skip) []=true:=by kernel_rfl
theorem RF(x1:ByteArray×Int×List Rw)(x3:Int):ry x1 x3 =
 bif decide (x3<(↑(List.length x1.snd.snd):Int))then
 (ae x1.snd.snd x3).bind λy =>
 (rV y.fst 97 122).bind λy =>
  bif !y.fst.fst then some ((false,()),())
  else
  (ae x1.snd.snd x3).bind λy =>
   (mW y.snd).bind λy =>
   bif !y.fst.fst then some ((false,()),())
   else
    (ae x1.snd.snd x3).bind λy =>
    bif y.snd.fst != x1.snd.fst then some ((false,()),())else ry x1 (IntKind.i64.wrap (x3+1))
else
 (rV x1.fst 65 90).bind λy =>
 bif y.fst.fst then
  (gT x1.snd.fst 0 4).bind λy =>
  bif y.fst.fst then some ((decide ((↑(List.length x1.snd.snd):Int)<=8),()),())else some ((false,()),())
 else some ((false,()),()):=(aQ Xd [1,0,1,0] (by kernel_rfl) _).trans (by kernel_rfl)
theorem afU(a0:ByteArray×Int×List Rw):uX a0 =
 ry a0 0:=(Eq.trans (by kernel_rfl:uX a0=aC Mk (Tryz.f258.body.getD .skip) PU (aY 55 [(fN,Mode.ro)] (a0,()))) (all_eq Xd _)).trans (by kernel_rfl)
def Me:Env:=EL.env C AS.1 Tryz.f259
def PN:=EL.out C
def yq(x0:List Rel)(x1:ByteArray)(x5:Int):Option ((Int×PUnit)×PUnit):=aM Me [1,0,1,0] (Tryz.f259.body.getD .skip) PN (V.d none 0 bz x0::V.d none 0 bX x1::dd 3 (V.d none 0 (Ty.int IntKind.i64) x5::dd 14 ([])))
def px(a0:List Rel)(a1:ByteArray):Option ((Int×PUnit)×PUnit):=NZ.ao (a0,a1,())
def ald:List (Nat×List Nat):=[(1000002,[1,0,1,0])]
theorem W7:okB ald (Tryz.f259.body.getD .skip) []=true:=by kernel_rfl
theorem Ro(x0:List Rel)(x1:ByteArray)(x5:Int):yq x0 x1 x5 =
 bif decide (x5<(↑x0.length:Int))then
 (ae x0 x5).bind λy =>
 bif ByteArray.toList y.fst==x1.toList then some ((x5,()),())
 else yq x0 x1 (IntKind.i64.wrap (x5+1))
else some ((-1,()),()):=(aQ W7 [1,0,1,0] (by kernel_rfl) _).trans (by kernel_rfl)
theorem afI(a0:List Rel)(a1:ByteArray):px a0 a1 =
 yq a0 a1 0:=(Eq.trans (by kernel_rfl:px a0 a1=aC Me (Tryz.f259.body.getD .skip) PN (aY 20 [(bz,Mode.ro),(bX,Mode.ro)] (a0,a1,()))) (all_eq W7 _)).trans (by kernel_rfl)
def Mh:Env:=EP.env C AM.1 Tryz.f158
def PR:=EP.out C
def rr(x0:List Rel)(x3:Int):Option ((Bool×PUnit)×PUnit):=aM Mh [1,0,1,0] (Tryz.f158.body.getD .skip) PR (V.d none 0 bz x0::dd 2 (V.d none 0 (Ty.int IntKind.i64) x3::dd 27 ([])))
def zr(a0:List Rel):Option ((Bool×PUnit)×PUnit):=N4.ao (a0,())
def alh:List (Nat×List Nat):=[(1000002,[1,0,1,0])]
theorem Xa:okB alh (Tryz.f158.body.getD .skip) []=true:=by kernel_rfl
theorem Rz(x0:List Rel)(x3:Int):rr x0 x3 =
 bif decide (x3<(↑x0.length:Int))then
 (ae x0 x3).bind λy =>
 (uX y).bind λy =>
  bif !y.fst.fst then some ((false,()),())
  else
  bif decide (0<=0)&&decide (0<=x3)&&decide (x3<=(↑x0.length:Int))then
   (ae x0 x3).bind λy =>
   (px (List.drop (Int.toNat 0) (List.take x3.toNat x0)) y.fst).bind λy =>
    bif decide (y.fst.fst>=0)then some ((false,()),())else rr x0 (IntKind.i64.wrap (x3+1))
  else none
else some ((decide ((↑x0.length:Int)<=6),()),()):=(aQ Xa [1,0,1,0] (by kernel_rfl) _).trans (by kernel_rfl)
theorem afP(a0:List Rel):zr a0 =
 rr a0 0:=(Eq.trans (by kernel_rfl:zr a0=aC Mh (Tryz.f158.body.getD .skip) PR (aY 31 [(bz,Mode.ro)] (a0,()))) (all_eq Xa _)).trans (by kernel_rfl)
def F7(a0:aa):Option ((Bool×PUnit)×PUnit):=OG.ao (a0,())
theorem agx(a0:aa):F7 a0 =
 bif (↑(List.length a0.fst):Int)==0 then
 bif a0.snd.fst==0 then some ((!a0.snd.snd,()),())else some ((false,()),())
else some ((false,()),()):=by kernel_rfl
def xQ:Env:=Fa.env C Be.1 Tryz.f314
def yb:=Fa.out C
def rD(x0:List Rel)(x3:Int×aa×ByteArray×ByteArray×List Int×Int×Int×Int)(x5:Int)(x6:Int):Option ((Bool×PUnit)×PUnit):=aM xQ [1,1,1,0,1,0,1,1,1,0,1,0,1,0] (Tryz.f314.body.getD .skip) yb (V.d none 0 bz x0::dd 2 (V.box none 0 c7 x3::V.dead::(V.d none 0 ak x5::V.d none 0 (Ty.int IntKind.i64) x6::dd 133 ([]))))
def fu(x0:List Rel)(x3:Int×aa×ByteArray×ByteArray×List Int×Int×Int×Int):Option ((Bool×PUnit)×PUnit):=gp xQ [1,1,1] (Tryz.f314.body.getD .skip) yb (V.d none 0 bz x0::dd 2 (V.box none 0 c7 x3::dd 136 ([])))
def q5(x0:List Rel)(x3:Int×aa×ByteArray×ByteArray×List Int×Int×Int×Int):Option ((Bool×PUnit)×PUnit):=gp xQ [1,1] (Tryz.f314.body.getD .skip) yb (V.d none 0 bz x0::dd 2 (V.box none 0 c7 x3::dd 136 ([])))
def zK(a0:List Rel)(a1:Int×aa×ByteArray×ByteArray×List Int×Int×Int×Int):Option ((Bool×PUnit)×PUnit):=OH.ao (a0,a1,())
def alD:List (Nat×List Nat):=[(2000003,[1,1]),(2000005,[1,1,1]),(1000011,[1,1,1,0,1,0,1,1,1,0,1,0,1,0])]
theorem Cz:okB alD (Tryz.f314.body.getD .skip) []=true:=by kernel_rfl
theorem Sb(x0:List Rel)(x3:Int×aa×ByteArray×ByteArray×List Int×Int×Int×Int)(x5:Int)(x6:Int):rD x0 x3 x5 x6 =
 bif decide (x6<(↑(List.length x3.snd.snd.snd.snd.fst):Int))then
 (ae x3.snd.snd.snd.snd.fst x6).bind λy =>
 (gT y 0 3).bind λy =>
  bif !y.fst.fst then some ((false,()),())else rD x0 x3 x5 (IntKind.i64.wrap (x6+1))
else
 bif decide (x5>=0)then
 (ae x0 x5).bind λy =>
  bif y.snd.fst==(↑(List.length x3.snd.snd.snd.snd.fst):Int)then
  bif ByteArray.toList x3.snd.snd.snd.fst==(ByteArray.mk #[]).toList then some ((true,()),())
  else (rV x3.snd.snd.snd.fst 97 122).bind λy=>some ((y.fst.fst,()),())
  else some ((false,()),())
 else some ((false,()),()):=(aQ Cz [1,1,1,0,1,0,1,1,1,0,1,0,1,0] (by kernel_rfl) _).trans (by kernel_rfl)
theorem acK(x0:List Rel)(x3:Int×aa×ByteArray×ByteArray×List Int×Int×Int×Int):fu x0 x3 =
 bif x3.fst==0 then
 (mV x3.snd.fst).bind λy =>
 bif y.fst.fst then some (((↑(List.length x3.snd.fst.fst):Int)==4,()),())else some ((false,()),())
else
 bif x3.fst==1 then (px x0 x3.snd.snd.fst).bind λy=>rD x0 x3 y.fst.fst 0
 else
 (gT x3.fst 2 6).bind λy =>
  bif y.fst.fst then (gT x3.snd.snd.snd.snd.snd.fst 0 3).bind λy=>some ((y.fst.fst,()),())
  else some ((false,()),()):=(join_eq Cz [1,1,1] _).trans (by kernel_rfl)
theorem acI(x0:List Rel)(x3:Int×aa×ByteArray×ByteArray×List Int×Int×Int×Int):q5 x0 x3 =
 bif x3.fst != 5 then
 bif x3.fst != 6 then
 bif x3.snd.snd.snd.snd.snd.fst != 0 then some ((false,()),())
 else
  bif x3.fst != 3 then
  bif x3.fst != 4 then
   bif x3.snd.snd.snd.snd.snd.snd.snd != 0 then some ((false,()),())
   else
   bif decide (x3.fst<=1)then
    bif x3.snd.snd.snd.snd.snd.snd.fst != 0 then some ((false,()),())else fu x0 x3
   else fu x0 x3
  else
   bif decide (x3.fst<=1)then
   bif x3.snd.snd.snd.snd.snd.snd.fst != 0 then some ((false,()),())else fu x0 x3
   else fu x0 x3
  else
  bif decide (x3.fst<=1)then
   bif x3.snd.snd.snd.snd.snd.snd.fst != 0 then some ((false,()),())else fu x0 x3
  else fu x0 x3
 else
 bif x3.fst != 3 then
  bif x3.fst != 4 then
  bif x3.snd.snd.snd.snd.snd.snd.snd != 0 then some ((false,()),())
  else
   bif decide (x3.fst<=1)then
   bif x3.snd.snd.snd.snd.snd.snd.fst != 0 then some ((false,()),())else fu x0 x3
   else fu x0 x3
  else
  bif decide (x3.fst<=1)then
   bif x3.snd.snd.snd.snd.snd.snd.fst != 0 then some ((false,()),())else fu x0 x3
  else fu x0 x3
 else
  bif decide (x3.fst<=1)then
  bif x3.snd.snd.snd.snd.snd.snd.fst != 0 then some ((false,()),())else fu x0 x3
  else fu x0 x3
else
 bif x3.fst != 3 then
 bif x3.fst != 4 then
  bif x3.snd.snd.snd.snd.snd.snd.snd != 0 then some ((false,()),())
  else
  bif decide (x3.fst<=1)then
   bif x3.snd.snd.snd.snd.snd.snd.fst != 0 then some ((false,()),())else fu x0 x3
  else fu x0 x3
 else
  bif decide (x3.fst<=1)then
  bif x3.snd.snd.snd.snd.snd.snd.fst != 0 then some ((false,()),())else fu x0 x3
  else fu x0 x3
 else
 bif decide (x3.fst<=1)then
  bif x3.snd.snd.snd.snd.snd.snd.fst != 0 then some ((false,()),())else fu x0 x3
 else fu x0 x3:=(join_eq Cz [1,1] _).trans (by kernel_rfl)
theorem agz(a0:List Rel)(a1:Int×aa×ByteArray×ByteArray×List Int×Int×Int×Int):zK a0 a1 =
 bif a1.fst != 0 then
 (F7 a1.snd.fst).bind λy =>
 bif !y.fst.fst then some ((false,()),())
 else
  bif a1.fst != 1 then
  bif !ByteArray.toList a1.snd.snd.fst==(ByteArray.mk #[]).toList then some ((false,()),())
  else
   bif !ByteArray.toList a1.snd.snd.snd.fst==(ByteArray.mk #[]).toList then some ((false,()),())
   else
   bif decide ((↑(List.length a1.snd.snd.snd.snd.fst):Int)>0)then some ((false,()),())else q5 a0 a1
  else q5 a0 a1
else
 bif a1.fst != 1 then
 bif !ByteArray.toList a1.snd.snd.fst==(ByteArray.mk #[]).toList then some ((false,()),())
 else
  bif !ByteArray.toList a1.snd.snd.snd.fst==(ByteArray.mk #[]).toList then some ((false,()),())
  else
  bif decide ((↑(List.length a1.snd.snd.snd.snd.fst):Int)>0)then some ((false,()),())else q5 a0 a1
 else q5 a0 a1:=(Eq.trans (by kernel_rfl:zK a0 a1=aC xQ (Tryz.f314.body.getD .skip) yb (aY 140 [(bz,Mode.ro),(c7,Mode.ro)] (a0,a1,()))) (all_eq Cz _)).trans (by kernel_rfl)
def xN:Env:=ES.env C Bf.1 Tryz.f251
def xZ:=ES.out C
def oi(x0:List Rel)(x1:List al)(x5:List Int)(x6:Int)(x7:Int)(x8:Int):Option ((Bool×PUnit)×PUnit):=gp xN [1,1,1,0,1,0,0,1,0,0,1,1,1,1,1] (Tryz.f251.body.getD .skip) xZ (V.d none 0 bz x0::V.d none 0 bS x1::dd 3 (V.d none (ak.depth+1) (Ty.slice 3 ak) x5::V.d none 0 (Ty.int IntKind.i64) x6::V.d none 0 (Ty.int IntKind.i64) x7::V.d none 0 (Ty.int IntKind.i64) x8::dd 108 ([])))
def kM(x0:List Rel)(x1:List al)(x5:List Int)(x6:Int)(x7:Int):Option ((Bool×PUnit)×PUnit):=gp xN [1,1,1,0,1,0,0,1,0,0,1,1,1] (Tryz.f251.body.getD .skip) xZ (V.d none 0 bz x0::V.d none 0 bS x1::dd 3 (V.d none (ak.depth+1) (Ty.slice 3 ak) x5::V.d none 0 (Ty.int IntKind.i64) x6::V.d none 0 (Ty.int IntKind.i64) x7::dd 109 ([])))
def ru(x0:List Rel)(x1:List al)(x5:List Int)(x6:Int):Option ((Bool×PUnit)×PUnit):=aM xN [1,1,1,0,1,0] (Tryz.f251.body.getD .skip) xZ (V.d none 0 bz x0::V.d none 0 bS x1::dd 3 (V.d none (ak.depth+1) (Ty.slice 3 ak) x5::V.d none 0 (Ty.int IntKind.i64) x6::dd 110 ([])))
def uW(a0:List Rel)(a1:List al):Option ((Bool×PUnit)×PUnit):=N6.ao (a0,a1,())
def alj:List (Nat×List Nat):=[(1000005,[1,1,1,0,1,0]),(2000014,[1,1,1,0,1,0,0,1,0,0,1,1,1]),(2000017,[1,1,1,0,1,0,0,1,0,0,1,1,1,1,1])]
theorem Cx:okB alj (Tryz.f251.body.getD .skip) []=true:=by kernel_rfl
theorem acH(x0:List Rel)(x1:List al)(x5:List Int)(x6:Int)(x7:Int)(x8:Int):oi x0 x1 x5 x6 x7 x8 =
 bif
 decide (0<=0)&&decide (0<=IntKind.i64.wrap (x8 - x7)) &&
  decide (IntKind.i64.wrap (x8 - x7)<=(↑x5.length:Int))then
 bif
  decide
  ((0+(List.drop (Int.toNat 0) (List.take (IntKind.i64.wrap (x8 - x7)).toNat x5)).length)*8 <=
   140737488355328)then
 bif
  decide
   (((List.drop (Int.toNat 0) (List.take (IntKind.i64.wrap (x8 - x7)).toNat x5)).length+1)*8 <=
   140737488355328)then
  ru x0 x1 (List.drop (Int.toNat 0) (List.take (IntKind.i64.wrap (x8 - x7)).toNat x5)++[x6])
  (IntKind.i64.wrap (x6+1))
 else none
 else none
else none:=(join_eq Cx [1,1,1,0,1,0,0,1,0,0,1,1,1,1,1] _).trans (by kernel_rfl)
theorem acF(x0:List Rel)(x1:List al)(x5:List Int)(x6:Int)(x7:Int):kM x0 x1 x5 x6 x7 =
 bif decide ((↑x5.length:Int)<x7)then some ((false,()),())
else
 bif x7==1 then
 (ae x5 (IntKind.i64.wrap ((↑x5.length:Int) - 1))).bind λy =>
  (ae x5 (IntKind.i64.wrap ((↑x5.length:Int) - 1))).bind λy =>
  (ae x1 x6).bind λaA =>
   bif y != aA.snd.snd.snd.snd.snd.snd.fst then some ((false,()),())
   else
   bif x7==2 then
    (ae x5 (IntKind.i64.wrap ((↑x5.length:Int) - 1))).bind λy =>
    (ae x5 (IntKind.i64.wrap ((↑x5.length:Int) - 1))).bind λy =>
     (ae x1 x6).bind λbU =>
     bif y != bU.snd.snd.snd.snd.snd.snd.snd then some ((false,()),())
     else
      (ae x5 (IntKind.i64.wrap ((↑x5.length:Int) - 2))).bind λy =>
      (ae x5 (IntKind.i64.wrap ((↑x5.length:Int) - 2))).bind λy =>
       (ae x1 x6).bind λdc =>
       bif y != dc.snd.snd.snd.snd.snd.snd.fst then some ((false,()),())
       else oi x0 x1 x5 x6 x7 (↑x5.length:Int)
   else oi x0 x1 x5 x6 x7 (↑x5.length:Int)
 else
 bif x7==2 then
  (ae x5 (IntKind.i64.wrap ((↑x5.length:Int) - 1))).bind λy =>
  (ae x5 (IntKind.i64.wrap ((↑x5.length:Int) - 1))).bind λy =>
   (ae x1 x6).bind λaA =>
   bif y != aA.snd.snd.snd.snd.snd.snd.snd then some ((false,()),())
   else
    (ae x5 (IntKind.i64.wrap ((↑x5.length:Int) - 2))).bind λy =>
    (ae x5 (IntKind.i64.wrap ((↑x5.length:Int) - 2))).bind λy =>
     (ae x1 x6).bind λbU =>
     bif y != bU.snd.snd.snd.snd.snd.snd.fst then some ((false,()),())
     else oi x0 x1 x5 x6 x7 (↑x5.length:Int)
 else oi x0 x1 x5 x6 x7 (↑x5.length:Int):=(join_eq Cx [1,1,1,0,1,0,0,1,0,0,1,1,1] _).trans (by kernel_rfl)
theorem RC(x0:List Rel)(x1:List al)(x5:List Int)(x6:Int):ru x0 x1 x5 x6 =
 bif decide (x6<(↑x1.length:Int))then
 (ae x1 x6).bind λy =>
 (zK x0 y).bind λy =>
  bif !y.fst.fst then some ((false,()),())
  else
  (ae x1 x6).bind λy =>
   bif y.fst==3 then kM x0 x1 x5 x6 2
   else
   (ae x1 x6).bind λy =>
    bif y.fst==4 then kM x0 x1 x5 x6 2
    else
    (ae x1 x6).bind λy =>
     bif decide (y.fst>1)then kM x0 x1 x5 x6 1 else kM x0 x1 x5 x6 0
else some (((↑x5.length:Int)==1,()),()):=(aQ Cx [1,1,1,0,1,0] (by kernel_rfl) _).trans (by kernel_rfl)
theorem afS(a0:List Rel)(a1:List al):uW a0 a1 =
 (zr a0).bind λy =>
 bif !y.fst.fst then some ((false,()),())
 else
 (gT (↑a1.length:Int) 1 12).bind λy =>
  bif !y.fst.fst then some ((false,()),())else ru a0 a1 [] 0:=(Eq.trans (by kernel_rfl:uW a0 a1=aC xN (Tryz.f251.body.getD .skip) xZ (aY 117 [(bz,Mode.ro),(bS,Mode.ro)] (a0,a1,()))) (all_eq Cx _)).trans (by kernel_rfl)
def pg:Env:=EM.env C AR.1 Tryz.f250
def ph:=EM.out C
def pr(x1:List al)(x6:List (List Bool))(x7:Int)(x8:List Bool)(x9:Int):Option ((List Int×Bool×PUnit)×PUnit):=aM pg [1,1,1,0,1,0,0,1,0,0,1,0,1,0,1,0,1,0] (Tryz.f250.body.getD .skip) ph (V.dead::(V.d none 0 bS x1::dd 4 (V.d none (iY.depth+1) (Ty.slice 355 iY) x6::V.d none 0 (Ty.int IntKind.i64) x7::V.d none (aw.depth+1) (Ty.slice 4 aw) x8::V.d none 0 (Ty.int IntKind.i64) x9::dd 158 ([]))))
def rk(x1:List al)(x6:List (List Bool))(x7:Int)(x8:List Bool)(bg:Int):Option ((List Int×Bool×PUnit)×PUnit):=aM pg [1,1,1,0,1,0,0,1,0,0,1,0,1,0,1,1,1,0,1,0] (Tryz.f250.body.getD .skip) ph (V.dead::(V.d none 0 bS x1::dd 4 (V.d none (iY.depth+1) (Ty.slice 355 iY) x6::V.d none 0 (Ty.int IntKind.i64) x7::V.d none (aw.depth+1) (Ty.slice 4 aw) x8::V.dead::(V.d none 0 (Ty.int IntKind.i64) bg::dd 157 ([])))))
def jd(x1:List al)(x6:List (List Bool))(x7:Int)(x8:List Bool)(cT:Int):Option ((List Int×Bool×PUnit)×PUnit):=aM pg [1,1,1,0,1,0,0,1,0,0,1,0,1,0,1,1,1,1,1,0,1,0] (Tryz.f250.body.getD .skip) ph (V.dead::(V.d none 0 bS x1::dd 4 (V.d none (iY.depth+1) (Ty.slice 355 iY) x6::V.d none 0 (Ty.int IntKind.i64) x7::V.d none (aw.depth+1) (Ty.slice 4 aw) x8::dd 2 (V.d none 0 (Ty.int IntKind.i64) cT::dd 156 ([])))))
def lJ(x1:List al)(x6:List (List Bool))(x7:Int)(x8:List Bool)(dq:Int):Option ((List Int×Bool×PUnit)×PUnit):=aM pg [1,1,1,0,1,0,0,1,0,0,1,0,1,0,1,1,1,1,1,1,1,0] (Tryz.f250.body.getD .skip) ph (V.dead::(V.d none 0 bS x1::dd 4 (V.d none (iY.depth+1) (Ty.slice 355 iY) x6::V.d none 0 (Ty.int IntKind.i64) x7::V.d none (aw.depth+1) (Ty.slice 4 aw) x8::dd 3 (V.d none 0 (Ty.int IntKind.i64) dq::dd 155 ([])))))
def mO(x1:List al)(x6:List (List Bool))(ix:List Int)(eC:Int):Option ((List Int×Bool×PUnit)×PUnit):=aM pg [1,1,1,1,1,0,1,0] (Tryz.f250.body.getD .skip) ph (V.dead::(V.d none 0 bS x1::dd 4 (V.d none (iY.depth+1) (Ty.slice 355 iY) x6::dd 6 (V.d none (ak.depth+1) (Ty.slice 3 ak) ix::V.d none 0 (Ty.int IntKind.i64) eC::dd 153 ([])))))
def gx(x1:List al)(x6:List (List Bool))(x7:Int):Option ((List Int×Bool×PUnit)×PUnit):=aM pg [1,1,1,0,1,0] (Tryz.f250.body.getD .skip) ph (V.dead::(V.d none 0 bS x1::dd 4 (V.d none (iY.depth+1) (Ty.slice 355 iY) x6::V.d none 0 (Ty.int IntKind.i64) x7::dd 160 ([]))))
def zq(a0:List Rel)(a1:List al):Option ((List Int×Bool×PUnit)×PUnit):=N0.ao (a0,a1,())
def ale:List (Nat×List Nat):=[(1000005,[1,1,1,0,1,0]),(1000015,[1,1,1,0,1,0,0,1,0,0,1,0,1,0,1,0,1,0]),(1000020,[1,1,1,0,1,0,0,1,0,0,1,0,1,0,1,1,1,0,1,0]),(1000026,[1,1,1,0,1,0,0,1,0,0,1,0,1,0,1,1,1,1,1,0,1,0]),(1000010,[1,1,1,0,1,0,0,1,0,0,1,0,1,0,1,1,1,1,1,1,1,0]),(1000032,[1,1,1,1,1,0,1,0])]
theorem ql:okB ale (Tryz.f250.body.getD .skip) []=true:=by kernel_rfl
theorem Rq(x1:List al)(x6:List (List Bool))(x7:Int)(x8:List Bool)(x9:Int):pr x1 x6 x7 x8 x9 =
 bif decide (x9<4)then
 (ae x1 x7).bind λy =>
 (ae y.snd.fst.fst x9).bind λy =>
  (ae x8 x9).bind λaA =>
  (ae x8 x9).bind λbU =>
   (ae x8 x9).bind λdc =>
   (some (x8.set x9.toNat (y != 0))).bind λy=>pr x1 x6 x7 y (IntKind.i64.wrap (x9+1))
else
 (ae x6 x7).bind λy =>
 (ae x6 x7).bind λy =>
  (ae x6 x7).bind λy=>(some (x6.set x7.toNat x8)).bind λy=>gx x1 y (IntKind.i64.wrap (x7+1)):=(aQ ql [1,1,1,0,1,0,0,1,0,0,1,0,1,0,1,0,1,0] (by kernel_rfl) _).trans (by kernel_rfl)
theorem Rr(x1:List al)(x6:List (List Bool))(x7:Int)(x8:List Bool)(bg:Int):rk x1 x6 x7 x8 bg =
 (ae x1 x7).bind λy =>
 bif decide (bg<(↑(List.length y.snd.snd.snd.snd.fst):Int))then
 (ae x1 x7).bind λy =>
  (ae y.snd.snd.snd.snd.fst bg).bind λy =>
  (ae x8 y).bind λaA =>
   (ae x8 y).bind λbU =>
   (ae x8 y).bind λdc =>
    (some (x8.set y.toNat true)).bind λy=>rk x1 x6 x7 y (IntKind.i64.wrap (bg+1))
 else
 (ae x6 x7).bind λy =>
  (ae x6 x7).bind λy =>
  (ae x6 x7).bind λy=>(some (x6.set x7.toNat x8)).bind λy=>gx x1 y (IntKind.i64.wrap (x7+1)):=(aQ ql [1,1,1,0,1,0,0,1,0,0,1,0,1,0,1,1,1,0,1,0] (by kernel_rfl) _).trans (by kernel_rfl)
theorem Rs(x1:List al)(x6:List (List Bool))(x7:Int)(x8:List Bool)(cT:Int):jd x1 x6 x7 x8 cT =
 bif decide (cT<4)then
 (ae x1 x7).bind λy =>
 (ae x6 y.snd.snd.snd.snd.snd.snd.fst).bind λaA =>
  (ae x6 y.snd.snd.snd.snd.snd.snd.fst).bind λbU =>
  (ae x6 y.snd.snd.snd.snd.snd.snd.fst).bind λdc =>
   (ae dc cT).bind λgS =>
   (ae x6 y.snd.snd.snd.snd.snd.snd.fst).bind λy =>
    (ae y cT).bind λy =>
    bif y then
     (ae x8 cT).bind λy =>
     (ae x8 cT).bind λy =>
      (ae x8 cT).bind λy =>
      (some (x8.set cT.toNat true)).bind λy=>jd x1 x6 x7 y (IntKind.i64.wrap (cT+1))
    else
     (ae x1 x7).bind λy =>
     (ae x6 y.snd.snd.snd.snd.snd.snd.snd).bind λtW =>
      (ae x6 y.snd.snd.snd.snd.snd.snd.snd).bind λxI =>
      (ae x6 y.snd.snd.snd.snd.snd.snd.snd).bind λxJ =>
       (ae xJ cT).bind λZ2 =>
       (ae x6 y.snd.snd.snd.snd.snd.snd.snd).bind λy =>
        (ae y cT).bind λy =>
        (ae x8 cT).bind λy_9 =>
         (ae x8 cT).bind λat4 =>
         (ae x8 cT).bind λauM =>
          (some (x8.set cT.toNat y)).bind λy=>jd x1 x6 x7 y (IntKind.i64.wrap (cT+1))
else
 (ae x6 x7).bind λy =>
 (ae x6 x7).bind λy =>
  (ae x6 x7).bind λy=>(some (x6.set x7.toNat x8)).bind λy=>gx x1 y (IntKind.i64.wrap (x7+1)):=(aQ ql [1,1,1,0,1,0,0,1,0,0,1,0,1,0,1,1,1,1,1,0,1,0] (by kernel_rfl) _).trans (by kernel_rfl)
theorem Rp(x1:List al)(x6:List (List Bool))(x7:Int)(x8:List Bool)(dq:Int):lJ x1 x6 x7 x8 dq =
 bif decide (dq<4)then
 (ae x1 x7).bind λy =>
 (ae x6 y.snd.snd.snd.snd.snd.snd.fst).bind λaA =>
  (ae x6 y.snd.snd.snd.snd.snd.snd.fst).bind λbU =>
  (ae x6 y.snd.snd.snd.snd.snd.snd.fst).bind λdc =>
   (ae dc dq).bind λgS =>
   (ae x6 y.snd.snd.snd.snd.snd.snd.fst).bind λy =>
    (ae y dq).bind λy =>
    bif y then
     (ae x1 x7).bind λy =>
     bif y.fst==2 then
      (ae x8 dq).bind λy =>
      (ae x8 dq).bind λy =>
       (ae x8 dq).bind λy =>
       (some (x8.set dq.toNat true)).bind λy=>lJ x1 x6 x7 y (IntKind.i64.wrap (dq+1))
     else
      (ae x1 x7).bind λy =>
      (ae x8 dq).bind λtW =>
       (ae x8 dq).bind λxI =>
       (ae x8 dq).bind λxJ =>
        (some (x8.set dq.toNat (dq != y.snd.snd.snd.snd.snd.fst))).bind λy =>
        lJ x1 x6 x7 y (IntKind.i64.wrap (dq+1))
    else
     (ae x8 dq).bind λy =>
     (ae x8 dq).bind λy =>
      (ae x8 dq).bind λy =>
      (some (x8.set dq.toNat false)).bind λy=>lJ x1 x6 x7 y (IntKind.i64.wrap (dq+1))
else
 (ae x6 x7).bind λy =>
 (ae x6 x7).bind λy =>
  (ae x6 x7).bind λy=>(some (x6.set x7.toNat x8)).bind λy=>gx x1 y (IntKind.i64.wrap (x7+1)):=(aQ ql [1,1,1,0,1,0,0,1,0,0,1,0,1,0,1,1,1,1,1,1,1,0] (by kernel_rfl) _).trans (by kernel_rfl)
theorem Rt(x1:List al)(x6:List (List Bool))(ix:List Int)(eC:Int):mO x1 x6 ix eC =
 bif decide (eC<4)then
 (ae x6 (IntKind.i64.wrap ((↑x1.length:Int) - 1))).bind λy =>
 (ae x6 (IntKind.i64.wrap ((↑x1.length:Int) - 1))).bind λy =>
  (ae x6 (IntKind.i64.wrap ((↑x1.length:Int) - 1))).bind λy =>
  (ae y eC).bind λy =>
   (ae x6 (IntKind.i64.wrap ((↑x1.length:Int) - 1))).bind λy =>
   (ae y eC).bind λy =>
    bif y then
    bif decide ((ix.length+1)*8<=140737488355328)then
     mO x1 x6 (ix++[eC]) (IntKind.i64.wrap (eC+1))
    else none
    else mO x1 x6 ix (IntKind.i64.wrap (eC+1))
else some ((ix,true,()),()):=(aQ ql [1,1,1,1,1,0,1,0] (by kernel_rfl) _).trans (by kernel_rfl)
theorem Ru(x1:List al)(x6:List (List Bool))(x7:Int):gx x1 x6 x7 =
 bif decide (x7<(↑x1.length:Int))then
 (ae x1 x7).bind λy =>
 bif y.fst==0 then pr x1 x6 x7 (List.replicate (Int.toNat 4) false) 0
 else
  bif y.fst==1 then rk x1 x6 x7 (List.replicate (Int.toNat 4) false) 0
  else
  bif y.fst==3 then jd x1 x6 x7 (List.replicate (Int.toNat 4) false) 0
  else
   bif y.fst==4 then jd x1 x6 x7 (List.replicate (Int.toNat 4) false) 0
   else lJ x1 x6 x7 (List.replicate (Int.toNat 4) false) 0
else mO x1 x6 [] 0:=(aQ ql [1,1,1,0,1,0] (by kernel_rfl) _).trans (by kernel_rfl)
theorem afJ(a0:List Rel)(a1:List al):zq a0 a1 =
 (uW a0 a1).bind λy =>
 bif !y.fst.fst then some (([],false,()),())
 else
 bif
  decide (0<=(↑a1.length:Int))&&decide ((↑a1.length:Int)<=(↑a1.length:Int)) &&
   decide ((↑a1.length:Int)*(↑24:Int)<=140737488355328) &&
   decide ((↑a1.length:Int)<=9223372036854775807)then
  gx a1 (List.replicate a1.length []) 0
 else none:=(Eq.trans (by kernel_rfl:zq a0 a1=aC pg (Tryz.f250.body.getD .skip) ph (aY 168 [(bz,Mode.ro),(bS,Mode.ro)] (a0,a1,()))) (all_eq ql _)).trans (by kernel_rfl)
def F1(a0:List Rel)(a1:List al):Option ((Bool×PUnit)×PUnit):=Oa.ao (a0,a1,())
theorem afV(a0:List Rel)(a1:List al):F1 a0 a1 =
 (zq a0 a1).bind λy =>
 bif y.fst.snd.fst then some (((↑(List.length y.fst.fst):Int)==0,()),())else some ((false,()),()):=by kernel_rfl
def Mp:Env:=E1.env C AT.1 Tryz.f215
def PZ:=E1.out C
def yA(x1:aa)(x3:Int):Option ((Bool×PUnit)×PUnit):=aM Mp [1,0,1,0] (Tryz.f215.body.getD .skip) PZ (V.dead::(V.box none 0 aJ x1::V.dead::(V.d none 0 (Ty.int IntKind.i64) x3::dd 13 ([]))))
def u4(a0:aa):Option ((Bool×PUnit)×PUnit):=On.ao (a0,())
def alu:List (Nat×List Nat):=[(1000002,[1,0,1,0])]
theorem Xi:okB alu (Tryz.f215.body.getD .skip) []=true:=by kernel_rfl
theorem RU(x1:aa)(x3:Int):yA x1 x3 =
 bif decide (x3<(↑(List.length x1.fst):Int))then
 (ae x1.fst x3).bind λy =>
 bif y != 0 then some ((false,()),())else yA x1 (IntKind.i64.wrap (x3+1))
else some ((true,()),()):=(aQ Xi [1,0,1,0] (by kernel_rfl) _).trans (by kernel_rfl)
theorem agc(a0:aa):u4 a0 =
 yA a0 0:=(Eq.trans (by kernel_rfl:u4 a0=aC Mp (Tryz.f215.body.getD .skip) PZ (aY 17 [(aJ,Mode.ro)] (a0,()))) (all_eq Xi _)).trans (by kernel_rfl)
def To(a0:aa):Option ((Bool×PUnit)×PUnit):=Ou.ao (a0,())
theorem agi(a0:aa):To a0 =
 bif decide (a0.snd.fst<0)then some ((true,()),())
else bif a0.snd.fst==0 then some ((!a0.snd.snd,()),())else some ((false,()),()):=by kernel_rfl
def zG(a0:Int):Option ((ab×PUnit)×PUnit):=OA.ao (a0,())
theorem agp(a0:Int):zG a0 =
 bif
 decide (0<=a0)&&decide (a0<=a0)&&decide (a0*(↑8:Int)<=140737488355328) &&
  decide (a0<=9223372036854775807)then
 some (((a0,[(List.replicate a0.toNat (0:Int),1,false)]),()),())
else none:=by kernel_rfl
def zF(a0:aa):Option ((aa×PUnit)×PUnit):=Ow.ao (a0,())
theorem agl(a0:aa):zF a0 =
 bif decide ((0+List.length a0.fst)*8<=140737488355328)then some (((a0.fst,a0.snd.fst,a0.snd.snd),()),())
else none:=by kernel_rfl
def rR(a0:aa):Option ((Int×PUnit)×PUnit):=Oq.ao (a0,())
theorem age(a0:aa):rR a0 =
 (py a0.fst 0).bind λy=>some ((y.fst.fst,()),()):=by kernel_rfl
def Mq:Env:=E3.env C A4.1 Tryz.f329
def P0:=E3.out C
def yD(x2:aa)(x3:aa)(x5:Int)(x6:Int)(x7:Int):Option ((Int×PUnit)×PUnit):=aM Mq [1,1,1,0,1,0] (Tryz.f329.body.getD .skip) P0 (dd 2 (V.box none 0 aJ x2::V.box none 0 aJ x3::V.dead::(V.d none 0 (Ty.int IntKind.i64) x5::V.d none 0 (Ty.int IntKind.i64) x6::V.d none 0 (Ty.int IntKind.i64) x7::dd 42 ([]))))
def rS(a0:aa)(a1:aa):Option ((Int×PUnit)×PUnit):=Ov.ao (a0,a1,())
def alw:List (Nat×List Nat):=[(1000004,[1,1,1,0,1,0])]
theorem Xj:okB alw (Tryz.f329.body.getD .skip) []=true:=by kernel_rfl
theorem RY(x2:aa)(x3:aa)(x5:Int)(x6:Int)(x7:Int):yD x2 x3 x5 x6 x7 =
 bif decide (x7<(↑(List.length x2.fst):Int))then
 bif decide (x7<(↑(List.length x3.fst):Int))then
 (ae x2.fst x7).bind λy =>
  bif x5 != 0 then
  (ae x3.fst x7).bind λaA =>
   bif x6 != 0 then
   bif IntKind.i64.wrap (y.tdiv x5) != IntKind.i64.wrap (aA.tdiv x6)then
    bif decide (IntKind.i64.wrap (y.tdiv x5)<IntKind.i64.wrap (aA.tdiv x6))then some ((-1,()),())
    else some ((1,()),())
   else yD x2 x3 x5 x6 (IntKind.i64.wrap (x7+1))
   else none
  else none
 else some ((0,()),())
else some ((0,()),()):=(aQ Xj [1,1,1,0,1,0] (by kernel_rfl) _).trans (by kernel_rfl)
theorem agj(a0:aa)(a1:aa):rS a0 a1 =
 (rR a0).bind λy =>
 (rR a1).bind λaA =>
 yD a0 a1 (bif true then if 1<y.fst.fst then y.fst.fst else 1 else if y.fst.fst<1 then y.fst.fst else 1)
  (bif true then if 1<aA.fst.fst then aA.fst.fst else 1 else if aA.fst.fst<1 then aA.fst.fst else 1) 0:=(Eq.trans (by kernel_rfl:rS a0 a1=aC Mq (Tryz.f329.body.getD .skip) P0 (aY 50 [(aJ,Mode.ro),(aJ,Mode.ro)] (a0,a1,()))) (all_eq Xj _)).trans (by kernel_rfl)
def zD(a0:aa)(a1:aa):Option ((Bool×PUnit)×PUnit):=Ot.ao (a0,a1,())
theorem agf(a0:aa)(a1:aa):zD a0 a1 =
 (rR a1).bind λy =>
 (rR a0).bind λaA =>
 bif
  decide
   (IntKind.i64.wrap
    (a0.snd.fst*bif true then if 1<y.fst.fst then y.fst.fst else 1 else if y.fst.fst<1 then y.fst.fst else 1) >
   IntKind.i64.wrap
    (a1.snd.fst *
    bif true then if 1<aA.fst.fst then aA.fst.fst else 1 else if aA.fst.fst<1 then aA.fst.fst else 1))then
  some ((true,()),())
 else
  bif
   IntKind.i64.wrap
    (a0.snd.fst *
    bif true then if 1<y.fst.fst then y.fst.fst else 1 else if y.fst.fst<1 then y.fst.fst else 1) ==
   IntKind.i64.wrap
    (a1.snd.fst *
    bif true then if 1<aA.fst.fst then aA.fst.fst else 1 else if aA.fst.fst<1 then aA.fst.fst else 1)then
  bif a0.snd.snd then some ((true,()),())else some ((!a1.snd.snd,()),())
  else some ((false,()),()):=by kernel_rfl
def Mu:Env:=E8.env C A5.1 Tryz.f292
def P4:=E8.out C
def yG(x0:List aa)(x3:aa)(x5:Int):Option ((List aa×PUnit)×PUnit):=aM Mu [1,1,0,0] (Tryz.f292.body.getD .skip) P4 (V.d none 0 dT x0::dd 2 (V.box none 0 aJ x3::V.dead::(V.d none 0 (Ty.int IntKind.i64) x5::dd 56 ([]))))
def zH(a0:List aa)(a1:aa):Option ((List aa×PUnit)×PUnit):=OC.ao (a0,a1,())
def alB:List (Nat×List Nat):=[(1000002,[1,1,0,0])]
theorem Xn:okB alB (Tryz.f292.body.getD .skip) []=true:=by kernel_rfl
theorem R7(x0:List aa)(x3:aa)(x5:Int):yG x0 x3 x5 =
 bif decide (x5<(↑x0.length:Int))then
 (ae x0 x5).bind λy =>
 (rS y x3).bind λy =>
  bif decide (y.fst.fst<0)then yG x0 x3 (IntKind.i64.wrap (x5+1))
  else
  bif decide (x5<(↑x0.length:Int))then
   (ae x0 x5).bind λy =>
   (rS y x3).bind λy =>
    bif y.fst.fst==0 then
    (ae x0 x5).bind λy =>
     (zD y x3).bind λy =>
     bif y.fst.fst then some ((x0,()),())
     else
      bif decide ((0+x0.length)*40<=140737488355328)then
      (ae x0 x5).bind λy =>
       (ae x0 x5).bind λy =>
       (ae x0 x5).bind λy=>(some (x0.set x5.toNat x3)).bind λy=>some ((y,()),())
      else none
    else
    bif decide (0<=0)&&decide (0<=x5)&&decide (x5<=(↑x0.length:Int))then
     bif decide ((0+(List.drop (Int.toNat 0) (List.take x5.toNat x0)).length)*40<=140737488355328)then
     bif decide (((List.drop (Int.toNat 0) (List.take x5.toNat x0)).length+1)*40<=140737488355328)then
      bif
       decide (0<=x5)&&decide (x5<=(↑x0.length:Int)) &&
       decide ((↑x0.length:Int)<=(↑x0.length:Int))then
      bif
       decide
        (((List.drop (Int.toNat 0) (List.take x5.toNat x0)++[x3]).length +
         (List.drop x5.toNat (List.take x0.length x0)).length) *
         40 <=
        140737488355328)then
       some
       ((List.drop (Int.toNat 0) (List.take x5.toNat x0)++[x3]++List.drop x5.toNat (List.take x0.length x0),
        ()),
        ())
      else none
      else none
     else none
     else none
    else none
  else
   bif decide (0<=0)&&decide (0<=x5)&&decide (x5<=(↑x0.length:Int))then
   bif decide ((0+(List.drop (Int.toNat 0) (List.take x5.toNat x0)).length)*40<=140737488355328)then
    bif decide (((List.drop (Int.toNat 0) (List.take x5.toNat x0)).length+1)*40<=140737488355328)then
    bif decide (0<=x5)&&decide (x5<=(↑x0.length:Int))&&decide ((↑x0.length:Int)<=(↑x0.length:Int))then
     bif
      decide
      (((List.drop (Int.toNat 0) (List.take x5.toNat x0)++[x3]).length +
        (List.drop x5.toNat (List.take x0.length x0)).length) *
       40 <=
       140737488355328)then
     some
      ((List.drop (Int.toNat 0) (List.take x5.toNat x0)++[x3]++List.drop x5.toNat (List.take x0.length x0),
       ()),
      ())
     else none
    else none
    else none
   else none
   else none
else
 bif decide (x5<(↑x0.length:Int))then
 (ae x0 x5).bind λy =>
  (rS y x3).bind λy =>
  bif y.fst.fst==0 then
   (ae x0 x5).bind λy =>
   (zD y x3).bind λy =>
    bif y.fst.fst then some ((x0,()),())
    else
    bif decide ((0+x0.length)*40<=140737488355328)then
     (ae x0 x5).bind λy =>
     (ae x0 x5).bind λy =>
      (ae x0 x5).bind λy=>(some (x0.set x5.toNat x3)).bind λy=>some ((y,()),())
    else none
  else
   bif decide (0<=0)&&decide (0<=x5)&&decide (x5<=(↑x0.length:Int))then
   bif decide ((0+(List.drop (Int.toNat 0) (List.take x5.toNat x0)).length)*40<=140737488355328)then
    bif decide (((List.drop (Int.toNat 0) (List.take x5.toNat x0)).length+1)*40<=140737488355328)then
    bif decide (0<=x5)&&decide (x5<=(↑x0.length:Int))&&decide ((↑x0.length:Int)<=(↑x0.length:Int))then
     bif
      decide
      (((List.drop (Int.toNat 0) (List.take x5.toNat x0)++[x3]).length +
        (List.drop x5.toNat (List.take x0.length x0)).length) *
       40 <=
       140737488355328)then
     some
      ((List.drop (Int.toNat 0) (List.take x5.toNat x0)++[x3]++List.drop x5.toNat (List.take x0.length x0),
       ()),
      ())
     else none
    else none
    else none
   else none
   else none
 else
 bif decide (0<=0)&&decide (0<=x5)&&decide (x5<=(↑x0.length:Int))then
  bif decide ((0+(List.drop (Int.toNat 0) (List.take x5.toNat x0)).length)*40<=140737488355328)then
  bif decide (((List.drop (Int.toNat 0) (List.take x5.toNat x0)).length+1)*40<=140737488355328)then
   bif decide (0<=x5)&&decide (x5<=(↑x0.length:Int))&&decide ((↑x0.length:Int)<=(↑x0.length:Int))then
   bif
    decide
     (((List.drop (Int.toNat 0) (List.take x5.toNat x0)++[x3]).length +
      (List.drop x5.toNat (List.take x0.length x0)).length) *
      40 <=
     140737488355328)then
    some
    ((List.drop (Int.toNat 0) (List.take x5.toNat x0)++[x3]++List.drop x5.toNat (List.take x0.length x0),()),
     ())
   else none
   else none
  else none
  else none
 else none:=(aQ Xn [1,1,0,0] (by kernel_rfl) _).trans (by kernel_rfl)
theorem agr(a0:List aa)(a1:aa):zH a0 a1 =
 yG a0 a1 0:=(Eq.trans (by kernel_rfl:zH a0 a1=aC Mu (Tryz.f292.body.getD .skip) P4 (aY 62 [(dT,Mode.ro),(aJ,Mode.ro)] (a0,a1,()))) (all_eq Xn _)).trans (by kernel_rfl)
def Mt:Env:=E7.env C A9.1 Tryz.f214
def P3:=E7.out C
def uD(x0:Int)(x1:List aa)(x4:Int×List aa)(x5:Int×List aa)(x6:Int):Option ((ab×PUnit)×PUnit):=aM Mt [1,1,0,1,0] (Tryz.f214.body.getD .skip) P3 (V.d none 0 ak x0::V.d none 0 dT x1::dd 2 (V.box none 0 av x4::V.box none 0 av x5::V.d none 0 (Ty.int IntKind.i64) x6::dd 31 ([])))
def mZ(a0:Int)(a1:List aa):Option ((ab×PUnit)×PUnit):=OB.ao (a0,a1,())
def alA:List (Nat×List Nat):=[(1000003,[1,1,0,1,0])]
theorem Xm:okB alA (Tryz.f214.body.getD .skip) []=true:=by kernel_rfl
theorem R6(x0:Int)(x1:List aa)(x4:Int×List aa)(x5:Int×List aa)(x6:Int):uD x0 x1 x4 x5 x6 =
 bif decide (x6<(↑x1.length:Int))then
 (ae x1 x6).bind λy =>
 (u4 y).bind λy =>
  bif y.fst.fst then
  (ae x1 x6).bind λy =>
   (To y).bind λy =>
   bif !y.fst.fst then (zG x0).bind λy=>some ((y.fst.fst,()),())
   else uD x0 x1 x4 x5 (IntKind.i64.wrap (x6+1))
  else
  (ae x1 x6).bind λy =>
   (zF y).bind λy =>
   (zH x5.snd y.fst.fst).bind λy=>uD x0 x1 x4 (x5.fst,y.fst.fst) (IntKind.i64.wrap (x6+1))
else some ((x5,()),()):=(aQ Xm [1,1,0,1,0] (by kernel_rfl) _).trans (by kernel_rfl)
theorem agq(a0:Int)(a1:List aa):mZ a0 a1 =
 uD a0 a1 (0,[]) (a0,[]) 0:=(Eq.trans (by kernel_rfl:mZ a0 a1=aC Mt (Tryz.f214.body.getD .skip) P3 (aY 38 [(ak,Mode.ro),(dT,Mode.ro)] (a0,a1,()))) (all_eq Xm _)).trans (by kernel_rfl)
def Mo:Env:=E0.env C A8.1 Tryz.f288
def PY:=E0.out C
def uA(x0:List Int)(x6:aa)(x8:Int)(x9:aa)(bg:Int):Option ((aa×Bool×PUnit)×PUnit):=aM Mo [1,1,1,0,1,0] (Tryz.f288.body.getD .skip) PY (V.d none 0 bl x0::dd 5 (V.box none aJ.depth aJ x6::V.dead::(V.d none 0 (Ty.int IntKind.i64) x8::V.box none aJ.depth aJ x9::V.d none 0 (Ty.int IntKind.i64) bg::dd 31 ([]))))
def mY(a0:List Int)(a1:Int)(a2:Bool):Option ((aa×Bool×PUnit)×PUnit):=Om.ao (a0,a1,a2,())
def als:List (Nat×List Nat):=[(1000004,[1,1,1,0,1,0])]
theorem Xh:okB als (Tryz.f288.body.getD .skip) []=true:=by kernel_rfl
theorem RT(x0:List Int)(x6:aa)(x8:Int)(x9:aa)(bg:Int):uA x0 x6 x8 x9 bg =
 bif decide (bg<(↑x0.length:Int))then
 (ae x0 bg).bind λy =>
 bif x8 != 0 then
  bif decide ((List.length x9.fst+1)*8<=140737488355328)then
  uA x0 x6 x8 (x9.fst++[IntKind.i64.wrap (y.tdiv x8)],x9.snd) (IntKind.i64.wrap (bg+1))
  else none
 else none
else
 (mV x9).bind λy=>bif !y.fst.fst then some ((([],0,false),false,()),())else some ((x9,true,()),()):=(aQ Xh [1,1,1,0,1,0] (by kernel_rfl) _).trans (by kernel_rfl)
theorem agb(a0:List Int)(a1:Int)(a2:Bool):mY a0 a1 a2 =
 (py a0 a1).bind λy =>
 bif (bif true then if 1<y.fst.fst then y.fst.fst else 1 else if y.fst.fst<1 then y.fst.fst else 1) != 0 then
 uA a0 ([],0,false)
  (bif true then if 1<y.fst.fst then y.fst.fst else 1 else if y.fst.fst<1 then y.fst.fst else 1)
  ([],
  IntKind.i64.wrap
   (a1.tdiv (bif true then if 1<y.fst.fst then y.fst.fst else 1 else if y.fst.fst<1 then y.fst.fst else 1)),
  a2)
  0
 else none:=(Eq.trans (by kernel_rfl:mY a0 a1 a2=aC Mo (Tryz.f288.body.getD .skip) PY (aY 42 [(bl,Mode.ro),(ak,Mode.ro),(aw,Mode.ro)] (a0,a1,a2,()))) (all_eq Xh _)).trans (by kernel_rfl)
def Ml:Env:=EW.env C A2.1 Tryz.f321
def PV:=EW.out C
def uy(x1:Int)(x3:Int)(x4:aa)(x6:aa)(x8:aa)(bg:List Int)(cT:Int):Option ((aa×Bool×PUnit)×PUnit):=aM Ml [1,1,1,0,1,0] (Tryz.f321.body.getD .skip) PV (V.dead::(V.d none 0 ak x1::V.dead::(V.d none 0 ak x3::V.box none 0 aJ x4::V.dead::(V.box none 0 aJ x6::V.dead::(V.box none aJ.depth aJ x8::V.dead::(V.d none (ak.depth+1) (Ty.slice 3 ak) bg::V.d none 0 (Ty.int IntKind.i64) cT::dd 86 ([])))))))
def zv(a0:aa)(a1:Int)(a2:aa)(a3:Int):Option ((aa×Bool×PUnit)×PUnit):=Od.ao (a0,a1,a2,a3,())
def alo:List (Nat×List Nat):=[(1000005,[1,1,1,0,1,0])]
theorem Xe:okB alo (Tryz.f321.body.getD .skip) []=true:=by kernel_rfl
theorem RM(x1:Int)(x3:Int)(x4:aa)(x6:aa)(x8:aa)(bg:List Int)(cT:Int):uy x1 x3 x4 x6 x8 bg cT =
 bif decide (cT<(↑(List.length x4.fst):Int))then
 (ae x4.fst cT).bind λy =>
 (ae x6.fst cT).bind λaA =>
  bif decide ((bg.length+1)*8<=140737488355328)then
  uy x1 x3 x4 x6 x8 (bg++[IntKind.i64.wrap (IntKind.i64.wrap (x1*y)+IntKind.i64.wrap (x3*aA))])
   (IntKind.i64.wrap (cT+1))
  else none
else
 bif x4.snd.snd then
 bif decide (x1>0)then
  (mY bg (IntKind.i64.wrap (IntKind.i64.wrap (x1*x4.snd.fst)+IntKind.i64.wrap (x3*x6.snd.fst)))
   true).bind
  λy=>some ((y.fst.fst,y.fst.snd.fst,()),())
 else
  bif x6.snd.snd then
  (mY bg (IntKind.i64.wrap (IntKind.i64.wrap (x1*x4.snd.fst)+IntKind.i64.wrap (x3*x6.snd.fst)))
    (decide (x3>0))).bind
   λy=>some ((y.fst.fst,y.fst.snd.fst,()),())
  else
  (mY bg (IntKind.i64.wrap (IntKind.i64.wrap (x1*x4.snd.fst)+IntKind.i64.wrap (x3*x6.snd.fst)))
    false).bind
   λy=>some ((y.fst.fst,y.fst.snd.fst,()),())
 else
 bif x6.snd.snd then
  (mY bg (IntKind.i64.wrap (IntKind.i64.wrap (x1*x4.snd.fst)+IntKind.i64.wrap (x3*x6.snd.fst)))
   (decide (x3>0))).bind
  λy=>some ((y.fst.fst,y.fst.snd.fst,()),())
 else
  (mY bg (IntKind.i64.wrap (IntKind.i64.wrap (x1*x4.snd.fst)+IntKind.i64.wrap (x3*x6.snd.fst)))
   false).bind
  λy=>some ((y.fst.fst,y.fst.snd.fst,()),()):=(aQ Xe [1,1,1,0,1,0] (by kernel_rfl) _).trans (by kernel_rfl)
theorem af0(a0:aa)(a1:Int)(a2:aa)(a3:Int):zv a0 a1 a2 a3 =
 (mV a0).bind λy =>
 bif !y.fst.fst then some ((([],0,false),false,()),())
 else
 (mV a2).bind λy =>
  bif !y.fst.fst then some ((([],0,false),false,()),())
  else
  bif (↑(List.length a0.fst):Int) != (↑(List.length a2.fst):Int)then some ((([],0,false),false,()),())
  else
   (gT a1 0 400000000).bind λy =>
   bif !y.fst.fst then some ((([],0,false),false,()),())
   else
    (gT a3 0 400000000).bind λy =>
    bif !y.fst.fst then some ((([],0,false),false,()),())else uy a1 a3 a0 a2 ([],0,false) [] 0:=(Eq.trans (by kernel_rfl:zv a0 a1 a2 a3=aC Ml (Tryz.f321.body.getD .skip) PV (aY 98 [(aJ,Mode.ro),(ak,Mode.ro),(aJ,Mode.ro),(ak,Mode.ro)] (a0,a1,a2,a3,()))) (all_eq Xe _)).trans (by kernel_rfl)
def xP:Env:=E5.env C AU.1 Tryz.f274
def ya:=E5.out C
def rA(x1:Int)(x2:Int×List aa)(x4:Int×List aa)(x6:List aa)(x8:Int)(x9:Int):Option ((ab×Bool×PUnit)×PUnit):=aM xP [1,1,1,0,1,0,0,1,0,0,1,0] (Tryz.f274.body.getD .skip) ya (V.dead::(V.d none 0 ak x1::V.box none 0 av x2::V.dead::(V.box none av.depth av x4::V.dead::(V.d none 1 (Ty.slice 153 aJ) x6::V.dead::(V.d none 0 (Ty.int IntKind.i64) x8::V.d none 0 (Ty.int IntKind.i64) x9::dd 103 ([]))))))
def rB(x1:Int)(x2:Int×List aa)(x4:Int×List aa)(x6:List aa)(x8:Int):Option ((ab×Bool×PUnit)×PUnit):=aM xP [1,1,1,0,1,0] (Tryz.f274.body.getD .skip) ya (V.dead::(V.d none 0 ak x1::V.box none 0 av x2::V.dead::(V.box none av.depth av x4::V.dead::(V.d none 1 (Ty.slice 153 aJ) x6::V.dead::(V.d none 0 (Ty.int IntKind.i64) x8::dd 104 ([]))))))
def uB(x1:Int)(x2:Int×List aa)(x4:Int×List aa)(x6:List aa)(x7:Int):Option ((ab×Bool×PUnit)×PUnit):=aM xP [1,1,0,1,0] (Tryz.f274.body.getD .skip) ya (V.dead::(V.d none 0 ak x1::V.box none 0 av x2::V.dead::(V.box none av.depth av x4::V.dead::(V.d none 1 (Ty.slice 153 aJ) x6::V.d none 0 (Ty.int IntKind.i64) x7::dd 105 ([])))))
def u5(a0:Int×List aa)(a1:Int):Option ((ab×Bool×PUnit)×PUnit):=Oy.ao (a0,a1,())
def aly:List (Nat×List Nat):=[(1000003,[1,1,0,1,0]),(1000008,[1,1,1,0,1,0]),(1000011,[1,1,1,0,1,0,0,1,0,0,1,0])]
theorem Cy:okB aly (Tryz.f274.body.getD .skip) []=true:=by kernel_rfl
theorem R1(x1:Int)(x2:Int×List aa)(x4:Int×List aa)(x6:List aa)(x8:Int)(x9:Int):rA x1 x2 x4 x6 x8 x9 =
 bif decide (x9<(↑(List.length x2.snd):Int))then
 (ae x2.snd x8).bind λy =>
 (ae y.fst x1).bind λy =>
  (ae x2.snd x9).bind λaA =>
  (ae aA.fst x1).bind λbU =>
   bif decide (y<=0)then rA x1 x2 x4 x6 x8 (IntKind.i64.wrap (x9+1))
   else
   bif decide (bU>=0)then rA x1 x2 x4 x6 x8 (IntKind.i64.wrap (x9+1))
   else
    (ae x2.snd x8).bind λdc =>
    (ae x2.snd x9).bind λgS =>
     (zv dc (IntKind.i64.wrap (0 - bU)) gS y).bind λy =>
     bif !y.fst.snd.fst then some (((0,[]),false,()),())
     else
      bif decide ((x6.length+1)*40<=140737488355328)then
      rA x1 x2 x4 (x6++[y.fst.fst]) x8 (IntKind.i64.wrap (x9+1))
      else none
else rB x1 x2 x4 x6 (IntKind.i64.wrap (x8+1)):=(aQ Cy [1,1,1,0,1,0,0,1,0,0,1,0] (by kernel_rfl) _).trans (by kernel_rfl)
theorem R4(x1:Int)(x2:Int×List aa)(x4:Int×List aa)(x6:List aa)(x8:Int):rB x1 x2 x4 x6 x8 =
 bif decide (x8<(↑(List.length x2.snd):Int))then rA x1 x2 x4 x6 x8 0
else
 (mZ x2.fst x6).bind λy =>
 bif decide ((↑(List.length y.fst.fst.snd):Int)>16)then some (((0,[]),false,()),())
 else some ((y.fst.fst,true,()),()):=(aQ Cy [1,1,1,0,1,0] (by kernel_rfl) _).trans (by kernel_rfl)
theorem R3(x1:Int)(x2:Int×List aa)(x4:Int×List aa)(x6:List aa)(x7:Int):uB x1 x2 x4 x6 x7 =
 bif decide (x7<(↑(List.length x2.snd):Int))then
 (ae x2.snd x7).bind λy =>
 (ae y.fst x1).bind λy =>
  bif y==0 then
  (ae x2.snd x7).bind λy =>
   bif decide ((x6.length+1)*40<=140737488355328)then
   uB x1 x2 x4 (x6++[y]) (IntKind.i64.wrap (x7+1))
   else none
  else uB x1 x2 x4 x6 (IntKind.i64.wrap (x7+1))
else rB x1 x2 x4 x6 0:=(aQ Cy [1,1,0,1,0] (by kernel_rfl) _).trans (by kernel_rfl)
theorem agn(a0:Int×List aa)(a1:Int):u5 a0 a1 =
 uB a1 a0 (0,[]) [] 0:=(Eq.trans (by kernel_rfl:u5 a0 a1=aC xP (Tryz.f274.body.getD .skip) ya (aY 113 [(av,Mode.ro),(ak,Mode.ro)] (a0,a1,()))) (all_eq Cy _)).trans (by kernel_rfl)
def Mi:Env:=ER.env C A7.1 Tryz.f289
def PS:=ER.out C
def yt(x4:Int×List aa)(x5:Int):Option ((Bool×Bool×PUnit)×PUnit):=aM Mi [1,1,1,0,1,0] (Tryz.f289.body.getD .skip) PS (dd 4 (V.box none 0 av x4::V.d none 0 (Ty.int IntKind.i64) x5::dd 30 ([])))
def uV(a0:Int×List aa):Option ((Bool×Bool×PUnit)×PUnit):=N5.ao (a0,())
def ali:List (Nat×List Nat):=[(1000005,[1,1,1,0,1,0])]
theorem Xb:okB ali (Tryz.f289.body.getD .skip) []=true:=by kernel_rfl
theorem RA(x4:Int×List aa)(x5:Int):yt x4 x5 =
 bif decide (x5>=0)then
 (u5 x4 x5).bind λy =>
 bif !y.fst.snd.fst then some ((false,false,()),())else yt y.fst.fst (IntKind.i64.wrap (x5 - 1))
else some ((decide ((↑(List.length x4.snd):Int)>0),true,()),()):=(aQ Xb [1,1,1,0,1,0] (by kernel_rfl) _).trans (by kernel_rfl)
theorem afR(a0:Int×List aa):uV a0 =
 (mW a0).bind λy =>
 bif !y.fst.fst then some ((false,false,()),())
 else (mZ a0.fst a0.snd).bind λy=>yt y.fst.fst (IntKind.i64.wrap (a0.fst - 1)):=(Eq.trans (by kernel_rfl:uV a0=aC Mi (Tryz.f289.body.getD .skip) PS (aY 36 [(av,Mode.ro)] (a0,()))) (all_eq Xb _)).trans (by kernel_rfl)
def Mr:Env:=E4.env C AQ.1 Tryz.f141
def P1:=E4.out C
def yE(x1:Int×List aa)(x2:Int×List aa)(x3:Int×List aa)(x4:Int):Option ((ab×PUnit)×PUnit):=aM Mr [1,1,0,1,0] (Tryz.f141.body.getD .skip) P1 (V.dead::(V.box none 0 av x1::V.box none av.depth av x2::V.box none av.depth av x3::V.d none 0 (Ty.int IntKind.i64) x4::dd 22 ([])))
def pz(a0:Int×List aa):Option ((ab×PUnit)×PUnit):=Ox.ao (a0,())
def alx:List (Nat×List Nat):=[(1000003,[1,1,0,1,0])]
theorem Xk:okB alx (Tryz.f141.body.getD .skip) []=true:=by kernel_rfl
theorem R0(x1:Int×List aa)(x2:Int×List aa)(x3:Int×List aa)(x4:Int):yE x1 x2 x3 x4 =
 bif decide (x4<(↑(List.length x1.snd):Int))then
 (ae x1.snd x4).bind λy =>
 (zF y).bind λy =>
  bif decide ((List.length x3.snd+1)*40<=140737488355328)then
  yE x1 x2 (x3.fst,x3.snd++[y.fst.fst]) (IntKind.i64.wrap (x4+1))
  else none
else some ((x3,()),()):=(aQ Xk [1,1,0,1,0] (by kernel_rfl) _).trans (by kernel_rfl)
theorem agm(a0:Int×List aa):pz a0 =
 yE a0 (0,[]) (a0.fst,[]) 0:=(Eq.trans (by kernel_rfl:pz a0=aC Mr (Tryz.f141.body.getD .skip) P1 (aY 27 [(av,Mode.ro)] (a0,()))) (all_eq Xk _)).trans (by kernel_rfl)
def Mn:Env:=EY.env C A6.1 Tryz.f307
def PX:=EY.out C
def yx(x1:aa)(x2:aa)(x4:aa)(x5:Int):Option ((aa×Bool×PUnit)×PUnit):=aM Mn [1,1,1,0,1,0] (Tryz.f307.body.getD .skip) PX (V.dead::(V.box none 0 aJ x1::V.box none aJ.depth aJ x2::V.dead::(V.box none aJ.depth aJ x4::V.d none 0 (Ty.int IntKind.i64) x5::dd 30 ([]))))
def uY(a0:aa):Option ((aa×Bool×PUnit)×PUnit):=Of.ao (a0,())
def alq:List (Nat×List Nat):=[(1000005,[1,1,1,0,1,0])]
theorem Xg:okB alq (Tryz.f307.body.getD .skip) []=true:=by kernel_rfl
theorem RP(x1:aa)(x2:aa)(x4:aa)(x5:Int):yx x1 x2 x4 x5 =
 bif decide (x5<(↑(List.length x1.fst):Int))then
 (ae x1.fst x5).bind λy =>
 bif decide ((List.length x4.fst+1)*8<=140737488355328)then
  yx x1 x2 (x4.fst++[IntKind.i64.wrap (0 - y)],x4.snd) (IntKind.i64.wrap (x5+1))
 else none
else some ((x4,true,()),()):=(aQ Xg [1,1,1,0,1,0] (by kernel_rfl) _).trans (by kernel_rfl)
theorem af3(a0:aa):uY a0 =
 (mV a0).bind λy =>
 bif !y.fst.fst then some ((([],0,false),false,()),())
 else yx a0 ([],0,false) ([],IntKind.i64.wrap (0 - a0.snd.fst),!a0.snd.snd) 0:=(Eq.trans (by kernel_rfl:uY a0=aC Mn (Tryz.f307.body.getD .skip) PX (aY 36 [(aJ,Mode.ro)] (a0,()))) (all_eq Xg _)).trans (by kernel_rfl)
def rP(a0:Int×List aa)(a1:Int×List aa):Option ((ab×Bool×PUnit)×PUnit):=Ob.ao (a0,a1,())
theorem afX(a0:Int×List aa)(a1:Int×List aa):rP a0 a1 =
 (mW a0).bind λy =>
 bif !y.fst.fst then some (((0,[]),false,()),())
 else
 (mW a1).bind λy =>
  bif !y.fst.fst then some (((0,[]),false,()),())
  else
  bif a0.fst != a1.fst then some (((0,[]),false,()),())
  else
   bif decide ((0+List.length a0.snd)*40<=140737488355328)then
   bif decide ((List.length a0.snd+List.length a1.snd)*40<=140737488355328)then
    (mZ a0.fst (a0.snd++a1.snd)).bind λy =>
    bif decide ((↑(List.length y.fst.fst.snd):Int)>16)then some (((0,[]),false,()),())
    else some ((y.fst.fst,true,()),())
   else none
   else none:=by kernel_rfl
def F0(a0:Int×List aa)(a1:aa):Option ((Bool×Bool×PUnit)×PUnit):=N1.ao (a0,a1,())
theorem afL(a0:Int×List aa)(a1:aa):F0 a0 a1 =
 (uY a1).bind λy =>
 (rP a0 ((↑(List.length a1.fst):Int),[y.fst.fst])).bind λaA =>
 bif !y.fst.snd.fst then some ((false,false,()),())
 else
  bif !aA.fst.snd.fst then some ((false,false,()),())
  else (uV aA.fst.fst).bind λy=>some ((y.fst.fst,y.fst.snd.fst,()),()):=by kernel_rfl
def Ms:Env:=E6.env C AN.1 Tryz.f213
def P2:=E6.out C
def uC(x1:Int×List aa)(x2:Int×List aa)(x6:Int×List aa)(x7:Int):Option ((ab×Bool×PUnit)×PUnit):=aM Ms [1,1,1,1,1,0,1,0] (Tryz.f213.body.getD .skip) P2 (V.dead::(V.box none 0 av x1::V.box none 0 av x2::dd 3 (V.box none 0 av x6::V.d none 0 (Ty.int IntKind.i64) x7::dd 56 ([]))))
def u6(a0:Int×List aa):Option ((ab×Bool×PUnit)×PUnit):=Oz.ao (a0,())
def alz:List (Nat×List Nat):=[(1000008,[1,1,1,1,1,0,1,0])]
theorem Xl:okB alz (Tryz.f213.body.getD .skip) []=true:=by kernel_rfl
theorem R5(x1:Int×List aa)(x2:Int×List aa)(x6:Int×List aa)(x7:Int):uC x1 x2 x6 x7 =
 bif decide (x7<(↑(List.length x6.snd):Int))then
 bif decide (0<=0)&&decide (0<=x7)&&decide (x7<=(↑(List.length x6.snd):Int))then
 bif decide ((0+(List.drop (Int.toNat 0) (List.take x7.toNat x6.snd)).length)*40<=140737488355328)then
  bif
   decide (0<=IntKind.i64.wrap (x7+1))&&decide (IntKind.i64.wrap (x7+1)<=(↑(List.length x6.snd):Int)) &&
   decide ((↑(List.length x6.snd):Int)<=(↑(List.length x6.snd):Int))then
  bif
   decide
    (((List.drop (Int.toNat 0) (List.take x7.toNat x6.snd)).length +
     (List.drop (IntKind.i64.wrap (x7+1)).toNat (List.take (List.length x6.snd) x6.snd)).length) *
     40 <=
    140737488355328)then
   (ae x6.snd x7).bind λy =>
   (F0
     (x1.fst,
     List.drop (Int.toNat 0) (List.take x7.toNat x6.snd) ++
      List.drop (IntKind.i64.wrap (x7+1)).toNat (List.take (List.length x6.snd) x6.snd))
     y).bind
    λy =>
    bif !y.fst.snd.fst then some (((0,[]),false,()),())
    else
    bif y.fst.fst then
     (pz
      (x1.fst,
       List.drop (Int.toNat 0) (List.take x7.toNat x6.snd) ++
       List.drop (IntKind.i64.wrap (x7+1)).toNat (List.take (List.length x6.snd) x6.snd))).bind
     λy=>uC x1 x2 y.fst.fst x7
    else uC x1 x2 x6 (IntKind.i64.wrap (x7+1))
  else none
  else none
 else none
 else none
else some ((x6,true,()),()):=(aQ Xl [1,1,1,1,1,0,1,0] (by kernel_rfl) _).trans (by kernel_rfl)
theorem ago(a0:Int×List aa):u6 a0 =
 (uV a0).bind λy =>
 bif !y.fst.snd.fst then some (((0,[]),false,()),())
 else
 bif y.fst.fst then (zG a0.fst).bind λy=>some ((y.fst.fst,true,()),())
 else (pz a0).bind λy=>uC a0 (0,[]) y.fst.fst 0:=(Eq.trans (by kernel_rfl:u6 a0=aC Ms (Tryz.f213.body.getD .skip) P2 (aY 64 [(av,Mode.ro)] (a0,()))) (all_eq Xl _)).trans (by kernel_rfl)
def gU(a0:Int×List ab)(a1:Int×List aa):Option ((aU×Bool×PUnit)×PUnit):=OD.ao (a0,a1,())
theorem agt(a0:Int×List ab)(a1:Int×List aa):gU a0 a1 =
 (mZ a1.fst a1.snd).bind λy =>
 (u6 y.fst.fst).bind λy =>
 bif !y.fst.snd.fst then some (((0,[]),false,()),())
 else
  bif decide ((↑(List.length y.fst.fst.snd):Int)>16)then some (((0,[]),false,()),())
  else
  bif (↑(List.length y.fst.fst.snd):Int)==1 then
   (ae y.fst.fst.snd 0).bind λaA =>
   (u4 aA).bind λbU =>
    bif bU.fst.fst then some ((a0,true,()),())
    else
    bif decide ((0+List.length a0.snd)*32<=140737488355328)then
     bif decide ((List.length a0.snd+1)*32<=140737488355328)then
     some (((a0.fst,a0.snd++[y.fst.fst]),decide ((↑(a0.snd++[y.fst.fst]).length:Int)<=12),()),())
     else none
    else none
  else
   bif decide ((0+List.length a0.snd)*32<=140737488355328)then
   bif decide ((List.length a0.snd+1)*32<=140737488355328)then
    some (((a0.fst,a0.snd++[y.fst.fst]),decide ((↑(a0.snd++[y.fst.fst]).length:Int)<=12),()),())
   else none
   else none:=by kernel_rfl
def Mb:Env:=EI.env C Ba.1 Tryz.f358
def PK:=EI.out C
def rh(x1:ByteArray)(x2:ByteArray×Int×List Rw)(x4:Int×List ab)(x6:Int×List ab)(x7:Int):Option ((aU×Bool×PUnit)×PUnit):=aM Mb [1,1,1,0,1,0] (Tryz.f358.body.getD .skip) PK (V.dead::(V.d none 0 bX x1::V.box none 0 fN x2::V.dead::(V.box none 1 aD x4::V.dead::(V.box none 1 aD x6::V.d none 0 (Ty.int IntKind.i64) x7::dd 39 ([])))))
def zo(a0:ByteArray×Int×List Rw)(a1:ByteArray):Option ((aU×Bool×PUnit)×PUnit):=NU.ao (a0,a1,())
def ala:List (Nat×List Nat):=[(1000005,[1,1,1,0,1,0])]
theorem W4:okB ala (Tryz.f358.body.getD .skip) []=true:=by kernel_rfl
theorem Rj(x1:ByteArray)(x2:ByteArray×Int×List Rw)(x4:Int×List ab)(x6:Int×List ab)(x7:Int):rh x1 x2 x4 x6 x7 =
 bif decide (x7<(↑(List.length x2.snd.snd):Int))then
 bif x1.toList==(ByteArray.mk #[]).toList then
 (ae x2.snd.snd x7).bind λy =>
  (pz y.snd).bind λy =>
  bif decide ((List.length x6.snd+1)*32<=140737488355328)then
   rh x1 x2 x4 (x6.fst,x6.snd++[y.fst.fst]) (IntKind.i64.wrap (x7+1))
  else none
 else
 (ae x2.snd.snd x7).bind λy =>
  bif ByteArray.toList y.fst==x1.toList then
  (ae x2.snd.snd x7).bind λy =>
   (pz y.snd).bind λy =>
   bif decide ((List.length x6.snd+1)*32<=140737488355328)then
    rh x1 x2 x4 (x6.fst,x6.snd++[y.fst.fst]) (IntKind.i64.wrap (x7+1))
   else none
  else rh x1 x2 x4 x6 (IntKind.i64.wrap (x7+1))
else some ((x6,true,()),()):=(aQ W4 [1,1,1,0,1,0] (by kernel_rfl) _).trans (by kernel_rfl)
theorem afB(a0:ByteArray×Int×List Rw)(a1:ByteArray):zo a0 a1 =
 (uX a0).bind λy =>
 bif !y.fst.fst then some (((0,[]),false,()),())else rh a1 a0 (0,[]) (a0.snd.fst,[]) 0:=(Eq.trans (by kernel_rfl:zo a0 a1=aC Mb (Tryz.f358.body.getD .skip) PK (aY 47 [(fN,Mode.ro),(bX,Mode.ro)] (a0,a1,()))) (all_eq W4 _)).trans (by kernel_rfl)
def DF:Env:=EZ.env C AK.1 Tryz.f349
def DW:=EZ.out C
def uz(x1:List Int)(x2:Int×List aa)(x4:Int×List aa)(x6:Int×List aa)(x7:Int)(x8:List Int)(x9:Int):Option ((ab×Bool×PUnit)×PUnit):=aM DF [1,1,1,0,1,0,0,1,0,0,1,0,1,0] (Tryz.f349.body.getD .skip) DW (V.dead::(V.d none 0 bl x1::V.box none 0 av x2::V.dead::(V.box none av.depth av x4::V.dead::(V.box none av.depth av x6::V.d none 0 (Ty.int IntKind.i64) x7::V.d none (ak.depth+1) (Ty.slice 3 ak) x8::V.d none 0 (Ty.int IntKind.i64) x9::dd 85 ([])))))
def yy(x1:List Int)(x2:Int×List aa)(x4:Int×List aa)(x6:Int×List aa)(x7:Int):Option ((ab×Bool×PUnit)×PUnit):=aM DF [1,1,1,0,1,0] (Tryz.f349.body.getD .skip) DW (V.dead::(V.d none 0 bl x1::V.box none 0 av x2::V.dead::(V.box none av.depth av x4::V.dead::(V.box none av.depth av x6::V.d none 0 (Ty.int IntKind.i64) x7::dd 87 ([])))))
def zw(a0:Int×List aa)(a1:List Int):Option ((ab×Bool×PUnit)×PUnit):=Og.ao (a0,a1,())
def alr:List (Nat×List Nat):=[(1000005,[1,1,1,0,1,0]),(1000009,[1,1,1,0,1,0,0,1,0,0,1,0,1,0])]
theorem JP:okB alr (Tryz.f349.body.getD .skip) []=true:=by kernel_rfl
theorem RR(x1:List Int)(x2:Int×List aa)(x4:Int×List aa)(x6:Int×List aa)(x7:Int)(x8:List Int)(x9:Int):uz x1 x2 x4 x6 x7 x8 x9 =
 bif decide (x9<(↑x1.length:Int))then
 (ae x1 x9).bind λy =>
 (gT y 0 3).bind λy =>
  bif !y.fst.fst then some (((0,[]),false,()),())
  else
  (ae x1 x9).bind λy =>
   (ae x1 x9).bind λaA =>
   (ae x8 aA).bind λbU =>
    (ae x8 aA).bind λdc =>
    (ae x2.snd x7).bind λgS =>
     (ae gS.fst x9).bind λtW =>
     (ae x8 y).bind λxI =>
      (ae x8 y).bind λxJ =>
      (ae x8 y).bind λZ2 =>
       (some (x8.set y.toNat (IntKind.i64.wrap (dc+tW)))).bind λy =>
       uz x1 x2 x4 x6 x7 y (IntKind.i64.wrap (x9+1))
else
 (ae x2.snd x7).bind λy =>
 (ae x2.snd x7).bind λaA =>
  (mY x8 y.snd.fst aA.snd.snd).bind λy =>
  bif !y.fst.snd.fst then some (((0,[]),false,()),())
  else
   bif decide ((List.length x6.snd+1)*40<=140737488355328)then
   yy x1 x2 x4 (x6.fst,x6.snd++[y.fst.fst]) (IntKind.i64.wrap (x7+1))
   else none:=(aQ JP [1,1,1,0,1,0,0,1,0,0,1,0,1,0] (by kernel_rfl) _).trans (by kernel_rfl)
theorem RQ(x1:List Int)(x2:Int×List aa)(x4:Int×List aa)(x6:Int×List aa)(x7:Int):yy x1 x2 x4 x6 x7 =
 bif decide (x7<(↑(List.length x2.snd):Int))then uz x1 x2 x4 x6 x7 (List.replicate (Int.toNat 4) (0:Int)) 0
else some ((x6,true,()),()):=(aQ JP [1,1,1,0,1,0] (by kernel_rfl) _).trans (by kernel_rfl)
theorem af4(a0:Int×List aa)(a1:List Int):zw a0 a1 =
 (mW a0).bind λy =>
 bif !y.fst.fst then some (((0,[]),false,()),())
 else bif (↑a1.length:Int) != a0.fst then some (((0,[]),false,()),())else yy a1 a0 (0,[]) (4,[]) 0:=(Eq.trans (by kernel_rfl:zw a0 a1=aC DF (Tryz.f349.body.getD .skip) DW (aY 95 [(av,Mode.ro),(bl,Mode.ro)] (a0,a1,()))) (all_eq JP _)).trans (by kernel_rfl)
def Mw:Env:=Fc.env C AW.1 Tryz.f337
def P6:=Fc.out C
def yH(x3:Int×aa×ByteArray×ByteArray×List Int×Int×Int×Int)(x4:Int×List ab)(x6:Int×List ab)(x7:Int×List ab)(x9:Int):Option ((aU×Bool×PUnit)×PUnit):=aM Mw [1,1,1,0,1,0] (Tryz.f337.body.getD .skip) P6 (dd 3 (V.box none 0 c7 x3::V.box none 0 aD x4::V.dead::(V.box none 0 (ak.pair lF).agg x6::V.box none 0 aD x7::V.dead::(V.d none 0 (Ty.int IntKind.i64) x9::dd 50 ([])))))
def F9(a0:List Rel)(a1:Int×aa×ByteArray×ByteArray×List Int×Int×Int×Int):Option ((aU×Bool×PUnit)×PUnit):=OJ.ao (a0,a1,())
def alF:List (Nat×List Nat):=[(1000004,[1,1,1,0,1,0])]
theorem Xp:okB alF (Tryz.f337.body.getD .skip) []=true:=by kernel_rfl
theorem Sd(x3:Int×aa×ByteArray×ByteArray×List Int×Int×Int×Int)(x4:Int×List ab)(x6:Int×List ab)(x7:Int×List ab)(x9:Int):yH x3 x4 x6 x7 x9 =
 bif decide (x9<(↑(List.length x7.snd):Int))then
 (ae x7.snd x9).bind λy =>
 (zw y x3.snd.snd.snd.snd.fst).bind λy =>
  bif !y.fst.snd.fst then some (((0,[]),false,()),())
  else
  (gU x6 y.fst.fst).bind λy =>
   bif !y.fst.snd.fst then some (((0,[]),false,()),())
   else yH x3 x4 y.fst.fst x7 (IntKind.i64.wrap (x9+1))
else some ((x6,true,()),()):=(aQ Xp [1,1,1,0,1,0] (by kernel_rfl) _).trans (by kernel_rfl)
theorem agC(a0:List Rel)(a1:Int×aa×ByteArray×ByteArray×List Int×Int×Int×Int):F9 a0 a1 =
 (px a0 a1.snd.snd.fst).bind λy =>
 (ae a0 y.fst.fst).bind λy =>
 (zo y a1.snd.snd.snd.fst).bind λy=>yH a1 (0,[]) (4,[]) y.fst.fst 0:=(Eq.trans (by kernel_rfl:F9 a0 a1=aC Mw (Tryz.f337.body.getD .skip) P6 (aY 60 [(bz,Mode.ro),(c7,Mode.ro)] (a0,a1,()))) (all_eq Xp _)).trans (by kernel_rfl)
def Mj:Env:=ET.env C Bg.1 Tryz.f135
def PT:=ET.out C
def yu(x1:Int×List ab)(x3:Int):Option ((Bool×PUnit)×PUnit):=aM Mj [1,0,1,0] (Tryz.f135.body.getD .skip) PT (V.dead::(V.box none 0 aD x1::V.dead::(V.d none 0 (Ty.int IntKind.i64) x3::dd 34 ([]))))
def mX(a0:Int×List ab):Option ((Bool×PUnit)×PUnit):=N8.ao (a0,())
def alk:List (Nat×List Nat):=[(1000002,[1,0,1,0])]
theorem Xc:okB alk (Tryz.f135.body.getD .skip) []=true:=by kernel_rfl
theorem D6(x1:Int×List ab)(x3:Int):yu x1 x3 =
 bif decide (x3<(↑(List.length x1.snd):Int))then
 (ae x1.snd x3).bind λy =>
 (mW y).bind λy =>
  bif !y.fst.fst then some ((false,()),())
  else
  (ae x1.snd x3).bind λy =>
   bif y.fst != x1.fst then some ((false,()),())else yu x1 (IntKind.i64.wrap (x3+1))
else
 (gT x1.fst 0 4).bind λy =>
 bif y.fst.fst then some ((decide ((↑(List.length x1.snd):Int)<=12),()),())else some ((false,()),()):=(aQ Xc [1,0,1,0] (by kernel_rfl) _).trans (by kernel_rfl)
theorem Tf(a0:Int×List ab):mX a0 =
 yu a0 0:=(Eq.trans (by kernel_rfl:mX a0=aC Mj (Tryz.f135.body.getD .skip) PT (aY 38 [(aD,Mode.ro)] (a0,()))) (all_eq Xc _)).trans (by kernel_rfl)
def Tt(a0:Int):Option ((aU×PUnit)×PUnit):=OE.ao (a0,())
theorem agu(a0:Int):Tt a0 =
 some (((a0,[(a0,[])]),()),()):=by kernel_rfl
def Mm:Env:=EX.env C Bb.1 Tryz.f361
def PW:=EX.out C
def yw(x1:Int×List ab)(x2:Int×List ab)(x4:Int×List ab)(x5:Int):Option ((aU×Bool×PUnit)×PUnit):=aM Mm [1,1,1,0,1,0] (Tryz.f361.body.getD .skip) PW (V.dead::(V.box none 0 aD x1::V.box none 0 aD x2::V.dead::(V.box none 0 (ak.pair lF).agg x4::V.d none 0 (Ty.int IntKind.i64) x5::dd 31 ([]))))
def rQ(a0:Int×List ab):Option ((aU×Bool×PUnit)×PUnit):=Oe.ao (a0,())
def alp:List (Nat×List Nat):=[(1000005,[1,1,1,0,1,0])]
theorem Xf:okB alp (Tryz.f361.body.getD .skip) []=true:=by kernel_rfl
theorem RN(x1:Int×List ab)(x2:Int×List ab)(x4:Int×List ab)(x5:Int):yw x1 x2 x4 x5 =
 bif decide (x5<(↑(List.length x1.snd):Int))then
 (ae x1.snd x5).bind λy =>
 (gU x4 y).bind λy =>
  bif !y.fst.snd.fst then some (((0,[]),false,()),())
  else yw x1 x2 y.fst.fst (IntKind.i64.wrap (x5+1))
else some ((x4,true,()),()):=(aQ Xf [1,1,1,0,1,0] (by kernel_rfl) _).trans (by kernel_rfl)
theorem af2(a0:Int×List ab):rQ a0 =
 (mX a0).bind λy =>
 bif !y.fst.fst then some (((0,[]),false,()),())else yw a0 (0,[]) (a0.fst,[]) 0:=(Eq.trans (by kernel_rfl:rQ a0=aC Mm (Tryz.f361.body.getD .skip) PW (aY 37 [(aD,Mode.ro)] (a0,()))) (all_eq Xf _)).trans (by kernel_rfl)
def DH:Env:=E9.env C AV.1 Tryz.f375
def DY:=E9.out C
def rC(x2:Int×List ab)(x4:Int×List ab)(x6:Int×List aa)(x8:Int×List ab)(x9:Int)(bg:Int):Option ((aU×Bool×PUnit)×PUnit):=aM DH [1,1,1,1,0,1,0,0,1,0,0,1,0] (Tryz.f375.body.getD .skip) DY (dd 2 (V.box none 0 aD x2::V.dead::(V.box none 0 aD x4::V.dead::(V.box none 0 av x6::V.dead::(V.box none 0 (ak.pair lF).agg x8::V.d none 0 (Ty.int IntKind.i64) x9::V.d none 0 (Ty.int IntKind.i64) bg::dd 81 ([]))))))
def uE(x2:Int×List ab)(x4:Int×List ab)(x6:Int×List aa)(x8:Int×List ab)(x9:Int):Option ((aU×Bool×PUnit)×PUnit):=aM DH [1,1,1,1,0,1,0] (Tryz.f375.body.getD .skip) DY (dd 2 (V.box none 0 aD x2::V.dead::(V.box none 0 aD x4::V.dead::(V.box none 0 av x6::V.dead::(V.box none 0 (ak.pair lF).agg x8::V.d none 0 (Ty.int IntKind.i64) x9::dd 82 ([]))))))
def zJ(a0:Int×List ab)(a1:Int×List aa):Option ((aU×Bool×PUnit)×PUnit):=OF.ao (a0,a1,())
def alC:List (Nat×List Nat):=[(1000006,[1,1,1,1,0,1,0]),(1000009,[1,1,1,1,0,1,0,0,1,0,0,1,0])]
theorem JR:okB alC (Tryz.f375.body.getD .skip) []=true:=by kernel_rfl
theorem Sa(x2:Int×List ab)(x4:Int×List ab)(x6:Int×List aa)(x8:Int×List ab)(x9:Int)(bg:Int):rC x2 x4 x6 x8 x9 bg =
 bif decide (bg<(↑(List.length x6.snd):Int))then
 (ae x6.snd bg).bind λy =>
 (uY y).bind λy =>
  bif decide (0<=0)&&decide (0<=bg)&&decide (bg<=(↑(List.length x6.snd):Int))then
  bif decide ((0+(List.drop (Int.toNat 0) (List.take bg.toNat x6.snd)).length)*40<=140737488355328)then
   bif decide (((List.drop (Int.toNat 0) (List.take bg.toNat x6.snd)).length+1)*40<=140737488355328)then
   (ae x2.snd x9).bind λaA =>
    (rP aA (x2.fst,List.drop (Int.toNat 0) (List.take bg.toNat x6.snd)++[y.fst.fst])).bind λy =>
    bif !y.fst.snd.fst then some (((0,[]),false,()),())
    else
     (gU x8 y.fst.fst).bind λy =>
     bif !y.fst.snd.fst then some (((0,[]),false,()),())
     else rC x2 x4 x6 y.fst.fst x9 (IntKind.i64.wrap (bg+1))
   else none
  else none
  else none
else uE x2 x4 x6 x8 (IntKind.i64.wrap (x9+1)):=(aQ JR [1,1,1,1,0,1,0,0,1,0,0,1,0] (by kernel_rfl) _).trans (by kernel_rfl)
theorem R9(x2:Int×List ab)(x4:Int×List ab)(x6:Int×List aa)(x8:Int×List ab)(x9:Int):uE x2 x4 x6 x8 x9 =
 bif decide (x9<(↑(List.length x2.snd):Int))then rC x2 x4 x6 x8 x9 0 else some ((x8,true,()),()):=(aQ JR [1,1,1,1,0,1,0] (by kernel_rfl) _).trans (by kernel_rfl)
theorem agv(a0:Int×List ab)(a1:Int×List aa):zJ a0 a1 =
 (mZ a1.fst a1.snd).bind λy =>
 (u6 y.fst.fst).bind λy =>
 bif !y.fst.snd.fst then some (((0,[]),false,()),())else uE a0 (0,[]) y.fst.fst (a0.fst,[]) 0:=(Eq.trans (by kernel_rfl:zJ a0 a1=aC DH (Tryz.f375.body.getD .skip) DY (aY 92 [(aD,Mode.ro),(av,Mode.ro)] (a0,a1,()))) (all_eq JR _)).trans (by kernel_rfl)
def Mc:Env:=EJ.env C Bc.1 Tryz.f359
def PL:=EJ.out C
def yo(x3:Int×List ab)(x4:Int×List ab)(x6:Int×List ab)(x8:Int):Option ((aU×Bool×PUnit)×PUnit):=aM Mc [1,1,1,0,1,0] (Tryz.f359.body.getD .skip) PL (dd 3 (V.box none 0 aD x3::V.box none 0 aD x4::V.dead::(V.box none 0 aD x6::V.dead::(V.d none 0 (Ty.int IntKind.i64) x8::dd 44 ([])))))
def zp(a0:Int×List ab)(a1:Int×List ab):Option ((aU×Bool×PUnit)×PUnit):=NW.ao (a0,a1,())
def alb:List (Nat×List Nat):=[(1000005,[1,1,1,0,1,0])]
theorem W5:okB alb (Tryz.f359.body.getD .skip) []=true:=by kernel_rfl
theorem Rl(x3:Int×List ab)(x4:Int×List ab)(x6:Int×List ab)(x8:Int):yo x3 x4 x6 x8 =
 bif decide (x8<(↑(List.length x3.snd):Int))then
 (ae x3.snd x8).bind λy =>
 (zJ x6 y).bind λy =>
  bif !y.fst.snd.fst then some (((0,[]),false,()),())
  else yo x3 x4 y.fst.fst (IntKind.i64.wrap (x8+1))
else some ((x6,true,()),()):=(aQ W5 [1,1,1,0,1,0] (by kernel_rfl) _).trans (by kernel_rfl)
theorem afE(a0:Int×List ab)(a1:Int×List ab):zp a0 a1 =
 (rQ a0).bind λy =>
 bif !y.fst.snd.fst then some (((0,[]),false,()),())
 else
 (mX a1).bind λaA =>
  bif !aA.fst.fst then some (((0,[]),false,()),())
  else bif a0.fst != a1.fst then some (((0,[]),false,()),())else yo a1 (0,[]) y.fst.fst 0:=(Eq.trans (by kernel_rfl:zp a0 a1=aC Mc (Tryz.f359.body.getD .skip) PL (aY 53 [(aD,Mode.ro),(aD,Mode.ro)] (a0,a1,()))) (all_eq W5 _)).trans (by kernel_rfl)
def uU(a0:Int×List ab):Option ((aU×Bool×PUnit)×PUnit):=NV.ao (a0,())
theorem afD(a0:Int×List ab):uU a0 =
 (mX a0).bind λy =>
 bif !y.fst.fst then some (((0,[]),false,()),())
 else
 (Tt a0.fst).bind λy=>(zp y.fst.fst a0).bind λy=>some ((y.fst.fst,y.fst.snd.fst,()),()):=by kernel_rfl
def DE:Env:=EV.env C AL.1 Tryz.f339
def DV:=EV.out C
def yv(x2:Int×List ab)(x3:Int×List ab)(x4:Int×List ab)(x6:Int×List ab)(x7:Int)(x8:Int):Option ((aU×Bool×PUnit)×PUnit):=aM DE [1,1,1,0,1,0,0,1,0,0,1,0] (Tryz.f339.body.getD .skip) DV (dd 2 (V.box none 0 aD x2::V.box none 0 aD x3::V.box none 0 aD x4::V.dead::(V.box none 0 (ak.pair lF).agg x6::V.d none 0 (Ty.int IntKind.i64) x7::V.d none 0 (Ty.int IntKind.i64) x8::dd 65 ([]))))
def ux(x2:Int×List ab)(x3:Int×List ab)(x4:Int×List ab)(x6:Int×List ab)(x7:Int):Option ((aU×Bool×PUnit)×PUnit):=aM DE [1,1,1,0,1,0] (Tryz.f339.body.getD .skip) DV (dd 2 (V.box none 0 aD x2::V.box none 0 aD x3::V.box none 0 aD x4::V.dead::(V.box none 0 (ak.pair lF).agg x6::V.d none 0 (Ty.int IntKind.i64) x7::dd 66 ([]))))
def zu(a0:Int×List ab)(a1:Int×List ab):Option ((aU×Bool×PUnit)×PUnit):=Oc.ao (a0,a1,())
def aln:List (Nat×List Nat):=[(1000005,[1,1,1,0,1,0]),(1000008,[1,1,1,0,1,0,0,1,0,0,1,0])]
theorem JO:okB aln (Tryz.f339.body.getD .skip) []=true:=by kernel_rfl
theorem RL(x2:Int×List ab)(x3:Int×List ab)(x4:Int×List ab)(x6:Int×List ab)(x7:Int)(x8:Int):yv x2 x3 x4 x6 x7 x8 =
 bif decide (x8<(↑(List.length x3.snd):Int))then
 (ae x2.snd x7).bind λy =>
 (ae x3.snd x8).bind λaA =>
  (rP y aA).bind λy =>
  bif !y.fst.snd.fst then some (((0,[]),false,()),())
  else
   (gU x6 y.fst.fst).bind λy =>
   bif !y.fst.snd.fst then some (((0,[]),false,()),())
   else yv x2 x3 x4 y.fst.fst x7 (IntKind.i64.wrap (x8+1))
else ux x2 x3 x4 x6 (IntKind.i64.wrap (x7+1)):=(aQ JO [1,1,1,0,1,0,0,1,0,0,1,0] (by kernel_rfl) _).trans (by kernel_rfl)
theorem RK(x2:Int×List ab)(x3:Int×List ab)(x4:Int×List ab)(x6:Int×List ab)(x7:Int):ux x2 x3 x4 x6 x7 =
 bif decide (x7<(↑(List.length x2.snd):Int))then yv x2 x3 x4 x6 x7 0 else some ((x6,true,()),()):=(aQ JO [1,1,1,0,1,0] (by kernel_rfl) _).trans (by kernel_rfl)
theorem afY(a0:Int×List ab)(a1:Int×List ab):zu a0 a1 =
 (mX a0).bind λy =>
 bif !y.fst.fst then some (((0,[]),false,()),())
 else
 (mX a1).bind λy =>
  bif !y.fst.fst then some (((0,[]),false,()),())
  else bif a0.fst != a1.fst then some (((0,[]),false,()),())else ux a0 a1 (0,[]) (a0.fst,[]) 0:=(Eq.trans (by kernel_rfl:zu a0 a1=aC DE (Tryz.f339.body.getD .skip) DV (aY 74 [(aD,Mode.ro),(aD,Mode.ro)] (a0,a1,()))) (all_eq JO _)).trans (by kernel_rfl)
def F5(a0:Int×List ab)(a1:Int×List ab):Option ((aU×Bool×PUnit)×PUnit):=Oi.ao (a0,a1,())
theorem af8(a0:Int×List ab)(a1:Int×List ab):F5 a0 a1 =
 (rQ a0).bind λy =>
 (rQ a1).bind λaA =>
 bif !y.fst.snd.fst then some (((0,[]),false,()),())
 else
  bif !aA.fst.snd.fst then some (((0,[]),false,()),())
  else
  bif a0.fst != a1.fst then some (((0,[]),false,()),())
  else
   bif
    decide
    (IntKind.i64.wrap ((↑(List.length y.fst.fst.snd):Int)+(↑(List.length aA.fst.fst.snd):Int))>12)then
   some (((0,[]),false,()),())
   else
   bif decide ((0+List.length y.fst.fst.snd)*32<=140737488355328)then
    bif decide ((List.length y.fst.fst.snd+List.length aA.fst.fst.snd)*32<=140737488355328)then
    some (((a0.fst,y.fst.fst.snd++aA.fst.fst.snd),true,()),())
    else none
   else none:=by kernel_rfl
def Md:Env:=EK.env C AY.1 Tryz.f341
def PM:=EK.out C
def yp(x1:Int)(x2:Int×List ab)(x4:Int×List ab)(x6:Int×List ab)(x7:Int):Option ((aU×Bool×PUnit)×PUnit):=aM Md [1,1,1,0,1,0] (Tryz.f341.body.getD .skip) PM (V.dead::(V.d none 0 ak x1::V.box none 0 aD x2::V.dead::(V.box none 0 aD x4::V.dead::(V.box none 0 (ak.pair lF).agg x6::V.d none 0 (Ty.int IntKind.i64) x7::dd 54 ([])))))
def rL(a0:Int×List ab)(a1:Int):Option ((aU×Bool×PUnit)×PUnit):=NX.ao (a0,a1,())
def alc:List (Nat×List Nat):=[(1000005,[1,1,1,0,1,0])]
theorem W6:okB alc (Tryz.f341.body.getD .skip) []=true:=by kernel_rfl
theorem Rn(x1:Int)(x2:Int×List ab)(x4:Int×List ab)(x6:Int×List ab)(x7:Int):yp x1 x2 x4 x6 x7 =
 bif decide (x7<(↑(List.length x2.snd):Int))then
 (ae x2.snd x7).bind λy =>
 (mZ x2.fst y.snd).bind λy =>
  (u5 y.fst.fst x1).bind λy =>
  bif !y.fst.snd.fst then some (((0,[]),false,()),())
  else
   (gU x6 y.fst.fst).bind λy =>
   bif !y.fst.snd.fst then some (((0,[]),false,()),())
   else yp x1 x2 x4 y.fst.fst (IntKind.i64.wrap (x7+1))
else some ((x6,true,()),()):=(aQ W6 [1,1,1,0,1,0] (by kernel_rfl) _).trans (by kernel_rfl)
theorem S9(a0:Int×List ab)(a1:Int):rL a0 a1 =
 (mX a0).bind λy =>
 bif !y.fst.fst then some (((0,[]),false,()),())
 else
 (gT a1 0 (IntKind.i64.wrap (a0.fst - 1))).bind λy =>
  bif !y.fst.fst then some (((0,[]),false,()),())else yp a1 a0 (0,[]) (a0.fst,[]) 0:=(Eq.trans (by kernel_rfl:rL a0 a1=aC Md (Tryz.f341.body.getD .skip) PM (aY 62 [(aD,Mode.ro),(ak,Mode.ro)] (a0,a1,()))) (all_eq W6 _)).trans (by kernel_rfl)
def zM(a0:List Rel)(a1:Int×aa×ByteArray×ByteArray×List Int×Int×Int×Int)(a2:List aU):Option ((aU×Bool×PUnit) ×
 List aU×PUnit):=OK.ao (a0,a1,a2,())
theorem agD(a0:List Rel)(a1:Int×aa×ByteArray×ByteArray×List Int×Int×Int×Int)(a2:List aU):zM a0 a1 a2 =
 bif a1.fst==0 then (gU (4,[]) (4,[a1.snd.fst])).bind λy=>some ((y.fst.fst,y.fst.snd.fst,()),a2,())
else
 bif a1.fst==1 then (F9 a0 a1).bind λy=>some ((y.fst.fst,y.fst.snd.fst,()),a2,())
 else
 bif a1.fst==2 then
  (ae a2 a1.snd.snd.snd.snd.snd.snd.fst).bind λy =>
  (ae a2 a1.snd.snd.snd.snd.snd.snd.fst).bind λy =>
   (uU y).bind λy=>some ((y.fst.fst,y.fst.snd.fst,()),a2,())
 else
  bif a1.fst==3 then
  (ae a2 a1.snd.snd.snd.snd.snd.snd.fst).bind λy =>
   (ae a2 a1.snd.snd.snd.snd.snd.snd.fst).bind λy =>
   (ae a2 a1.snd.snd.snd.snd.snd.snd.snd).bind λaA =>
    (ae a2 a1.snd.snd.snd.snd.snd.snd.snd).bind λbU =>
    (zu y bU).bind λy=>some ((y.fst.fst,y.fst.snd.fst,()),a2,())
  else
  bif a1.fst==4 then
   (ae a2 a1.snd.snd.snd.snd.snd.snd.fst).bind λy =>
   (ae a2 a1.snd.snd.snd.snd.snd.snd.fst).bind λy =>
    (ae a2 a1.snd.snd.snd.snd.snd.snd.snd).bind λaA =>
    (ae a2 a1.snd.snd.snd.snd.snd.snd.snd).bind λbU =>
     (F5 y bU).bind λy=>some ((y.fst.fst,y.fst.snd.fst,()),a2,())
  else
   bif a1.fst==5 then
   (ae a2 a1.snd.snd.snd.snd.snd.snd.fst).bind λy =>
    (ae a2 a1.snd.snd.snd.snd.snd.snd.fst).bind λy =>
    (rL y a1.snd.snd.snd.snd.snd.fst).bind λy=>some ((y.fst.fst,y.fst.snd.fst,()),a2,())
   else
   (ae a2 a1.snd.snd.snd.snd.snd.snd.fst).bind λy =>
    (ae a2 a1.snd.snd.snd.snd.snd.snd.fst).bind λy =>
    (uU y).bind λy =>
     (rL y.fst.fst a1.snd.snd.snd.snd.snd.fst).bind λaA =>
     bif !y.fst.snd.fst then some (((0,[]),false,()),a2,())
     else
      bif !aA.fst.snd.fst then some (((0,[]),false,()),a2,())
      else (uU aA.fst.fst).bind λy=>some ((y.fst.fst,y.fst.snd.fst,()),a2,()):=by kernel_rfl
def Mv:Env:=Fb.env C Bh.1 Tryz.f252
def P5:=Fb.out C
def uF(x0:List Rel)(x1:List al)(x6:List aU)(x7:Int):Option ((List aU×Bool×PUnit)×PUnit):=aM Mv [1,1,0,1,0] (Tryz.f252.body.getD .skip) P5 (V.d none 0 bz x0::V.d none 0 bS x1::dd 4 (V.d none 1 (Ty.slice 37 aD) x6::V.d none 0 (Ty.int IntKind.i64) x7::dd 27 ([])))
def F8(a0:List Rel)(a1:List al):Option ((List aU×Bool×PUnit)×PUnit):=OI.ao (a0,a1,())
def alE:List (Nat×List Nat):=[(1000003,[1,1,0,1,0])]
theorem Xo:okB alE (Tryz.f252.body.getD .skip) []=true:=by kernel_rfl
theorem Sc(x0:List Rel)(x1:List al)(x6:List aU)(x7:Int):uF x0 x1 x6 x7 =
 bif decide (x7<(↑x1.length:Int))then
 (ae x1 x7).bind λy =>
 (zM x0 y x6).bind λy =>
  bif !y.fst.snd.fst then some (([],false,()),())
  else
  bif decide ((List.length y.snd.fst+1)*32<=140737488355328)then
   uF x0 x1 (y.snd.fst++[y.fst.fst]) (IntKind.i64.wrap (x7+1))
  else none
else some ((x6,true,()),()):=(aQ Xo [1,1,0,1,0] (by kernel_rfl) _).trans (by kernel_rfl)
theorem agB(a0:List Rel)(a1:List al):F8 a0 a1 =
 uF a0 a1 [] 0:=(Eq.trans (by kernel_rfl:F8 a0 a1=aC Mv (Tryz.f252.body.getD .skip) P5 (aY 35 [(bz,Mode.ro),(bS,Mode.ro)] (a0,a1,()))) (all_eq Xo _)).trans (by kernel_rfl)
def FY(a0:List Rel)(a1:List al):Option ((aU×Bool×PUnit)×PUnit):=NY.ao (a0,a1,())
theorem afG(a0:List Rel)(a1:List al):FY a0 a1 =
 (uW a0 a1).bind λy =>
 bif !y.fst.fst then some (((0,[]),false,()),())
 else
 (F8 a0 a1).bind λy =>
  bif !y.fst.snd.fst then some (((0,[]),false,()),())
  else
  (ae y.fst.fst (IntKind.i64.wrap ((↑(List.length y.fst.fst):Int) - 1))).bind λy=>some ((y,true,()),()):=by kernel_rfl
def F4(a0:List Rel)(a1:List al):Option ((Bool×Bool×PUnit)×PUnit):=Oh.ao (a0,a1,())
theorem af6(a0:List Rel)(a1:List al):F4 a0 a1 =
 (F1 a0 a1).bind λy =>
 bif !y.fst.fst then some ((false,false,()),())
 else
 (FY a0 a1).bind λy =>
  bif y.fst.snd.fst then some ((decide ((↑(List.length y.fst.fst.snd):Int)>0),y.fst.snd.fst,()),())
  else some ((false,y.fst.snd.fst,()),()):=by kernel_rfl
def LZ:Env:=Ez.env C AX.1 Tryz.f269
def PD:=Ez.out C
def uq(x0:ByteArray)(x1:Int)(x2:Int)(x7:Int):Option ((Bool×PUnit)×PUnit):=aM LZ [1,1,0,1,0] (Tryz.f269.body.getD .skip) PD (V.d none 0 bX x0::V.d none 0 iZ x1::V.d none 0 iZ x2::dd 4 (V.d none 0 (Ty.int IntKind.i64) x7::dd 26 ([])))
def uT(a0:ByteArray)(a1:Int)(a2:Int):Option ((Bool×PUnit)×PUnit):=NC.ao (a0,a1,a2,())
def ak1:List (Nat×List Nat):=[(1000004,[1,1,0,1,0])]
theorem WX:okB ak1 (Tryz.f269.body.getD .skip) []=true:=by kernel_rfl
theorem QX(x0:ByteArray)(x1:Int)(x2:Int)(x7:Int):uq x0 x1 x2 x7 =
 bif decide (x7<(↑x0.size:Int))then
 (nr x0 x7).bind λy =>
 bif decide (y<x1)then some ((false,()),())
 else
  (nr x0 x7).bind λy =>
  bif decide (y>x2)then some ((false,()),())else uq x0 x1 x2 (IntKind.i64.wrap (x7+1))
else some ((true,()),()):=(aQ WX [1,1,0,1,0] (by kernel_rfl) _).trans (by kernel_rfl)
theorem afg(a0:ByteArray)(a1:Int)(a2:Int):uT a0 a1 a2 =
 bif decide ((↑a0.size:Int)<1)then some ((false,()),())
else bif decide ((↑a0.size:Int)>6)then some ((false,()),())else uq a0 a1 a2 0:=(Eq.trans (by kernel_rfl:uT a0 a1 a2=aC LZ (Tryz.f269.body.getD .skip) PD (aY 34 [(bX,Mode.ro),(iZ,Mode.ro),(iZ,Mode.ro)] (a0,a1,a2,()))) (all_eq WX _)).trans (by kernel_rfl)
def FM(a0:ByteArray):Option ((Bool×PUnit)×PUnit):=NA.ao (a0,())
theorem afd(a0:ByteArray):FM a0 =
 (uT a0 65 90).bind λy=>some ((y.fst.fst,()),()):=by kernel_rfl
def zi(a0:ByteArray):Option ((Bool×PUnit)×PUnit):=Nz.ao (a0,())
theorem afc(a0:ByteArray):zi a0 =
 (uT a0 97 122).bind λy=>some ((y.fst.fst,()),()):=by kernel_rfl
def za(a0:Int):Option ((Bool×PUnit)×PUnit):=M4.ao (a0,())
theorem aeC(a0:Int):za a0 =
 bif decide (a0 >= -400000000)then some ((decide (a0<=400000000),()),())else some ((false,()),()):=by kernel_rfl
def rG(a0:Int):Option ((Int×PUnit)×PUnit):=Nk.ao (a0,())
theorem FI(a0:Int):rG a0 =
 bif decide (a0<0)then some ((IntKind.i64.wrap (0 - a0),()),())else some ((a0,()),()):=by kernel_rfl
def LV:Env:=Et.env C Au.1 Tryz.f286
def Pz:=Et.out C
def yi(x0:Int)(x1:Int):Option ((Int×PUnit)×PUnit):=aM LV [1,1,0,0] (Tryz.f286.body.getD .skip) Pz (V.d none 0 ak x0::V.d none 0 ak x1::dd 14 ([]))
def pv(a0:Int)(a1:Int):Option ((Int×PUnit)×PUnit):=Nn.ao (a0,a1,())
def akV:List (Nat×List Nat):=[(1000002,[1,1,0,0])]
theorem WT:okB akV (Tryz.f286.body.getD .skip) []=true:=by kernel_rfl
theorem acV(x0:Int)(x1:Int):yi x0 x1 =
 bif x1 != 0 then bif x1 != 0 then yi x1 (x0.tmod x1)else none else some ((x0,()),()):=(aQ WT [1,1,0,0] (by kernel_rfl) _).trans (by kernel_rfl)
theorem SO(a0:Int)(a1:Int):pv a0 a1 =
 (rG a0).bind λy=>(rG a1).bind λaA=>yi y.fst.fst aA.fst.fst:=(Eq.trans (by kernel_rfl:pv a0 a1=aC LV (Tryz.f286.body.getD .skip) Pz (aY 16 [(ak,Mode.ro),(ak,Mode.ro)] (a0,a1,()))) (all_eq WT _)).trans (by kernel_rfl)
def LY:Env:=Ew.env C Aw.1 Tryz.f287
def PC:=Ew.out C
def um(x0:List Int)(x3:Int)(x6:List Int)(x7:Int)(x8:Int):Option ((Int×PUnit)×PUnit):=aM LY [1,1,0,1,0] (Tryz.f287.body.getD .skip) PC (V.d none 0 bl x0::dd 2 (V.d none 0 (Ty.int IntKind.i64) x3::dd 2 (V.d none 0 bl x6::V.d none 0 (Ty.int IntKind.i64) x7::V.d none 0 (Ty.int IntKind.i64) x8::dd 8 ([]))))
def mS(a0:List Int):Option ((Int×PUnit)×PUnit):=Nt.ao (a0,())
def akY:List (Nat×List Nat):=[(1000003,[1,1,0,1,0])]
theorem WW:okB akY (Tryz.f287.body.getD .skip) []=true:=by kernel_rfl
theorem yk(x0:List Int)(x3:Int)(x6:List Int)(x7:Int)(x8:Int):um x0 x3 x6 x7 x8 =
 bif decide (x8<x7)then
 (ae x6 x8).bind λy =>
 (pv x3 y).bind λy=>um x0 y.fst.fst x6 x7 (IntKind.i64.wrap (x8+1))
else some ((x3,()),()):=(aQ WW [1,1,0,1,0] (by kernel_rfl) _).trans (by kernel_rfl)
theorem SS(a0:List Int):mS a0 =
 um a0 0 a0 (↑a0.length:Int) 0:=(Eq.trans (by kernel_rfl:mS a0=aC LY (Tryz.f287.body.getD .skip) PC (aY 17 [(bl,Mode.ro)] (a0,()))) (all_eq WW _)).trans (by kernel_rfl)
def LM:Env:=Eh.env C Ay.1 Tryz.f206
def Pr:=Eh.out C
def q9(x1:aa)(cb:List Int)(dw:Int)(bR:Int):Option ((Bool×PUnit)×PUnit):=aM LM [1,1,0,1,0] (Tryz.f206.body.getD .skip) Pr (V.dead::(V.box none 0 aJ x1::dd 14 (V.d none 0 bl cb::V.d none 0 (Ty.int IntKind.i64) dw::V.d none 0 (Ty.int IntKind.i64) bR::dd 14 ([]))))
def kO(a0:aa):Option ((Bool×PUnit)×PUnit):=MY.ao (a0,())
def akK:List (Nat×List Nat):=[(1000004,[1,1,0,1,0])]
theorem WK:okB akK (Tryz.f206.body.getD .skip) []=true:=by kernel_rfl
theorem Qx(x1:aa)(cb:List Int)(dw:Int)(bR:Int):q9 x1 cb dw bR =
 bif decide (bR<dw)then
 (ae cb bR).bind λy =>
 (za y).bind λy =>
  bif !y.fst.fst then some ((false,()),())else q9 x1 cb dw (IntKind.i64.wrap (bR+1))
else
 (mS x1.fst).bind λy =>
 (pv y.fst.fst x1.snd.fst).bind λy=>some ((decide (y.fst.fst<=1),()),()):=(aQ WK [1,1,0,1,0] (by kernel_rfl) _).trans (by kernel_rfl)
theorem aew(a0:aa):kO a0 =
 bif decide ((↑(List.length a0.fst):Int)>4)then some ((false,()),())
else
 (za a0.snd.fst).bind λy =>
 bif !y.fst.fst then some ((false,()),())else q9 a0 a0.fst (↑(List.length a0.fst):Int) 0:=(Eq.trans (by kernel_rfl:kO a0=aC LM (Tryz.f206.body.getD .skip) Pr (aY 33 [(aJ,Mode.ro)] (a0,()))) (all_eq WK _)).trans (by kernel_rfl)
def LN:Env:=Ei.env C Al.1 Tryz.f97
def Ps:=Ei.out C
def ub(x1:Int×List aa)(cC:List aa)(dx:Int)(da:Int):Option ((Bool×PUnit)×PUnit):=aM LN [1,1,0,1,0] (Tryz.f97.body.getD .skip) Ps (V.dead::(V.box none 0 av x1::dd 18 (V.d none 0 (Ty.slice 153 aJ) cC::V.d none 0 (Ty.int IntKind.i64) dx::V.d none 0 (Ty.int IntKind.i64) da::dd 15 ([]))))
def kP(a0:Int×List aa):Option ((Bool×PUnit)×PUnit):=MZ.ao (a0,())
def akL:List (Nat×List Nat):=[(1000004,[1,1,0,1,0])]
theorem WL:okB akL (Tryz.f97.body.getD .skip) []=true:=by kernel_rfl
theorem Qy(x1:Int×List aa)(cC:List aa)(dx:Int)(da:Int):ub x1 cC dx da =
 bif decide (da<dx)then
 (ae cC da).bind λy =>
 (kO y).bind λaA =>
  bif !aA.fst.fst then some ((false,()),())
  else
  bif (↑(List.length y.fst):Int) != x1.fst then some ((false,()),())
  else ub x1 cC dx (IntKind.i64.wrap (da+1))
else some ((true,()),()):=(aQ WL [1,1,0,1,0] (by kernel_rfl) _).trans (by kernel_rfl)
theorem aex(a0:Int×List aa):kP a0 =
 bif decide (a0.fst<0)then some ((false,()),())
else
 bif decide (a0.fst>4)then some ((false,()),())
 else
 bif decide ((↑(List.length a0.snd):Int)>16)then some ((false,()),())
 else ub a0 a0.snd (↑(List.length a0.snd):Int) 0:=(Eq.trans (by kernel_rfl:kP a0=aC LN (Tryz.f97.body.getD .skip) Ps (aY 38 [(av,Mode.ro)] (a0,()))) (all_eq WL _)).trans (by kernel_rfl)
def LQ:Env:=Em.env C An.1 Tryz.f260
def Pv:=Em.out C
def uf(x1:ByteArray×Int×List Rw)(bN:List Rw)(eD:Int)(cM:Int):Option ((Bool×PUnit)×PUnit):=aM LQ [1,1,0,1,0] (Tryz.f260.body.getD .skip) Pv (V.dead::(V.box none 0 fN x1::dd 24 (V.d none 0 (Ty.slice 304 og) bN::V.d none 0 (Ty.int IntKind.i64) eD::V.d none 0 (Ty.int IntKind.i64) cM::dd 22 ([]))))
def uK(a0:ByteArray×Int×List Rw):Option ((Bool×PUnit)×PUnit):=M6.ao (a0,())
def akP:List (Nat×List Nat):=[(1000004,[1,1,0,1,0])]
theorem WO:okB akP (Tryz.f260.body.getD .skip) []=true:=by kernel_rfl
theorem QE(x1:ByteArray×Int×List Rw)(bN:List Rw)(eD:Int)(cM:Int):uf x1 bN eD cM =
 bif decide (cM<eD)then
 (ae bN cM).bind λy =>
 (zi y.fst).bind λaA =>
  bif !aA.fst.fst then some ((false,()),())
  else
  (kP y.snd).bind λbU =>
   bif !bU.fst.fst then some ((false,()),())
   else
   bif y.snd.fst != x1.snd.fst then some ((false,()),())
   else uf x1 bN eD (IntKind.i64.wrap (cM+1))
else some ((true,()),()):=(aQ WO [1,1,0,1,0] (by kernel_rfl) _).trans (by kernel_rfl)
theorem aeE(a0:ByteArray×Int×List Rw):uK a0 =
 (FM a0.fst).bind λy =>
 bif !y.fst.fst then some ((false,()),())
 else
 bif decide (a0.snd.fst<0)then some ((false,()),())
 else
  bif decide (a0.snd.fst>4)then some ((false,()),())
  else
  bif decide ((↑(List.length a0.snd.snd):Int)>8)then some ((false,()),())
  else uf a0 a0.snd.snd (↑(List.length a0.snd.snd):Int) 0:=(Eq.trans (by kernel_rfl:uK a0=aC LQ (Tryz.f260.body.getD .skip) Pv (aY 51 [(fN,Mode.ro)] (a0,()))) (all_eq WO _)).trans (by kernel_rfl)
def LK:Env:=Ef.env C Ao.1 Tryz.f261
def Pp:=Ef.out C
def yd(x0:List Rel)(x1:ByteArray)(x7:List Rel)(x8:Int)(x9:Int):Option ((Int×PUnit)×PUnit):=aM LK [1,0,1,0] (Tryz.f261.body.getD .skip) Pp (V.d none 0 bz x0::V.d none 0 bX x1::dd 5 (V.d none 0 bz x7::V.d none 0 (Ty.int IntKind.i64) x8::V.d none 0 (Ty.int IntKind.i64) x9::dd 10 ([])))
def rE(a0:List Rel)(a1:ByteArray):Option ((Int×PUnit)×PUnit):=MV.ao (a0,a1,())
def akI:List (Nat×List Nat):=[(1000002,[1,0,1,0])]
theorem WI:okB akI (Tryz.f261.body.getD .skip) []=true:=by kernel_rfl
theorem Qv(x0:List Rel)(x1:ByteArray)(x7:List Rel)(x8:Int)(x9:Int):yd x0 x1 x7 x8 x9 =
 bif decide (x9<x8)then
 (ae x7 x9).bind λy =>
 bif ByteArray.toList y.fst==x1.toList then some ((x9,()),())
 else yd x0 x1 x7 x8 (IntKind.i64.wrap (x9+1))
else some ((-1,()),()):=(aQ WI [1,0,1,0] (by kernel_rfl) _).trans (by kernel_rfl)
theorem aer(a0:List Rel)(a1:ByteArray):rE a0 a1 =
 yd a0 a1 a0 (↑a0.length:Int) 0:=(Eq.trans (by kernel_rfl:rE a0 a1=aC LK (Tryz.f261.body.getD .skip) Pp (aY 20 [(bz,Mode.ro),(bX,Mode.ro)] (a0,a1,()))) (all_eq WI _)).trans (by kernel_rfl)
def LO:Env:=Ej.env C Aj.1 Tryz.f163
def Pt:=Ej.out C
def uc(x0:List Rel)(x8:List Rel)(x9:Int)(bg:Int):Option ((Bool×PUnit)×PUnit):=aM LO [1,1,0,1,0] (Tryz.f163.body.getD .skip) Pt (V.d none 0 bz x0::dd 7 (V.d none 0 bz x8::V.d none 0 (Ty.int IntKind.i64) x9::V.d none 0 (Ty.int IntKind.i64) bg::dd 16 ([])))
def y7(a0:List Rel):Option ((Bool×PUnit)×PUnit):=M0.ao (a0,())
def akM:List (Nat×List Nat):=[(1000004,[1,1,0,1,0])]
theorem WM:okB akM (Tryz.f163.body.getD .skip) []=true:=by kernel_rfl
theorem Qz(x0:List Rel)(x8:List Rel)(x9:Int)(bg:Int):uc x0 x8 x9 bg =
 bif decide (bg<x9)then
 (ae x8 bg).bind λy =>
 (uK y).bind λaA =>
  bif !aA.fst.fst then some ((false,()),())
  else
  (rE x0 y.fst).bind λy =>
   bif y.fst.fst != bg then some ((false,()),())else uc x0 x8 x9 (IntKind.i64.wrap (bg+1))
else some ((true,()),()):=(aQ WM [1,1,0,1,0] (by kernel_rfl) _).trans (by kernel_rfl)
theorem aey(a0:List Rel):y7 a0 =
 bif decide ((↑a0.length:Int)>6)then some ((false,()),())else uc a0 a0 (↑a0.length:Int) 0:=(Eq.trans (by kernel_rfl:y7 a0=aC LO (Tryz.f163.body.getD .skip) Pt (aY 27 [(bz,Mode.ro)] (a0,()))) (all_eq WM _)).trans (by kernel_rfl)
def FO(a0:aa):Option ((Bool×PUnit)×PUnit):=ND.ao (a0,())
theorem afh(a0:aa):FO a0 =
 bif (↑(List.length a0.fst):Int)==0 then
 bif a0.snd.fst==0 then some ((!a0.snd.snd,()),())else some ((false,()),())
else some ((false,()),()):=by kernel_rfl
def uS(a0:Int):Option ((Bool×PUnit)×PUnit):=NB.ao (a0,())
theorem aff(a0:Int):uS a0 =
 bif decide (a0>=0)then some ((decide (a0<4),()),())else some ((false,()),()):=by kernel_rfl
def qW:Env:=Ey.env C AA.1 Tryz.f323
def q6:=Ey.out C
def yl(x3:Int×aa×ByteArray×ByteArray×List Int×Int×Int×Int)(xG:List Int)(xH:Int)(tV:Int):Option ((Bool×PUnit)×PUnit):=aM qW [1,1,1,0,1,0,1,1,1,0,1,1,0,1,0] (Tryz.f323.body.getD .skip) q6 (dd 3 (V.box none 0 c7 x3::dd 87 (V.d none 0 bl xG::V.d none 0 (Ty.int IntKind.i64) xH::V.d none 0 (Ty.int IntKind.i64) tV::dd 16 ([]))))
def xV(x3:Int×aa×ByteArray×ByteArray×List Int×Int×Int×Int):Option ((Bool×PUnit)×PUnit):=gp qW [1,1,1,0,1,0,1,1,1,0,1,1] (Tryz.f323.body.getD .skip) q6 (dd 3 (V.box none 0 c7 x3::dd 106 ([])))
def DN(x3:Int×aa×ByteArray×ByteArray×List Int×Int×Int×Int)(Dt:Bool):Option ((Bool×PUnit)×PUnit):=gp qW [1,1,1,0,1,0,1,1,1,1,1] (Tryz.f323.body.getD .skip) q6 (dd 3 (V.box none 0 c7 x3::dd 97 (V.d none 0 Ty.bool Dt::dd 8 ([]))))
def xW(x0:List Rel)(x3:Int×aa×ByteArray×ByteArray×List Int×Int×Int×Int):Option ((Bool×PUnit)×PUnit):=gp qW [1,1,1] (Tryz.f323.body.getD .skip) q6 (V.d none 0 bz x0::dd 2 (V.box none 0 c7 x3::dd 106 ([])))
def DO(x0:List Rel)(x3:Int×aa×ByteArray×ByteArray×List Int×Int×Int×Int):Option ((Bool×PUnit)×PUnit):=gp qW [1,1] (Tryz.f323.body.getD .skip) q6 (V.d none 0 bz x0::dd 2 (V.box none 0 c7 x3::dd 106 ([])))
def zg(a0:List Rel)(a1:Int×aa×ByteArray×ByteArray×List Int×Int×Int×Int):Option ((Bool×PUnit)×PUnit):=Nv.ao (a0,a1,())
def akZ:List (Nat×List Nat):=[(2000003,[1,1]),(2000005,[1,1,1]),(2000012,[1,1,1,0,1,0,1,1,1,0,1,1]),(1000013,[1,1,1,0,1,0,1,1,1,0,1,1,0,1,0]),(2000021,[1,1,1,0,1,0,1,1,1,1,1])]
theorem sX:okB akZ (Tryz.f323.body.getD .skip) []=true:=by kernel_rfl
theorem QT(x3:Int×aa×ByteArray×ByteArray×List Int×Int×Int×Int)(xG:List Int)(xH:Int)(tV:Int):yl x3 xG xH tV =
 bif decide (tV<xH)then
 (ae xG tV).bind λy =>
 (uS y).bind λy =>
  bif !y.fst.fst then some ((false,()),())else yl x3 xG xH (IntKind.i64.wrap (tV+1))
else some ((true,()),()):=(aQ sX [1,1,1,0,1,0,1,1,1,0,1,1,0,1,0] (by kernel_rfl) _).trans (by kernel_rfl)
theorem acA(x3:Int×aa×ByteArray×ByteArray×List Int×Int×Int×Int):xV x3 =
 yl x3 x3.snd.snd.snd.snd.fst (↑(List.length x3.snd.snd.snd.snd.fst):Int) 0:=(join_eq sX [1,1,1,0,1,0,1,1,1,0,1,1] _).trans (by kernel_rfl)
theorem Pk(x3:Int×aa×ByteArray×ByteArray×List Int×Int×Int×Int)(Dt:Bool):DN x3 Dt =
 bif Dt then (uS x3.snd.snd.snd.snd.snd.fst).bind λy=>some ((y.fst.fst,()),())
else some ((x3.snd.snd.snd.snd.snd.fst==0,()),()):=(join_eq sX [1,1,1,0,1,0,1,1,1,1,1] _).trans (by kernel_rfl)
theorem acD(x0:List Rel)(x3:Int×aa×ByteArray×ByteArray×List Int×Int×Int×Int):xW x0 x3 =
 bif x3.fst==0 then
 bif x3.snd.snd.snd.snd.snd.fst==0 then
 (kO x3.snd.fst).bind λy =>
  bif y.fst.fst then some (((↑(List.length x3.snd.fst.fst):Int)==4,()),())else some ((false,()),())
 else some ((false,()),())
else
 bif x3.fst==1 then
 (rE x0 x3.snd.snd.fst).bind λy =>
  bif x3.snd.snd.snd.snd.snd.fst != 0 then some ((false,()),())
  else
  bif decide (y.fst.fst<0)then some ((false,()),())
  else
   (ae x0 y.fst.fst).bind λy =>
   bif y.snd.fst != (↑(List.length x3.snd.snd.snd.snd.fst):Int)then some ((false,()),())
   else
    bif !ByteArray.toList x3.snd.snd.snd.fst==(ByteArray.mk #[]).toList then
    (zi x3.snd.snd.snd.fst).bind λy=>bif !y.fst.fst then some ((false,()),())else xV x3
    else xV x3
 else bif x3.fst==5 then DN x3 true else DN x3 (x3.fst==6):=(join_eq sX [1,1,1] _).trans (by kernel_rfl)
theorem acC(x0:List Rel)(x3:Int×aa×ByteArray×ByteArray×List Int×Int×Int×Int):DO x0 x3 =
 bif x3.fst != 1 then
 bif !ByteArray.toList x3.snd.snd.fst==(ByteArray.mk #[]).toList then some ((false,()),())
 else
 bif !ByteArray.toList x3.snd.snd.snd.fst==(ByteArray.mk #[]).toList then some ((false,()),())
 else
  bif decide ((↑(List.length x3.snd.snd.snd.snd.fst):Int)>0)then some ((false,()),())else xW x0 x3
else xW x0 x3:=(join_eq sX [1,1] _).trans (by kernel_rfl)
theorem ae6(a0:List Rel)(a1:Int×aa×ByteArray×ByteArray×List Int×Int×Int×Int):zg a0 a1 =
 bif a1.fst != 0 then
 (FO a1.snd.fst).bind λy=>bif !y.fst.fst then some ((false,()),())else DO a0 a1
else DO a0 a1:=(Eq.trans (by kernel_rfl:zg a0 a1=aC qW (Tryz.f323.body.getD .skip) q6 (aY 110 [(bz,Mode.ro),(c7,Mode.ro)] (a0,a1,()))) (all_eq sX _)).trans (by kernel_rfl)
def FU(a0:Int):Option ((Int×PUnit)×PUnit):=NN.ao (a0,())
theorem afs(a0:Int):FU a0 =
 bif a0==0 then some ((0,()),())
else
 bif a0==1 then some ((0,()),())
 else
 bif a0==2 then some ((1,()),())
 else
  bif a0==5 then some ((1,()),())
  else
  bif a0==6 then some ((1,()),())
  else bif a0==3 then some ((2,()),())else bif a0==4 then some ((2,()),())else some ((-1,()),()):=by kernel_rfl
def Dx:Env:=Ek.env C AF.1 Tryz.f279
def DQ:=Ek.out C
def xU(x0:List Rel)(x1:List al)(x5:List Int)(ga:List al)(dy:Int)(bN:Int):Option ((Bool×PUnit)×PUnit):=gp Dx [1,1,1,0,1,0,0,1,1,1] (Tryz.f279.body.getD .skip) DQ (V.d none 0 bz x0::V.d none 0 bS x1::dd 3 (V.d none (ak.depth+1) (Ty.slice 3 ak) x5::dd 18 (V.d none 0 bS ga::V.d none 0 (Ty.int IntKind.i64) dy::V.d none 0 (Ty.int IntKind.i64) bN::dd 95 ([]))))
def ud(x0:List Rel)(x1:List al)(x5:List Int)(ga:List al)(dy:Int)(bN:Int):Option ((Bool×PUnit)×PUnit):=aM Dx [1,1,1,0,1,0] (Tryz.f279.body.getD .skip) DQ (V.d none 0 bz x0::V.d none 0 bS x1::dd 3 (V.d none (ak.depth+1) (Ty.slice 3 ak) x5::dd 18 (V.d none 0 bS ga::V.d none 0 (Ty.int IntKind.i64) dy::V.d none 0 (Ty.int IntKind.i64) bN::dd 95 ([]))))
def uJ(a0:List Rel)(a1:List al):Option ((Bool×PUnit)×PUnit):=M3.ao (a0,a1,())
def akN:List (Nat×List Nat):=[(1000005,[1,1,1,0,1,0]),(2000023,[1,1,1,0,1,0,0,1,1,1])]
theorem JJ:okB akN (Tryz.f279.body.getD .skip) []=true:=by kernel_rfl
theorem acz(x0:List Rel)(x1:List al)(x5:List Int)(ga:List al)(dy:Int)(bN:Int):xU x0 x1 x5 ga dy bN =
 ud x0 x1 x5 ga dy (IntKind.i64.wrap (bN+1)):=(join_eq JJ [1,1,1,0,1,0,0,1,1,1] _).trans (by kernel_rfl)
theorem QA(x0:List Rel)(x1:List al)(x5:List Int)(ga:List al)(dy:Int)(bN:Int):ud x0 x1 x5 ga dy bN =
 bif decide (bN<dy)then
 (ae ga bN).bind λy =>
 (zg x0 y).bind λaA =>
  bif !aA.fst.fst then some ((false,()),())
  else
  (FU y.fst).bind λbU =>
   bif bU.fst.fst==0 then
   bif y.snd.snd.snd.snd.snd.snd.fst != 0 then some ((false,()),())
   else
    bif y.snd.snd.snd.snd.snd.snd.snd != 0 then some ((false,()),())
    else
    (ae x5 bN).bind λy =>
     (ae x5 bN).bind λy =>
     (ae x5 bN).bind λy=>(some (x5.set bN.toNat bN)).bind λy=>xU x0 x1 y ga dy bN
   else
   bif bU.fst.fst==1 then
    bif bN==0 then some ((false,()),())
    else
    bif y.snd.snd.snd.snd.snd.snd.fst != IntKind.i64.wrap (bN - 1)then some ((false,()),())
    else
     bif y.snd.snd.snd.snd.snd.snd.snd != 0 then some ((false,()),())
     else
     (ae x5 (IntKind.i64.wrap (bN - 1))).bind λy =>
      (ae x5 (IntKind.i64.wrap (bN - 1))).bind λy =>
      (ae x5 bN).bind λdc =>
       (ae x5 bN).bind λgS =>
       (ae x5 bN).bind λtW =>
        (some (x5.set bN.toNat y)).bind λy=>xU x0 x1 y ga dy bN
   else
    bif bU.fst.fst==2 then
    bif bN==0 then some ((false,()),())
    else
     bif y.snd.snd.snd.snd.snd.snd.snd != IntKind.i64.wrap (bN - 1)then some ((false,()),())
     else
     (ae x5 (IntKind.i64.wrap (bN - 1))).bind λdc =>
      (ae x5 (IntKind.i64.wrap (bN - 1))).bind λgS =>
      bif gS==0 then some ((false,()),())
      else
       (ae x5 (IntKind.i64.wrap (bN - 1))).bind λtW =>
       (ae x5 (IntKind.i64.wrap (bN - 1))).bind λxI =>
        bif y.snd.snd.snd.snd.snd.snd.fst != IntKind.i64.wrap (xI - 1)then some ((false,()),())
        else
        (ae x5 y.snd.snd.snd.snd.snd.snd.fst).bind λxJ =>
         (ae x5 y.snd.snd.snd.snd.snd.snd.fst).bind λy =>
         (ae x5 bN).bind λZ2 =>
          (ae x5 bN).bind λy_9 =>
          (ae x5 bN).bind λat4 =>
           (some (x5.set bN.toNat y)).bind λy=>xU x0 x1 y ga dy bN
    else some ((false,()),())
else
 (ae x5 (IntKind.i64.wrap ((↑x1.length:Int) - 1))).bind λy =>
 (ae x5 (IntKind.i64.wrap ((↑x1.length:Int) - 1))).bind λy=>some ((y==0,()),()):=(aQ JJ [1,1,1,0,1,0] (by kernel_rfl) _).trans (by kernel_rfl)
theorem aeB(a0:List Rel)(a1:List al):uJ a0 a1 =
 (y7 a0).bind λy =>
 bif !y.fst.fst then some ((false,()),())
 else
 bif decide ((↑a1.length:Int)<1)then some ((false,()),())
 else
  bif decide ((↑a1.length:Int)>12)then some ((false,()),())
  else
  bif
   decide (0<=(↑a1.length:Int))&&decide ((↑a1.length:Int)<=(↑a1.length:Int)) &&
    decide ((↑a1.length:Int)*(↑8:Int)<=140737488355328) &&
    decide ((↑a1.length:Int)<=9223372036854775807)then
   ud a0 a1 (List.replicate a1.length (0:Int)) a1 (↑a1.length:Int) 0
  else none:=(Eq.trans (by kernel_rfl:uJ a0 a1=aC Dx (Tryz.f279.body.getD .skip) DQ (aY 122 [(bz,Mode.ro),(bS,Mode.ro)] (a0,a1,()))) (all_eq JJ _)).trans (by kernel_rfl)
def qX(d:Nat):Env:=ti C (Dd d)
 [0,1,2,3,4,5,6,7,8,9,10,11,12,13,15,18,21,24,29,30,31,36,45,46,50,59,63,72,82] 86
 (λk =>
 bif k==1 then some 19
 else
  bif k==2 then some 49
  else
  bif k==4 then some 113
  else
   bif k==5 then some 112
   else
   bif k==7 then some 112
   else
    bif k==10 then some 15032386032
    else
    bif k==13 then some 112
    else
     bif k==16 then some 492581209244784
     else
     bif k==20 then some 113
     else
      bif k==24 then some 110680464442257315920
      else
      bif k==27 then some 113
      else
       bif k==28 then some 80
       else
       bif k==1000008 then some 15032385648
       else
        bif k==1000014 then some 492581209243760
        else
        bif k==1000022 then some 110680464442257309776
        else bif k==2000020 then some 36028797019488369 else bif k==2000028 then some 80 else none)
 (Hints.mk (λx x_1=>none) (λs=>Nat.testBit 32 s) λr=>bif r==5 then [26,31,36,46,50,53]else [])
 [(bS,Mode.ro),(ak,Mode.ro)]
def q7:=Iu C [(bS,Mode.ro),(ak,Mode.ro)] [(en,0)] [RV.cell 4 358]
def mN(d:Nat)(x4:PUnit×Bool×Bool×Bool×Bool)(x6:PUnit×Bool×Bool×Bool×Bool):Option (((PUnit×Bool×Bool×Bool×Bool)×PUnit)×PUnit):=gp (qX d) [1,1,1,1] (Tryz.f316.body.getD .skip) q7 (dd 4 (V.box none en.depth en x4::V.dead::(V.box none en.depth en x6::dd 79 ([]))))
def oj(d:Nat)(x4:PUnit×Bool×Bool×Bool×Bool)(x5:Int×aa×ByteArray×ByteArray×List Int×Int×Int×Int)(x6:PUnit×Bool×Bool×Bool×Bool)(iy:List Int)(iz:Int)(fp:Int):Option (((PUnit×Bool×Bool×Bool×Bool)×PUnit)×PUnit):=aM (qX d) [1,1,1,0,1,0,1,0,1,0] (Tryz.f316.body.getD .skip) q7 (dd 4 (V.box none en.depth en x4::V.box none 0 c7 x5::V.box none en.depth en x6::dd 24 (V.d none 0 bl iy::V.d none 0 (Ty.int IntKind.i64) iz::V.d none 0 (Ty.int IntKind.i64) fp::dd 52 ([]))))
def po(d:Nat)(x4:PUnit×Bool×Bool×Bool×Bool)(x5:Int×aa×ByteArray×ByteArray×List Int×Int×Int×Int)(x6:PUnit×Bool×Bool×Bool×Bool)(pe:List Int)(gQ:Int)(di:Int):Option (((PUnit×Bool×Bool×Bool×Bool)×PUnit)×PUnit):=aM (qX d) [1,1,1,0,1,0,1,1,1,0,1,0] (Tryz.f316.body.getD .skip) q7 (dd 4 (V.box none en.depth en x4::V.box none 0 c7 x5::V.box none en.depth en x6::dd 39 (V.d none 0 bl pe::V.d none 0 (Ty.int IntKind.i64) gQ::V.d none 0 (Ty.int IntKind.i64) di::dd 37 ([]))))
def b8(d:Nat)(x4:PUnit×Bool×Bool×Bool×Bool)(x6:PUnit×Bool×Bool×Bool×Bool)(cr:PUnit×Bool×Bool×Bool×Bool)(a8:Int):Option (((PUnit×Bool×Bool×Bool×Bool)×PUnit)×PUnit):=aM (qX d) [1,1,1,0,1,0,1,1,1,1,1,0,1,1,0] (Tryz.f316.body.getD .skip) q7 (dd 4 (V.box none en.depth en x4::V.dead::(V.box none en.depth en x6::dd 58 (V.d none 0 en cr::V.d none 0 (Ty.int IntKind.i64) a8::dd 19 ([])))))
def qZ(d:Nat)(x0:List al)(x4:PUnit×Bool×Bool×Bool×Bool)(x5:Int×aa×ByteArray×ByteArray×List Int×Int×Int×Int)(x6:PUnit×Bool×Bool×Bool×Bool)(fo:Int)(Du:Bool):Option (((PUnit×Bool×Bool×Bool×Bool)×PUnit)×PUnit):=gp (qX d) [1,1,1,0,1,0,1,1,1,1,1] (Tryz.f316.body.getD .skip) q7 (V.d none 0 bS x0::dd 3 (V.box none en.depth en x4::V.box none 0 c7 x5::V.box none en.depth en x6::dd 12 (V.d none 0 ak fo::dd 35 (V.d none 0 Ty.bool Du::dd 30 ([])))))
def mT(d:Nat)(a0:List al)(a1:Int):Option (((PUnit×Bool×Bool×Bool×Bool)×PUnit)×PUnit):=(tY (Dd d)).ao (a0,a1,())
def ak0:List (Nat×List Nat):=[(1000008,[1,1,1,0,1,0,1,0,1,0]),(2000028,[1,1,1,1]),(1000014,[1,1,1,0,1,0,1,1,1,0,1,0]),(2000020,[1,1,1,0,1,0,1,1,1,1,1]),(1000022,[1,1,1,0,1,0,1,1,1,1,1,0,1,1,0])]
theorem sY:okB ak0 (Tryz.f316.body.getD .skip) []=true:=by kernel_rfl
theorem xX(d:Nat)(x4:PUnit×Bool×Bool×Bool×Bool)(x6:PUnit×Bool×Bool×Bool×Bool):mN (d+1) x4 x6 =
 some ((x6,()),()):=(join_eq sY [1,1,1,1] _).trans (by kernel_rfl)
theorem QW(d:Nat)(x4:PUnit×Bool×Bool×Bool×Bool)(x5:Int×aa×ByteArray×ByteArray×List Int×Int×Int×Int)(x6:PUnit×Bool×Bool×Bool×Bool)(iy:List Int)(iz:Int)(fp:Int):oj (d+1) x4 x5 x6 iy iz fp =
 bif decide (fp<iz)then
 (ae iy fp).bind λy =>
 bif decide (fp=(↑0:Int))then
  oj (d+1) x4 x5 (x6.fst,y != 0,x6.snd.snd) iy iz (IntKind.i64.wrap (fp+1))
 else
  bif decide (fp=(↑(0+1):Int))then
  oj (d+1) x4 x5 (x6.fst,x6.snd.fst,y != 0,x6.snd.snd.snd) iy iz (IntKind.i64.wrap (fp+1))
  else
  bif decide (fp=(↑(0+1+1):Int))then
   oj (d+1) x4 x5 (x6.fst,x6.snd.fst,x6.snd.snd.fst,y != 0,x6.snd.snd.snd.snd) iy iz
   (IntKind.i64.wrap (fp+1))
  else
   bif decide (fp=(↑(0+1+1+1):Int))then
   oj (d+1) x4 x5 (x6.fst,x6.snd.fst,x6.snd.snd.fst,x6.snd.snd.snd.fst,y != 0) iy iz
    (IntKind.i64.wrap (fp+1))
   else none
else mN (d+1) x4 x6:=(aQ sY [1,1,1,0,1,0,1,0,1,0] (by kernel_rfl) _).trans (by kernel_rfl)
theorem QU(d:Nat)(x4:PUnit×Bool×Bool×Bool×Bool)(x5:Int×aa×ByteArray×ByteArray×List Int×Int×Int×Int)(x6:PUnit×Bool×Bool×Bool×Bool)(pe:List Int)(gQ:Int)(di:Int):po (d+1) x4 x5 x6 pe gQ di =
 bif decide (di<gQ)then
 (ae pe di).bind λy =>
 bif decide (y=(↑0:Int))then
  po (d+1) x4 x5 (x6.fst,true,x6.snd.snd) pe gQ (IntKind.i64.wrap (di+1))
 else
  bif decide (y=(↑(0+1):Int))then
  po (d+1) x4 x5 (x6.fst,x6.snd.fst,true,x6.snd.snd.snd) pe gQ (IntKind.i64.wrap (di+1))
  else
  bif decide (y=(↑(0+1+1):Int))then
   po (d+1) x4 x5 (x6.fst,x6.snd.fst,x6.snd.snd.fst,true,x6.snd.snd.snd.snd) pe gQ
   (IntKind.i64.wrap (di+1))
  else
   bif decide (y=(↑(0+1+1+1):Int))then
   po (d+1) x4 x5 (x6.fst,x6.snd.fst,x6.snd.snd.fst,x6.snd.snd.snd.fst,true) pe gQ
    (IntKind.i64.wrap (di+1))
   else none
else mN (d+1) x4 x6:=(aQ sY [1,1,1,0,1,0,1,1,1,0,1,0] (by kernel_rfl) _).trans (by kernel_rfl)
theorem uo(d:Nat)(x4:PUnit×Bool×Bool×Bool×Bool)(x6:PUnit×Bool×Bool×Bool×Bool)(cr:PUnit×Bool×Bool×Bool×Bool)(a8:Int):b8 (d+1) x4 x6 cr a8 =
 bif decide (a8<4)then
 (ae [cr.snd.fst,cr.snd.snd.fst,cr.snd.snd.snd.fst,cr.snd.snd.snd.snd] a8).bind λy =>
 bif decide (a8=(↑0:Int))then
  bif x6.snd.fst then
  bif decide (a8=(↑0:Int))then
   b8 (d+1) x4 (x6.fst,true,x6.snd.snd) cr (IntKind.i64.wrap (a8+1))
  else
   bif decide (a8=(↑(0+1):Int))then
   b8 (d+1) x4 (x6.fst,x6.snd.fst,true,x6.snd.snd.snd) cr (IntKind.i64.wrap (a8+1))
   else
   bif decide (a8=(↑(0+1+1):Int))then
    b8 (d+1) x4 (x6.fst,x6.snd.fst,x6.snd.snd.fst,true,x6.snd.snd.snd.snd) cr
    (IntKind.i64.wrap (a8+1))
   else
    bif decide (a8=(↑(0+1+1+1):Int))then
    b8 (d+1) x4 (x6.fst,x6.snd.fst,x6.snd.snd.fst,x6.snd.snd.snd.fst,true) cr
     (IntKind.i64.wrap (a8+1))
    else none
  else
  bif decide (a8=(↑0:Int))then b8 (d+1) x4 (x6.fst,y,x6.snd.snd) cr (IntKind.i64.wrap (a8+1))
  else
   bif decide (a8=(↑(0+1):Int))then
   b8 (d+1) x4 (x6.fst,x6.snd.fst,y,x6.snd.snd.snd) cr (IntKind.i64.wrap (a8+1))
   else
   bif decide (a8=(↑(0+1+1):Int))then
    b8 (d+1) x4 (x6.fst,x6.snd.fst,x6.snd.snd.fst,y,x6.snd.snd.snd.snd) cr
    (IntKind.i64.wrap (a8+1))
   else
    bif decide (a8=(↑(0+1+1+1):Int))then
    b8 (d+1) x4 (x6.fst,x6.snd.fst,x6.snd.snd.fst,x6.snd.snd.snd.fst,y) cr
     (IntKind.i64.wrap (a8+1))
    else none
 else
  bif decide (a8=(↑(0+1):Int))then
  bif x6.snd.snd.fst then
   bif decide (a8=(↑0:Int))then
   b8 (d+1) x4 (x6.fst,true,x6.snd.snd) cr (IntKind.i64.wrap (a8+1))
   else
   bif decide (a8=(↑(0+1):Int))then
    b8 (d+1) x4 (x6.fst,x6.snd.fst,true,x6.snd.snd.snd) cr (IntKind.i64.wrap (a8+1))
   else
    bif decide (a8=(↑(0+1+1):Int))then
    b8 (d+1) x4 (x6.fst,x6.snd.fst,x6.snd.snd.fst,true,x6.snd.snd.snd.snd) cr
     (IntKind.i64.wrap (a8+1))
    else
    bif decide (a8=(↑(0+1+1+1):Int))then
     b8 (d+1) x4 (x6.fst,x6.snd.fst,x6.snd.snd.fst,x6.snd.snd.snd.fst,true) cr
     (IntKind.i64.wrap (a8+1))
    else none
  else
   bif decide (a8=(↑0:Int))then b8 (d+1) x4 (x6.fst,y,x6.snd.snd) cr (IntKind.i64.wrap (a8+1))
   else
   bif decide (a8=(↑(0+1):Int))then
    b8 (d+1) x4 (x6.fst,x6.snd.fst,y,x6.snd.snd.snd) cr (IntKind.i64.wrap (a8+1))
   else
    bif decide (a8=(↑(0+1+1):Int))then
    b8 (d+1) x4 (x6.fst,x6.snd.fst,x6.snd.snd.fst,y,x6.snd.snd.snd.snd) cr
     (IntKind.i64.wrap (a8+1))
    else
    bif decide (a8=(↑(0+1+1+1):Int))then
     b8 (d+1) x4 (x6.fst,x6.snd.fst,x6.snd.snd.fst,x6.snd.snd.snd.fst,y) cr
     (IntKind.i64.wrap (a8+1))
    else none
  else
  bif decide (a8=(↑(0+1+1):Int))then
   bif x6.snd.snd.snd.fst then
   bif decide (a8=(↑0:Int))then
    b8 (d+1) x4 (x6.fst,true,x6.snd.snd) cr (IntKind.i64.wrap (a8+1))
   else
    bif decide (a8=(↑(0+1):Int))then
    b8 (d+1) x4 (x6.fst,x6.snd.fst,true,x6.snd.snd.snd) cr (IntKind.i64.wrap (a8+1))
    else
    bif decide (a8=(↑(0+1+1):Int))then
     b8 (d+1) x4 (x6.fst,x6.snd.fst,x6.snd.snd.fst,true,x6.snd.snd.snd.snd) cr
     (IntKind.i64.wrap (a8+1))
    else
     bif decide (a8=(↑(0+1+1+1):Int))then
     b8 (d+1) x4 (x6.fst,x6.snd.fst,x6.snd.snd.fst,x6.snd.snd.snd.fst,true) cr
      (IntKind.i64.wrap (a8+1))
     else none
   else
   bif decide (a8=(↑0:Int))then
    b8 (d+1) x4 (x6.fst,y,x6.snd.snd) cr (IntKind.i64.wrap (a8+1))
   else
    bif decide (a8=(↑(0+1):Int))then
    b8 (d+1) x4 (x6.fst,x6.snd.fst,y,x6.snd.snd.snd) cr (IntKind.i64.wrap (a8+1))
    else
    bif decide (a8=(↑(0+1+1):Int))then
     b8 (d+1) x4 (x6.fst,x6.snd.fst,x6.snd.snd.fst,y,x6.snd.snd.snd.snd) cr
     (IntKind.i64.wrap (a8+1))
    else
     bif decide (a8=(↑(0+1+1+1):Int))then
     b8 (d+1) x4 (x6.fst,x6.snd.fst,x6.snd.snd.fst,x6.snd.snd.snd.fst,y) cr
      (IntKind.i64.wrap (a8+1))
     else none
  else
   bif decide (a8=(↑(0+1+1+1):Int))then
   bif x6.snd.snd.snd.snd then
    bif decide (a8=(↑0:Int))then
    b8 (d+1) x4 (x6.fst,true,x6.snd.snd) cr (IntKind.i64.wrap (a8+1))
    else
    bif decide (a8=(↑(0+1):Int))then
     b8 (d+1) x4 (x6.fst,x6.snd.fst,true,x6.snd.snd.snd) cr (IntKind.i64.wrap (a8+1))
    else
     bif decide (a8=(↑(0+1+1):Int))then
     b8 (d+1) x4 (x6.fst,x6.snd.fst,x6.snd.snd.fst,true,x6.snd.snd.snd.snd) cr
      (IntKind.i64.wrap (a8+1))
     else
     bif decide (a8=(↑(0+1+1+1):Int))then
      b8 (d+1) x4 (x6.fst,x6.snd.fst,x6.snd.snd.fst,x6.snd.snd.snd.fst,true) cr
      (IntKind.i64.wrap (a8+1))
     else none
   else
    bif decide (a8=(↑0:Int))then
    b8 (d+1) x4 (x6.fst,y,x6.snd.snd) cr (IntKind.i64.wrap (a8+1))
    else
    bif decide (a8=(↑(0+1):Int))then
     b8 (d+1) x4 (x6.fst,x6.snd.fst,y,x6.snd.snd.snd) cr (IntKind.i64.wrap (a8+1))
    else
     bif decide (a8=(↑(0+1+1):Int))then
     b8 (d+1) x4 (x6.fst,x6.snd.fst,x6.snd.snd.fst,y,x6.snd.snd.snd.snd) cr
      (IntKind.i64.wrap (a8+1))
     else
     bif decide (a8=(↑(0+1+1+1):Int))then
      b8 (d+1) x4 (x6.fst,x6.snd.fst,x6.snd.snd.fst,x6.snd.snd.snd.fst,y) cr
      (IntKind.i64.wrap (a8+1))
     else none
   else none
else mN (d+1) x4 x6:=(aQ sY [1,1,1,0,1,0,1,1,1,1,1,0,1,1,0] (by kernel_rfl) _).trans (by kernel_rfl)
theorem Pl(d:Nat)(x0:List al)(x4:PUnit×Bool×Bool×Bool×Bool)(x5:Int×aa×ByteArray×ByteArray×List Int×Int×Int×Int)(x6:PUnit×Bool×Bool×Bool×Bool)(fo:Int)(Du:Bool):qZ (d+1) x0 x4 x5 x6 fo Du =
 bif Du then
 (mT d x0 x5.snd.snd.snd.snd.snd.snd.fst).bind λy =>
 (mT d x0 x5.snd.snd.snd.snd.snd.snd.snd).bind λaA=>b8 (d+1) x4 y.fst.fst aA.fst.fst 0
else
 bif fo==2 then (mT d x0 x5.snd.snd.snd.snd.snd.snd.fst).bind λy=>mN (d+1) x4 y.fst.fst
 else
 (mT d x0 x5.snd.snd.snd.snd.snd.snd.fst).bind λy =>
  bif decide (x5.snd.snd.snd.snd.snd.fst=(↑0:Int))then
  mN (d+1) x4 (y.fst.fst.fst,false,y.fst.fst.snd.snd)
  else
  bif decide (x5.snd.snd.snd.snd.snd.fst=(↑(0+1):Int))then
   mN (d+1) x4 (y.fst.fst.fst,y.fst.fst.snd.fst,false,y.fst.fst.snd.snd.snd)
  else
   bif decide (x5.snd.snd.snd.snd.snd.fst=(↑(0+1+1):Int))then
   mN (d+1) x4
    (y.fst.fst.fst,y.fst.fst.snd.fst,y.fst.fst.snd.snd.fst,false,y.fst.fst.snd.snd.snd.snd)
   else
   bif decide (x5.snd.snd.snd.snd.snd.fst=(↑(0+1+1+1):Int))then
    mN (d+1) x4
    (y.fst.fst.fst,y.fst.fst.snd.fst,y.fst.fst.snd.snd.fst,y.fst.fst.snd.snd.snd.fst,false)
   else none:=(join_eq sY [1,1,1,0,1,0,1,1,1,1,1] _).trans (by kernel_rfl)
theorem ae8(d:Nat)(a0:List al)(a1:Int):mT (d+1) a0 a1 =
 (ae a0 a1).bind λy =>
 bif y.fst==0 then
 oj (d+1) (PUnit.unit,false,false,false,false) y (PUnit.unit,false,false,false,false) y.snd.fst.fst
  (↑(List.length y.snd.fst.fst):Int) 0
 else
 bif y.fst==1 then
  po (d+1) (PUnit.unit,false,false,false,false) y (PUnit.unit,false,false,false,false)
  y.snd.snd.snd.snd.fst (↑(List.length y.snd.snd.snd.snd.fst):Int) 0
 else
  bif y.fst==3 then
  qZ (d+1) a0 (PUnit.unit,false,false,false,false) y (PUnit.unit,false,false,false,false) y.fst
   true
  else
  qZ (d+1) a0 (PUnit.unit,false,false,false,false) y (PUnit.unit,false,false,false,false) y.fst
   (y.fst==4):=(Eq.trans (by kernel_rfl:mT (d+1) a0 a1=aC (qX (d+1)) (Tryz.f316.body.getD .skip) q7 (aY 86 [(bS,Mode.ro),(ak,Mode.ro)] (a0,a1,()))) (all_eq sY _)).trans (by kernel_rfl)
def LL:Env:=Eg.env C Az.1 Tryz.f255
def Pq:=Eg.out C
def pn(x6:List Int)(bR:PUnit×Bool×Bool×Bool×Bool)(fo:Int):Option ((List Int×Bool×PUnit)×PUnit):=aM LL [1,1,1,0,1,0] (Tryz.f255.body.getD .skip) Pq (dd 6 (V.d none (ak.depth+1) (Ty.slice 3 ak) x6::dd 11 (V.d none 0 en bR::V.d none 0 (Ty.int IntKind.i64) fo::dd 10 ([]))))
def y6(a0:List Rel)(a1:List al):Option ((List Int×Bool×PUnit)×PUnit):=MW.ao (a0,a1,())
def akJ:List (Nat×List Nat):=[(1000005,[1,1,1,0,1,0])]
theorem WJ:okB akJ (Tryz.f255.body.getD .skip) []=true:=by kernel_rfl
theorem Qw(x6:List Int)(bR:PUnit×Bool×Bool×Bool×Bool)(fo:Int):pn x6 bR fo =
 bif decide (fo<4)then
 (ae [bR.snd.fst,bR.snd.snd.fst,bR.snd.snd.snd.fst,bR.snd.snd.snd.snd] fo).bind λy =>
 bif y then
  bif decide ((x6.length+1)*8<=140737488355328)then pn (x6++[fo]) bR (IntKind.i64.wrap (fo+1))
  else none
 else pn x6 bR (IntKind.i64.wrap (fo+1))
else some ((x6,true,()),()):=(aQ WJ [1,1,1,0,1,0] (by kernel_rfl) _).trans (by kernel_rfl)
theorem aes(a0:List Rel)(a1:List al):y6 a0 a1 =
 (uJ a0 a1).bind λy =>
 bif !y.fst.fst then some (([],false,()),())
 else (mT fuel a1 (IntKind.i64.wrap ((↑a1.length:Int) - 1))).bind λy=>pn [] y.fst.fst 0:=(Eq.trans (by kernel_rfl:y6 a0 a1=aC LL (Tryz.f255.body.getD .skip) Pq (aY 30 [(bz,Mode.ro),(bS,Mode.ro)] (a0,a1,()))) (all_eq WJ _)).trans (by kernel_rfl)
def FC(a0:List Rel)(a1:List al):Option ((Bool×PUnit)×PUnit):=M7.ao (a0,a1,())
theorem aeF(a0:List Rel)(a1:List al):FC a0 a1 =
 (y6 a0 a1).bind λy =>
 bif y.fst.snd.fst then some (((↑(List.length y.fst.fst):Int)==0,()),())else some ((false,()),()):=by kernel_rfl
def SR(a0:List Int):Option ((List Int×PUnit)×PUnit):=Nr.ao (a0,())
theorem ae2(a0:List Int):SR a0 =
 bif decide ((0+a0.length)*8<=140737488355328)then some ((a0,()),())else none:=by kernel_rfl
def uP(a0:aa):Option ((aa×PUnit)×PUnit):=Np.ao (a0,())
theorem ae0(a0:aa):uP a0 =
 (SR a0.fst).bind λy=>some (((y.fst.fst,a0.snd.fst,a0.snd.snd),()),()):=by kernel_rfl
def zh(a0:aa):Option ((Bool×PUnit)×PUnit):=Nx.ao (a0,())
theorem ae9(a0:aa):zh a0 =
 (mS a0.fst).bind λy=>some ((y.fst.fst != 0,()),()):=by kernel_rfl
def uR(a0:Int):Option ((ab×PUnit)×PUnit):=Nu.ao (a0,())
theorem ae5(a0:Int):uR a0 =
 bif
 decide (0<=a0)&&decide (a0<=a0)&&decide (a0*(↑8:Int)<=140737488355328) &&
  decide (a0<=9223372036854775807)then
 some (((a0,[(List.replicate a0.toNat (0:Int),1,false)]),()),())
else none:=by kernel_rfl
def rI(a0:aa):Option ((Int×PUnit)×PUnit):=Ns.ao (a0,())
theorem ae3(a0:aa):rI a0 =
 (mS a0.fst).bind λy=>bif y.fst.fst==0 then some ((1,()),())else some ((y.fst.fst,()),()):=by kernel_rfl
def zm(a0:Int)(a1:Int):Option ((Int×PUnit)×PUnit):=NS.ao (a0,a1,())
theorem afy(a0:Int)(a1:Int):zm a0 a1 =
 bif decide (a0<a1)then some ((-1,()),())else bif decide (a0>a1)then some ((1,()),())else some ((0,()),()):=by kernel_rfl
def LW:Env:=Eu.env C AI.1 Tryz.f357
def PA:=Eu.out C
def yj(x2:aa)(x3:aa)(x5:Int)(x6:Int)(lG:Int)(cb:Int):Option ((Int×PUnit)×PUnit):=aM LW [1,1,0,1,0] (Tryz.f357.body.getD .skip) PA (dd 2 (V.box none 0 aJ x2::V.box none 0 aJ x3::V.dead::(V.d none 0 ak x5::V.d none 0 ak x6::dd 8 (V.d none 0 (Ty.int IntKind.i64) lG::V.d none 0 (Ty.int IntKind.i64) cb::dd 21 ([])))))
def uO(a0:aa)(a1:aa):Option ((Int×PUnit)×PUnit):=No.ao (a0,a1,())
def akW:List (Nat×List Nat):=[(1000003,[1,1,0,1,0])]
theorem WU:okB akW (Tryz.f357.body.getD .skip) []=true:=by kernel_rfl
theorem QO(x2:aa)(x3:aa)(x5:Int)(x6:Int)(lG:Int)(cb:Int):yj x2 x3 x5 x6 lG cb =
 bif decide (cb<lG)then
 (ae x2.fst cb).bind λy =>
 bif x5 != 0 then
  (ae x3.fst cb).bind λaA =>
  bif x6 != 0 then
   (zm (IntKind.i64.wrap (y.tdiv x5)) (IntKind.i64.wrap (aA.tdiv x6))).bind λy =>
   bif y.fst.fst != 0 then some ((y.fst.fst,()),())
   else yj x2 x3 x5 x6 lG (IntKind.i64.wrap (cb+1))
  else none
 else none
else some ((0,()),()):=(aQ WU [1,1,0,1,0] (by kernel_rfl) _).trans (by kernel_rfl)
theorem aeZ(a0:aa)(a1:aa):uO a0 a1 =
 (rI a0).bind λy =>
 (rI a1).bind λaA =>
 yj a0 a1 y.fst.fst aA.fst.fst (↑(List.length a0.fst):Int) 0:=(Eq.trans (by kernel_rfl:uO a0 a1=aC LW (Tryz.f357.body.getD .skip) PA (aY 38 [(aJ,Mode.ro),(aJ,Mode.ro)] (a0,a1,()))) (all_eq WU _)).trans (by kernel_rfl)
def SB(a0:aa)(a1:aa):Option ((Int×PUnit)×PUnit):=xR.ao (a0,a1,())
theorem aeg(a0:aa)(a1:aa):SB a0 a1 =
 (kO a0).bind λy =>
 bif !y.fst.fst then some ((2,()),())
 else
 (kO a1).bind λy =>
  bif !y.fst.fst then some ((2,()),())
  else
  bif (↑(List.length a0.fst):Int) != (↑(List.length a1.fst):Int)then some ((2,()),())
  else
   (uO a0 a1).bind λy =>
   bif y.fst.fst != 0 then some ((y.fst.fst,()),())
   else
    (rI a1).bind λy =>
    (rI a0).bind λaA =>
     (zm (IntKind.i64.wrap (a0.snd.fst*y.fst.fst)) (IntKind.i64.wrap (a1.snd.fst*aA.fst.fst))).bind
     λy =>
     bif y.fst.fst != 0 then some ((y.fst.fst,()),())
     else
      bif a0.snd.snd==a1.snd.snd then some ((0,()),())
      else bif a0.snd.snd then some ((1,()),())else some ((-1,()),()):=by kernel_rfl
def Tu(x0:(List ((List Int)×(Int×Bool))))(x1:Value):Option (Unit×(List ((List Int)×(Int×Bool)))×Unit):=DK.ao (x0,(x1,()))
def DC:Env:=EE.env C Bk.1 Tryz.f331
def DT:=EE.out C
def rb(x4:Int×List aa)(x5:Int×List aa)(x8:Int×List aa)(gQ:Int)(di:Int):Option ((ab×PUnit)×PUnit):=aM DC [1,1,1,1,1,0,1,0] (Tryz.f331.body.getD .skip) DT (dd 4 (V.box none av.depth av x4::V.bO 0 1 ((Ty.int IntKind.i64).pair (Ty.slice 153 (bl.pair (ak.pair aw)).agg)) x5::dd 2 (V.box none av.depth av x8::dd 37 (V.same 5 (Ty.slice 153 (bl.pair (ak.pair aw)).agg)::V.d none 0 (Ty.int IntKind.i64) gQ::V.d none 0 (Ty.int IntKind.i64) di::dd 27 ([])))))
def re(x0:Int)(x1:List aa)(x4:Int×List aa)(x5:List aa)(dq:List aa)(ix:Int)(eC:Int):Option ((ab×PUnit)×PUnit):=aM DC [1,1,0,1,0] (Tryz.f331.body.getD .skip) DT (V.d none 0 ak x0::V.d none 0 dT x1::dd 2 (V.box none av.depth av x4::V.d none (aJ.depth+1) (Ty.slice 153 aJ) x5::dd 6 (V.d none 0 dT dq::V.d none 0 (Ty.int IntKind.i64) ix::V.d none 0 (Ty.int IntKind.i64) eC::dd 61 ([]))))
def pw(a0:Int)(a1:List aa):Option ((ab×PUnit)×PUnit):=NL.ao (a0,a1,())
def ak6:List (Nat×List Nat):=[(1000003,[1,1,0,1,0]),(1000013,[1,1,1,1,1,0,1,0])]
theorem JM:okB ak6 (Tryz.f331.body.getD .skip) []=true:=by kernel_rfl
theorem Q5(x4:Int×List aa)(x5:Int×List aa)(x8:Int×List aa)(gQ:Int)(di:Int):rb x4 x5 x8 gQ di =
 bif decide (di<gQ)then
 (ae x5.snd di).bind λy =>
 bif V.dead.idle&&decide (x5.fst<=di)then
  (ae x5.snd di).bind λy =>
  bif decide (IntKind.i64.wrap (di+1)<(↑(List.length x5.snd):Int))then
   (ae x5.snd (IntKind.i64.wrap (di+1))).bind λaA =>
   bif decide (di+1<=IntKind.i64.wrap (di+1))then
    (ae x5.snd (IntKind.i64.wrap (di+1))).bind λbU =>
    bif decide (di+1<=IntKind.i64.wrap (di+1))then
     (ae x5.snd (IntKind.i64.wrap (di+1))).bind λdc =>
     (uO y dc).bind λgS =>
      bif gS.fst.fst==0 then rb x4 (di+1,x5.snd) x8 gQ (IntKind.i64.wrap (di+1))
      else
      bif decide ((List.length x8.snd+1)*40<=140737488355328)then
       rb x4 (di+1,x5.snd) (x8.fst,x8.snd++[y]) gQ (IntKind.i64.wrap (di+1))
      else none
    else none
   else none
  else
   bif decide ((List.length x8.snd+1)*40<=140737488355328)then
   rb x4 (di+1,x5.snd) (x8.fst,x8.snd++[y]) gQ (IntKind.i64.wrap (di+1))
   else none
 else none
else some ((x8,()),()):=(aQ JM [1,1,1,1,1,0,1,0] (by kernel_rfl) _).trans (by kernel_rfl)
theorem Q7(x0:Int)(x1:List aa)(x4:Int×List aa)(x5:List aa)(dq:List aa)(ix:Int)(eC:Int):re x0 x1 x4 x5 dq ix eC =
 bif decide (eC<ix)then
 (ae dq eC).bind λy =>
 (zh y).bind λaA =>
  bif !aA.fst.fst then
  bif decide (y.snd.fst>0)then (uR x0).bind λy=>some ((y.fst.fst,()),())
  else
   bif y.snd.fst==0 then
   bif y.snd.snd then (uR x0).bind λy=>some ((y.fst.fst,()),())
   else re x0 x1 x4 x5 dq ix (IntKind.i64.wrap (eC+1))
   else re x0 x1 x4 x5 dq ix (IntKind.i64.wrap (eC+1))
  else
  (uP y).bind λy =>
   bif decide ((x5.length+1)*40<=140737488355328)then
   re x0 x1 x4 (x5++[y.fst.fst]) dq ix (IntKind.i64.wrap (eC+1))
   else none
else
 Option.bind
 (Go.Proofs.YtbhogmdpmkpinaaGreat.P.It.Tu x5
  (Value.func (Fn.func 356) #[] #[]))
 λy=>rb x4 (0,y.snd.fst) (x0,[]) (↑(List.length y.snd.fst):Int) 0:=(aQ JM [1,1,0,1,0] (by kernel_rfl) _).trans (by kernel_rfl)
theorem afp(a0:Int)(a1:List aa):pw a0 a1 =
 re a0 a1 (0,[]) [] a1 (↑a1.length:Int) 0:=(Eq.trans (by kernel_rfl:pw a0 a1=aC DC (Tryz.f331.body.getD .skip) DT (aY 76 [(ak,Mode.ro),(dT,Mode.ro)] (a0,a1,()))) (all_eq JM _)).trans (by kernel_rfl)
def FF(a0:Int×List aa):Option ((ab×Bool×PUnit)×PUnit):=Ng.ao (a0,())
theorem SM(a0:Int×List aa):FF a0 =
 (kP a0).bind λy =>
 bif !y.fst.fst then some (((0,[]),false,()),())
 else (pw a0.fst a0.snd).bind λy=>some ((y.fst.fst,true,()),()):=by kernel_rfl
def L3:Env:=EA.env C Ar.1 Tryz.f220
def PE:=EA.out C
def ra(x0:List Int)(x6:aa)(x8:Int)(x9:aa)(bN:List Int)(eD:Int)(cM:Int):Option ((aa×Bool×PUnit)×PUnit):=aM L3 [1,1,1,1,0,1,0] (Tryz.f220.body.getD .skip) PE (V.d none 0 bl x0::dd 5 (V.box none aJ.depth aJ x6::V.dead::(V.d none 0 (Ty.int IntKind.i64) x8::V.box none aJ.depth aJ x9::dd 16 (V.d none 0 bl bN::V.d none 0 (Ty.int IntKind.i64) eD::V.d none 0 (Ty.int IntKind.i64) cM::dd 17 ([])))))
def mU(a0:List Int)(a1:Int)(a2:Bool):Option ((aa×Bool×PUnit)×PUnit):=NG.ao (a0,a1,a2,())
def ak2:List (Nat×List Nat):=[(1000006,[1,1,1,1,0,1,0])]
theorem WY:okB ak2 (Tryz.f220.body.getD .skip) []=true:=by kernel_rfl
theorem QY(x0:List Int)(x6:aa)(x8:Int)(x9:aa)(bN:List Int)(eD:Int)(cM:Int):ra x0 x6 x8 x9 bN eD cM =
 bif decide (cM<eD)then
 (ae bN cM).bind λy =>
 bif x8 != 0 then
  (ae x9.fst cM).bind λaA =>
  (ae x9.fst cM).bind λbU =>
   (ae x9.fst cM).bind λdc =>
   (some (List.set x9.fst cM.toNat (IntKind.i64.wrap (y.tdiv x8)))).bind λy =>
    ra x0 x6 x8 (y,x9.snd) bN eD (IntKind.i64.wrap (cM+1))
 else none
else
 (kO x9).bind λy=>bif !y.fst.fst then some ((([],0,false),false,()),())else some ((x9,true,()),()):=(aQ WY [1,1,1,1,0,1,0] (by kernel_rfl) _).trans (by kernel_rfl)
theorem afk(a0:List Int)(a1:Int)(a2:Bool):mU a0 a1 a2 =
 (mS a0).bind λy =>
 (pv y.fst.fst a1).bind λy =>
 bif y.fst.fst==0 then
  bif
   decide (0<=(↑a0.length:Int))&&decide ((↑a0.length:Int)<=(↑a0.length:Int)) &&
    decide ((↑a0.length:Int)*(↑8:Int)<=140737488355328) &&
   decide ((↑a0.length:Int)<=9223372036854775807)then
  ra a0 ([],0,false) 1 (List.replicate a0.length (0:Int),IntKind.i64.wrap (a1.tdiv 1),a2) a0 (↑a0.length:Int)
   0
  else none
 else
  bif
   decide (0<=(↑a0.length:Int))&&decide ((↑a0.length:Int)<=(↑a0.length:Int)) &&
    decide ((↑a0.length:Int)*(↑8:Int)<=140737488355328) &&
   decide ((↑a0.length:Int)<=9223372036854775807)then
  bif y.fst.fst != 0 then
   ra a0 ([],0,false) y.fst.fst (List.replicate a0.length (0:Int),IntKind.i64.wrap (a1.tdiv y.fst.fst),a2) a0
   (↑a0.length:Int) 0
  else none
  else none:=(Eq.trans (by kernel_rfl:mU a0 a1 a2=aC L3 (Tryz.f220.body.getD .skip) PE (aY 46 [(bl,Mode.ro),(ak,Mode.ro),(aw,Mode.ro)] (a0,a1,a2,()))) (all_eq WY _)).trans (by kernel_rfl)
def LS:Env:=Ep.env C AD.1 Tryz.f370
def Px:=Ep.out C
def ui(x1:Int)(x3:Int)(x4:aa)(x6:aa)(x8:aa)(bg:List Int)(fO:Int)(dU:Int):Option ((aa×Bool×PUnit)×PUnit):=aM LS [1,1,1,1,0,1,0] (Tryz.f370.body.getD .skip) Px (V.dead::(V.d none 0 ak x1::V.dead::(V.d none 0 ak x3::V.box none 0 aJ x4::V.dead::(V.box none 0 aJ x6::V.dead::(V.box none aJ.depth aJ x8::V.dead::(V.d none (ak.depth+1) (Ty.slice 3 ak) bg::dd 39 (V.d none 0 (Ty.int IntKind.i64) fO::V.d none 0 (Ty.int IntKind.i64) dU::dd 48 ([]))))))))
def zc(a0:aa)(a1:Int)(a2:aa)(a3:Int):Option ((aa×Bool×PUnit)×PUnit):=Nb.ao (a0,a1,a2,a3,())
def akS:List (Nat×List Nat):=[(1000007,[1,1,1,1,0,1,0])]
theorem WR:okB akS (Tryz.f370.body.getD .skip) []=true:=by kernel_rfl
theorem QK(x1:Int)(x3:Int)(x4:aa)(x6:aa)(x8:aa)(bg:List Int)(fO:Int)(dU:Int):ui x1 x3 x4 x6 x8 bg fO dU =
 bif decide (dU<fO)then
 (ae x4.fst dU).bind λy =>
 (ae x6.fst dU).bind λaA =>
  (ae bg dU).bind λbU =>
  (ae bg dU).bind λdc =>
   (ae bg dU).bind λgS =>
   (some (bg.set dU.toNat (IntKind.i64.wrap (IntKind.i64.wrap (x1*y)+IntKind.i64.wrap (x3*aA))))).bind
    λy=>ui x1 x3 x4 x6 x8 y fO (IntKind.i64.wrap (dU+1))
else
 bif x4.snd.snd then
 bif x1 != 0 then
  (mU bg (IntKind.i64.wrap (IntKind.i64.wrap (x1*x4.snd.fst)+IntKind.i64.wrap (x3*x6.snd.fst)))
   true).bind
  λy=>some ((y.fst.fst,y.fst.snd.fst,()),())
 else
  bif x6.snd.snd then
  (mU bg (IntKind.i64.wrap (IntKind.i64.wrap (x1*x4.snd.fst)+IntKind.i64.wrap (x3*x6.snd.fst)))
    (x3 != 0)).bind
   λy=>some ((y.fst.fst,y.fst.snd.fst,()),())
  else
  (mU bg (IntKind.i64.wrap (IntKind.i64.wrap (x1*x4.snd.fst)+IntKind.i64.wrap (x3*x6.snd.fst)))
    false).bind
   λy=>some ((y.fst.fst,y.fst.snd.fst,()),())
 else
 bif x6.snd.snd then
  (mU bg (IntKind.i64.wrap (IntKind.i64.wrap (x1*x4.snd.fst)+IntKind.i64.wrap (x3*x6.snd.fst)))
   (x3 != 0)).bind
  λy=>some ((y.fst.fst,y.fst.snd.fst,()),())
 else
  (mU bg (IntKind.i64.wrap (IntKind.i64.wrap (x1*x4.snd.fst)+IntKind.i64.wrap (x3*x6.snd.fst)))
   false).bind
  λy=>some ((y.fst.fst,y.fst.snd.fst,()),()):=(aQ WR [1,1,1,1,0,1,0] (by kernel_rfl) _).trans (by kernel_rfl)
theorem aeL(a0:aa)(a1:Int)(a2:aa)(a3:Int):zc a0 a1 a2 a3 =
 (kO a0).bind λy =>
 bif !y.fst.fst then some ((([],0,false),false,()),())
 else
 (kO a2).bind λy =>
  bif !y.fst.fst then some ((([],0,false),false,()),())
  else
  bif (↑(List.length a0.fst):Int) != (↑(List.length a2.fst):Int)then some ((([],0,false),false,()),())
  else
   bif decide (a1<0)then some ((([],0,false),false,()),())
   else
   bif decide (a1>400000000)then some ((([],0,false),false,()),())
   else
    bif decide (a3<0)then some ((([],0,false),false,()),())
    else
    bif decide (a3>400000000)then some ((([],0,false),false,()),())
    else
     bif
      decide (0<=(↑(List.length a0.fst):Int)) &&
       decide ((↑(List.length a0.fst):Int)<=(↑(List.length a0.fst):Int)) &&
       decide ((↑(List.length a0.fst):Int)*(↑8:Int)<=140737488355328) &&
      decide ((↑(List.length a0.fst):Int)<=9223372036854775807)then
     ui a1 a3 a0 a2 ([],0,false) (List.replicate (List.length a0.fst) (0:Int))
      (↑(List.replicate (List.length a0.fst) (0:Int)).length:Int) 0
     else none:=(Eq.trans (by kernel_rfl:zc a0 a1 a2 a3=aC LS (Tryz.f370.body.getD .skip) Px (aY 100 [(aJ,Mode.ro),(ak,Mode.ro),(aJ,Mode.ro),(ak,Mode.ro)] (a0,a1,a2,a3,()))) (all_eq WR _)).trans (by kernel_rfl)
def zj(a0:Int)(a1:List aa):Option ((ab×Bool×PUnit)×PUnit):=NF.ao (a0,a1,())
theorem afj(a0:Int)(a1:List aa):zj a0 a1 =
 (pw a0 a1).bind λy =>
 bif decide ((↑(List.length y.fst.fst.snd):Int)>16)then some (((0,[]),false,()),())
 else some ((y.fst.fst,true,()),()):=by kernel_rfl
def xM:Env:=Ee.env C AB.1 Tryz.f353
def xY:=Ee.out C
def tZ(x1:Int)(x2:Int×List aa)(x4:Int×List aa)(x6:List aa)(bg:aa)(jH:List aa)(fO:Int)(dU:Int)(tT:List aa)(tU:Int)(qR:Int):Option ((ab×Bool×PUnit)×PUnit):=aM xM [1,1,1,1,0,1,0,0,1,1,0,0,1,1,1,0] (Tryz.f353.body.getD .skip) xY (V.dead::(V.d none 0 ak x1::V.box none 0 av x2::V.dead::(V.box none av.depth av x4::V.dead::(V.d none 1 (Ty.slice 153 aJ) x6::dd 3 (V.box none 0 aJ bg::dd 38 (V.d none 0 (Ty.slice 153 aJ) jH::V.d none 0 (Ty.int IntKind.i64) fO::V.d none 0 (Ty.int IntKind.i64) dU::dd 10 (V.d none 0 (Ty.slice 153 aJ) tT::V.d none 0 (Ty.int IntKind.i64) tU::V.d none 0 (Ty.int IntKind.i64) qR::dd 41 ([]))))))))
def pk(x1:Int)(x2:Int×List aa)(x4:Int×List aa)(x6:List aa)(jH:List aa)(fO:Int)(dU:Int):Option ((ab×Bool×PUnit)×PUnit):=aM xM [1,1,1,1,0,1,0] (Tryz.f353.body.getD .skip) xY (V.dead::(V.d none 0 ak x1::V.box none 0 av x2::V.dead::(V.box none av.depth av x4::V.dead::(V.d none 1 (Ty.slice 153 aJ) x6::dd 42 (V.d none 0 (Ty.slice 153 aJ) jH::V.d none 0 (Ty.int IntKind.i64) fO::V.d none 0 (Ty.int IntKind.i64) dU::dd 54 ([]))))))
def ua(x1:Int)(x2:Int×List aa)(x4:Int×List aa)(x6:List aa)(iy:List aa)(iz:Int)(fp:Int):Option ((ab×Bool×PUnit)×PUnit):=aM xM [1,1,1,0,1,0] (Tryz.f353.body.getD .skip) xY (V.dead::(V.d none 0 ak x1::V.box none 0 av x2::V.dead::(V.box none av.depth av x4::V.dead::(V.d none 1 (Ty.slice 153 aJ) x6::dd 24 (V.d none 0 (Ty.slice 153 aJ) iy::V.d none 0 (Ty.int IntKind.i64) iz::V.d none 0 (Ty.int IntKind.i64) fp::dd 72 ([]))))))
def uI(a0:Int×List aa)(a1:Int):Option ((ab×Bool×PUnit)×PUnit):=MT.ao (a0,a1,())
def akH:List (Nat×List Nat):=[(1000005,[1,1,1,0,1,0]),(1000011,[1,1,1,1,0,1,0]),(1000015,[1,1,1,1,0,1,0,0,1,1,0,0,1,1,1,0])]
theorem Cu:okB akH (Tryz.f353.body.getD .skip) []=true:=by kernel_rfl
theorem Qr(x1:Int)(x2:Int×List aa)(x4:Int×List aa)(x6:List aa)(bg:aa)(jH:List aa)(fO:Int)(dU:Int)(tT:List aa)(tU:Int)(qR:Int):tZ x1 x2 x4 x6 bg jH fO dU tT tU qR =
 bif decide (qR<tU)then
 (ae tT qR).bind λy =>
 (ae y.fst x1).bind λaA =>
  bif decide (aA>=0)then tZ x1 x2 x4 x6 bg jH fO dU tT tU (IntKind.i64.wrap (qR+1))
  else
  (ae y.fst x1).bind λbU =>
   (ae bg.fst x1).bind λdc =>
   (zc bg (IntKind.i64.wrap (0 - bU)) y dc).bind λy =>
    bif !y.fst.snd.fst then some (((0,[]),false,()),())
    else
    bif decide ((x6.length+1)*40<=140737488355328)then
     tZ x1 x2 x4 (x6++[y.fst.fst]) bg jH fO dU tT tU (IntKind.i64.wrap (qR+1))
    else none
else pk x1 x2 x4 x6 jH fO (IntKind.i64.wrap (dU+1)):=(aQ Cu [1,1,1,1,0,1,0,0,1,1,0,0,1,1,1,0] (by kernel_rfl) _).trans (by kernel_rfl)
theorem Qq(x1:Int)(x2:Int×List aa)(x4:Int×List aa)(x6:List aa)(jH:List aa)(fO:Int)(dU:Int):pk x1 x2 x4 x6 jH fO dU =
 bif decide (dU<fO)then
 (ae jH dU).bind λy =>
 (ae y.fst x1).bind λaA =>
  bif decide (aA<=0)then pk x1 x2 x4 x6 jH fO (IntKind.i64.wrap (dU+1))
  else tZ x1 x2 x4 x6 y jH fO dU x2.snd (↑(List.length x2.snd):Int) 0
else (zj x2.fst x6).bind λy=>some ((y.fst.fst,y.fst.snd.fst,()),()):=(aQ Cu [1,1,1,1,0,1,0] (by kernel_rfl) _).trans (by kernel_rfl)
theorem Qs(x1:Int)(x2:Int×List aa)(x4:Int×List aa)(x6:List aa)(iy:List aa)(iz:Int)(fp:Int):ua x1 x2 x4 x6 iy iz fp =
 bif decide (fp<iz)then
 (ae iy fp).bind λy =>
 (ae y.fst x1).bind λaA =>
  bif aA==0 then
  bif decide ((x6.length+1)*40<=140737488355328)then
   ua x1 x2 x4 (x6++[y]) iy iz (IntKind.i64.wrap (fp+1))
  else none
  else ua x1 x2 x4 x6 iy iz (IntKind.i64.wrap (fp+1))
else pk x1 x2 x4 x6 x2.snd (↑(List.length x2.snd):Int) 0:=(aQ Cu [1,1,1,0,1,0] (by kernel_rfl) _).trans (by kernel_rfl)
theorem aeo(a0:Int×List aa)(a1:Int):uI a0 a1 =
 (kP a0).bind λy =>
 bif !y.fst.fst then some (((0,[]),false,()),())
 else
 bif decide (a1<0)then some (((0,[]),false,()),())
 else
  bif decide (a1>=a0.fst)then some (((0,[]),false,()),())
  else ua a1 a0 (0,[]) [] a0.snd (↑(List.length a0.snd):Int) 0:=(Eq.trans (by kernel_rfl:uI a0 a1=aC xM (Tryz.f353.body.getD .skip) xY (aY 106 [(av,Mode.ro),(ak,Mode.ro)] (a0,a1,()))) (all_eq Cu _)).trans (by kernel_rfl)
def L7:Env:=EF.env C Ai.1 Tryz.f327
def PI:=EF.out C
def pq(x4:List ab)(x5:Int):Option ((List ab×Bool×PUnit)×PUnit):=aM L7 [1,1,1,1,0,1,0] (Tryz.f327.body.getD .skip) PI (dd 4 (V.d none (av.depth+1) (Ty.slice 45 av) x4::V.d none 0 (Ty.int IntKind.i64) x5::dd 42 ([])))
def FV(a0:Int×List aa):Option ((List ab×Bool×PUnit)×PUnit):=NO.ao (a0,())
def ak7:List (Nat×List Nat):=[(1000006,[1,1,1,1,0,1,0])]
theorem W2:okB ak7 (Tryz.f327.body.getD .skip) []=true:=by kernel_rfl
theorem Rb(x4:List ab)(x5:Int):pq x4 x5 =
 bif decide (x5>=0)then
 (ae x4 (IntKind.i64.wrap (x5+1))).bind λy =>
 (ae x4 (IntKind.i64.wrap (x5+1))).bind λy =>
  (ae x4 (IntKind.i64.wrap (x5+1))).bind λy =>
  (uI y x5).bind λy =>
   bif !y.fst.snd.fst then some (([],false,()),())
   else
   (ae x4 x5).bind λaA =>
    (ae x4 x5).bind λbU =>
    (ae x4 x5).bind λdc =>
     (some (x4.set x5.toNat y.fst.fst)).bind λy=>pq y (IntKind.i64.wrap (x5 - 1))
else some ((x4,true,()),()):=(aQ W2 [1,1,1,1,0,1,0] (by kernel_rfl) _).trans (by kernel_rfl)
theorem afu(a0:Int×List aa):FV a0 =
 (kP a0).bind λy =>
 bif !y.fst.fst then some (([],false,()),())
 else
 bif
  decide (0<=IntKind.i64.wrap (a0.fst+1)) &&
    decide (IntKind.i64.wrap (a0.fst+1)<=IntKind.i64.wrap (a0.fst+1)) &&
   decide (IntKind.i64.wrap (a0.fst+1)*(↑32:Int)<=140737488355328) &&
   decide (IntKind.i64.wrap (a0.fst+1)<=9223372036854775807)then
  (pw a0.fst a0.snd).bind λy =>
  (ae (List.replicate (IntKind.i64.wrap (a0.fst+1)).toNat ((0,[]):ab)) a0.fst).bind λaA =>
   (ae (List.replicate (IntKind.i64.wrap (a0.fst+1)).toNat ((0,[]):ab)) a0.fst).bind λbU =>
   (ae (List.replicate (IntKind.i64.wrap (a0.fst+1)).toNat ((0,[]):ab)) a0.fst).bind λdc =>
    (some ((List.replicate (IntKind.i64.wrap (a0.fst+1)).toNat ((0,[]):ab)).set (Int.toNat a0.fst) y.fst.fst)).bind
    λy=>pq y (IntKind.i64.wrap (a0.fst - 1))
 else none:=(Eq.trans (by kernel_rfl:FV a0=aC L7 (Tryz.f327.body.getD .skip) PI (aY 48 [(av,Mode.ro)] (a0,()))) (all_eq W2 _)).trans (by kernel_rfl)
def y8(a0:Int×List aa):Option ((Bool×Bool×PUnit)×PUnit):=M1.ao (a0,())
theorem aeA(a0:Int×List aa):y8 a0 =
 (FV a0).bind λy =>
 bif !y.fst.snd.fst then some ((false,false,()),())
 else
 (ae y.fst.fst 0).bind λaA =>
  (ae y.fst.fst 0).bind λbU =>
  (ae y.fst.fst 0).bind λy=>some ((decide ((↑(List.length y.snd):Int)>0),true,()),()):=by kernel_rfl
def Gb(a0:Option PUnit)(a1:Int):Option ((List aa×PUnit)×PUnit):=ON.ao (a0,a1,())
theorem agG(a0:Option PUnit)(a1:Int):Gb a0 a1 =
 bif decide (a1<0)then none
else
 bif decide (IntKind.i64.wrap (a1 - IntKind.i64.wrap (0 - 0))>0)then
 bif
  decide (0<IntKind.i64.wrap (a1 - IntKind.i64.wrap (0 - 0)))&&decide (aJ.sz≠0) &&
   decide (IntKind.i64.wrap (a1 - IntKind.i64.wrap (0 - 0))*(↑40:(Ty.int IntKind.i64).den)<=140737488355328) &&
   decide (IntKind.i64.wrap (a1 - IntKind.i64.wrap (0 - 0))<=140737488355328)then
  some (([],()),())
 else none
 else some (([],()),()):=by kernel_rfl
def DI:Env:=Ff.env C Bj.1 Tryz.f296
def DZ:=Ff.out C
def yI(x0:List (List aa))(x6:List aa)(dy:List (List aa))(bN:Int)(eD:Int):Option ((List aa×PUnit)×PUnit):=aM DI [1,1,1,1,0,1,0] (Tryz.f296.body.getD .skip) DZ (V.d none 0 qL x0::dd 5 (V.d none 1 dT x6::dd 18 (V.d none 0 qL dy::V.d none 0 (Ty.int IntKind.i64) bN::V.d none 0 (Ty.int IntKind.i64) eD::dd 8 ([]))))
def yJ(x0:List (List aa))(x3:Int)(x9:List (List aa))(bg:Int)(cT:Int):Option ((List aa×PUnit)×PUnit):=aM DI [1,1,0,1,0] (Tryz.f296.body.getD .skip) DZ (V.d none 0 qL x0::dd 2 (V.d none 0 (Ty.int IntKind.i64) x3::dd 5 (V.d none 0 qL x9::V.d none 0 (Ty.int IntKind.i64) bg::V.d none 0 (Ty.int IntKind.i64) cT::dd 24 ([]))))
def u7(a0:List (List aa)):Option ((List aa×PUnit)×PUnit):=OM.ao (a0,())
def alH:List (Nat×List Nat):=[(1000003,[1,1,0,1,0]),(1000011,[1,1,1,1,0,1,0])]
theorem JS:okB alH (Tryz.f296.body.getD .skip) []=true:=by kernel_rfl
theorem Ea(x0:List (List aa))(x6:List aa)(dy:List (List aa))(bN:Int)(eD:Int):yI x0 x6 dy bN eD =
 bif decide (eD<bN)then
 (ae dy eD).bind λy =>
 bif decide ((x6.length+y.length)*40<=140737488355328)then
  yI x0 (x6++y) dy bN
  (IntKind.i64.wrap (eD+1))
 else none
else some ((x6,()),()):=(aQ JS [1,1,1,1,0,1,0] (by kernel_rfl) _).trans (by kernel_rfl)
theorem Eb(x0:List (List aa))(x3:Int)(x9:List (List aa))(bg:Int)(cT:Int):yJ x0 x3 x9 bg cT =
 bif decide (cT<bg)then
 (ae x9 cT).bind λy =>
 bif decide (IntKind.i64.wrap (x3+(↑y.length:Int))<0)then none
 else
  yJ x0
  (IntKind.i64.wrap (x3+(↑y.length:Int))) x9 bg (IntKind.i64.wrap (cT+1))
else
 (Gb none x3).bind λy =>
 yI x0 y.fst.fst x0 (↑x0.length:Int) 0:=(aQ JS [1,1,0,1,0] (by kernel_rfl) _).trans (by kernel_rfl)
theorem agF(a0:List (List aa)):u7 a0 =
 yJ a0 0 a0 (↑a0.length:Int) 0:=(Eq.trans (by kernel_rfl:u7 a0=aC DI (Tryz.f296.body.getD .skip) DZ (aY 36 [(qL,Mode.ro)] (a0,()))) (all_eq JS _)).trans (by kernel_rfl)
def LU:Env:=Er.env C Bi.1 Tryz.f282
def Py:=Er.out C
def yg(x1:aa)(x2:aa)(x4:aa)(xC:List Int)(ga:Int)(dy:Int):Option ((aa×Bool×PUnit)×PUnit):=aM LU [1,1,1,0,1,0] (Tryz.f282.body.getD .skip) Py (V.dead::(V.box none 0 aJ x1::V.box none aJ.depth aJ x2::V.dead::(V.box none aJ.depth aJ x4::dd 18 (V.d none 0 bl xC::V.d none 0 (Ty.int IntKind.i64) ga::V.d none 0 (Ty.int IntKind.i64) dy::dd 12 ([])))))
def uN(a0:aa):Option ((aa×Bool×PUnit)×PUnit):=Nf.ao (a0,())
def akT:List (Nat×List Nat):=[(1000005,[1,1,1,0,1,0])]
theorem WS:okB akT (Tryz.f282.body.getD .skip) []=true:=by kernel_rfl
theorem QL(x1:aa)(x2:aa)(x4:aa)(xC:List Int)(ga:Int)(dy:Int):yg x1 x2 x4 xC ga dy =
 bif decide (dy<ga)then
 (ae xC dy).bind λy =>
 (ae x4.fst dy).bind λaA =>
  (ae x4.fst dy).bind λbU =>
  (ae x4.fst dy).bind λdc =>
   (some (List.set x4.fst dy.toNat (IntKind.i64.wrap (0 - y)))).bind λy =>
   yg x1 x2 (y,x4.snd) xC ga (IntKind.i64.wrap (dy+1))
else some ((x4,true,()),()):=(aQ WS [1,1,1,0,1,0] (by kernel_rfl) _).trans (by kernel_rfl)
theorem aeP(a0:aa):uN a0 =
 (kO a0).bind λy =>
 bif !y.fst.fst then some ((([],0,false),false,()),())
 else
 bif
  decide (0<=(↑(List.length a0.fst):Int)) &&
    decide ((↑(List.length a0.fst):Int)<=(↑(List.length a0.fst):Int)) &&
   decide ((↑(List.length a0.fst):Int)*(↑8:Int)<=140737488355328) &&
   decide ((↑(List.length a0.fst):Int)<=9223372036854775807)then
  yg a0 ([],0,false)
  (List.replicate (List.length a0.fst) (0:Int),IntKind.i64.wrap (0 - a0.snd.fst),!a0.snd.snd) a0.fst
  (↑(List.length a0.fst):Int) 0
 else none:=(Eq.trans (by kernel_rfl:uN a0=aC LU (Tryz.f282.body.getD .skip) Py (aY 38 [(aJ,Mode.ro)] (a0,()))) (all_eq WS _)).trans (by kernel_rfl)
def rF(a0:Int×List aa)(a1:Int×List aa):Option ((ab×Bool×PUnit)×PUnit):=M8.ao (a0,a1,())
theorem aeH(a0:Int×List aa)(a1:Int×List aa):rF a0 a1 =
 (kP a0).bind λy =>
 bif !y.fst.fst then some (((0,[]),false,()),())
 else
 (kP a1).bind λy =>
  bif !y.fst.fst then some (((0,[]),false,()),())
  else
  bif a0.fst != a1.fst then some (((0,[]),false,()),())
  else
   (u7 [a0.snd,a1.snd]).bind λy =>
   (zj a0.fst y.fst.fst).bind λy=>some ((y.fst.fst,y.fst.snd.fst,()),()):=by kernel_rfl
def FB(a0:Int×List aa)(a1:aa):Option ((Bool×Bool×PUnit)×PUnit):=MX.ao (a0,a1,())
theorem aeu(a0:Int×List aa)(a1:aa):FB a0 a1 =
 (uN a1).bind λy =>
 bif !y.fst.snd.fst then some ((false,false,()),())
 else
 (rF a0 ((↑(List.length y.fst.fst.fst):Int),[y.fst.fst])).bind λy =>
  bif !y.fst.snd.fst then some ((false,false,()),())
  else (y8 y.fst.fst).bind λy=>some ((y.fst.fst,y.fst.snd.fst,()),()):=by kernel_rfl
def LR:Env:=Eo.env C Ak.1 Tryz.f221
def Pw:=Eo.out C
def uh(x1:Int×List aa)(x2:Int×List aa)(x4:Int×List aa)(x7:Int):Option ((ab×Bool×PUnit)×PUnit):=aM LR [1,1,1,1,1,1,0,1,0] (Tryz.f221.body.getD .skip) Pw (V.dead::(V.box none 0 av x1::V.box none 0 av x2::V.dead::(V.box none 0 av x4::dd 2 (V.d none 0 (Ty.int IntKind.i64) x7::dd 60 ([])))))
def uL(a0:Int×List aa):Option ((ab×Bool×PUnit)×PUnit):=Na.ao (a0,())
def akR:List (Nat×List Nat):=[(1000010,[1,1,1,1,1,1,0,1,0])]
theorem WQ:okB akR (Tryz.f221.body.getD .skip) []=true:=by kernel_rfl
theorem QJ(x1:Int×List aa)(x2:Int×List aa)(x4:Int×List aa)(x7:Int):uh x1 x2 x4 x7 =
 bif decide (x7<(↑(List.length x4.snd):Int))then
 bif decide (0<=0)&&decide (0<=x7)&&decide (x7<=(↑(List.length x4.snd):Int))then
 bif
  decide (0<=IntKind.i64.wrap (x7+1))&&decide (IntKind.i64.wrap (x7+1)<=(↑(List.length x4.snd):Int)) &&
   decide ((↑(List.length x4.snd):Int)<=(↑(List.length x4.snd):Int))then
  (u7
   [List.drop (Int.toNat 0) (List.take x7.toNat x4.snd),
    List.drop (IntKind.i64.wrap (x7+1)).toNat (List.take (List.length x4.snd) x4.snd)]).bind
  λy =>
  (ae x4.snd x7).bind λaA =>
   (FB (x1.fst,y.fst.fst) aA).bind λbU =>
   bif !bU.fst.snd.fst then some (((0,[]),false,()),())
   else
    bif bU.fst.fst then uh x1 x2 (x1.fst,y.fst.fst) x7
    else uh x1 x2 x4 (IntKind.i64.wrap (x7+1))
 else none
 else none
else some ((x4,true,()),()):=(aQ WQ [1,1,1,1,1,1,0,1,0] (by kernel_rfl) _).trans (by kernel_rfl)
theorem aeK(a0:Int×List aa):uL a0 =
 (FF a0).bind λy =>
 bif !y.fst.snd.fst then some (((0,[]),false,()),())
 else
 (y8 y.fst.fst).bind λaA =>
  bif !aA.fst.snd.fst then some (((0,[]),false,()),())
  else
  bif aA.fst.fst then (uR a0.fst).bind λy=>some ((y.fst.fst,true,()),())
  else uh a0 (0,[]) y.fst.fst 0:=(Eq.trans (by kernel_rfl:uL a0=aC LR (Tryz.f221.body.getD .skip) Pw (aY 68 [(av,Mode.ro)] (a0,()))) (all_eq WQ _)).trans (by kernel_rfl)
def FL(a0:Int×List aa):Option ((Bool×PUnit)×PUnit):=Ny.ao (a0,())
theorem afa(a0:Int×List aa):FL a0 =
 bif (↑(List.length a0.snd):Int)==1 then
 (ae a0.snd 0).bind λy =>
 (zh y).bind λy =>
  bif !y.fst.fst then
  (ae a0.snd 0).bind λy =>
   bif y.snd.fst==1 then (ae a0.snd 0).bind λy=>some ((!y.snd.snd,()),())else some ((false,()),())
  else some ((false,()),())
else some ((false,()),()):=by kernel_rfl
def mR(a0:Int×List ab)(a1:Int×List aa):Option ((Bool×PUnit)×aU×PUnit):=Nl.ao (a0,a1,())
theorem aeY(a0:Int×List ab)(a1:Int×List aa):mR a0 a1 =
 (uL a1).bind λy =>
 bif !y.fst.snd.fst then some ((false,()),a0,())
 else
 (FL y.fst.fst).bind λaA =>
  bif aA.fst.fst then some ((true,()),a0,())
  else
  bif decide ((↑(List.length a0.snd):Int)>=12)then some ((false,()),a0,())
  else
   bif decide ((List.length a0.snd+1)*32<=140737488355328)then
   some ((true,()),(a0.fst,a0.snd++[y.fst.fst]),())
   else none:=by kernel_rfl
def LX:Env:=Ev.env C Av.1 Tryz.f95
def PB:=Ev.out C
def uk(x1:Int×List aa)(x2:Int×List aa)(x3:Int×List aa)(eC:List aa)(lG:Int)(cb:Int):Option ((ab×PUnit)×PUnit):=aM LX [1,1,0,1,0] (Tryz.f95.body.getD .skip) PB (V.dead::(V.box none 0 av x1::V.box none av.depth av x2::V.box none av.depth av x3::dd 10 (V.d none 0 (Ty.slice 153 aJ) eC::V.d none 0 (Ty.int IntKind.i64) lG::V.d none 0 (Ty.int IntKind.i64) cb::dd 12 ([]))))
def uQ(a0:Int×List aa):Option ((ab×PUnit)×PUnit):=Nq.ao (a0,())
def akX:List (Nat×List Nat):=[(1000003,[1,1,0,1,0])]
theorem WV:okB akX (Tryz.f95.body.getD .skip) []=true:=by kernel_rfl
theorem QQ(x1:Int×List aa)(x2:Int×List aa)(x3:Int×List aa)(eC:List aa)(lG:Int)(cb:Int):uk x1 x2 x3 eC lG cb =
 bif decide (cb<lG)then
 (ae eC cb).bind λy =>
 (uP y).bind λy =>
  bif decide ((List.length x3.snd+1)*40<=140737488355328)then
  uk x1 x2 (x3.fst,x3.snd++[y.fst.fst]) eC lG (IntKind.i64.wrap (cb+1))
  else none
else some ((x3,()),()):=(aQ WV [1,1,0,1,0] (by kernel_rfl) _).trans (by kernel_rfl)
theorem ae1(a0:Int×List aa):uQ a0 =
 bif
 decide (0<=0)&&decide (0<=(↑(List.length a0.snd):Int)) &&
  decide ((↑(List.length a0.snd):Int)*(↑40:Int)<=140737488355328) &&
  decide ((↑(List.length a0.snd):Int)<=9223372036854775807)then
 uk a0 (0,[]) (a0.fst,List.replicate (Int.toNat 0) ([],0,false)) a0.snd (↑(List.length a0.snd):Int) 0
else none:=(Eq.trans (by kernel_rfl:uQ a0=aC LX (Tryz.f95.body.getD .skip) PB (aY 29 [(av,Mode.ro)] (a0,()))) (all_eq WV _)).trans (by kernel_rfl)
def LI:Env:=Ec.env C Ax.1 Tryz.f362
def Pn:=Ec.out C
def q8(x1:ByteArray)(x2:ByteArray×Int×List Rw)(x4:Int×List ab)(x6:Int×List ab)(bR:List Rw)(fo:Int)(cC:Int):Option ((aU×Bool×PUnit)×PUnit):=aM LI [1,1,1,0,1,0] (Tryz.f362.body.getD .skip) Pn (V.dead::(V.d none 0 bX x1::V.box none 0 fN x2::V.dead::(V.box none aD.depth aD x4::V.dead::(V.box none aD.depth aD x6::dd 11 (V.d none 0 (Ty.slice 304 og) bR::V.d none 0 (Ty.int IntKind.i64) fo::V.d none 0 (Ty.int IntKind.i64) cC::dd 21 ([]))))))
def yZ(a0:ByteArray×Int×List Rw)(a1:ByteArray):Option ((aU×Bool×PUnit)×PUnit):=MN.ao (a0,a1,())
def akF:List (Nat×List Nat):=[(1000005,[1,1,1,0,1,0])]
theorem WG:okB akF (Tryz.f362.body.getD .skip) []=true:=by kernel_rfl
theorem Qn(x1:ByteArray)(x2:ByteArray×Int×List Rw)(x4:Int×List ab)(x6:Int×List ab)(bR:List Rw)(fo:Int)(cC:Int):q8 x1 x2 x4 x6 bR fo cC =
 bif decide (cC<fo)then
 (ae bR cC).bind λy =>
 bif x1.toList==(ByteArray.mk #[]).toList then
  (uQ y.snd).bind λy =>
  bif decide ((List.length x6.snd+1)*32<=140737488355328)then
   q8 x1 x2 x4 (x6.fst,x6.snd++[y.fst.fst]) bR fo (IntKind.i64.wrap (cC+1))
  else none
 else
  bif ByteArray.toList y.fst==x1.toList then
  (uQ y.snd).bind λy =>
   bif decide ((List.length x6.snd+1)*32<=140737488355328)then
   q8 x1 x2 x4 (x6.fst,x6.snd++[y.fst.fst]) bR fo (IntKind.i64.wrap (cC+1))
   else none
  else q8 x1 x2 x4 x6 bR fo (IntKind.i64.wrap (cC+1))
else some ((x6,true,()),()):=(aQ WG [1,1,1,0,1,0] (by kernel_rfl) _).trans (by kernel_rfl)
theorem aee(a0:ByteArray×Int×List Rw)(a1:ByteArray):yZ a0 a1 =
 (uK a0).bind λy =>
 bif !y.fst.fst then some (((0,[]),false,()),())
 else q8 a1 a0 (0,[]) (a0.snd.fst,[]) a0.snd.snd (↑(List.length a0.snd.snd):Int) 0:=(Eq.trans (by kernel_rfl:yZ a0 a1=aC LI (Tryz.f362.body.getD .skip) Pn (aY 42 [(fN,Mode.ro),(bX,Mode.ro)] (a0,a1,()))) (all_eq WG _)).trans (by kernel_rfl)
def Dz:Env:=Es.env C Af.1 Tryz.f365
def DS:=Es.out C
def uj(x1:List Int)(x2:Int×List aa)(x4:Int×List aa)(x6:Int×List aa)(x8:aa)(x9:List Int)(cM:List aa)(eP:Int)(kK:Int)(fq:List Int)(eX:Int)(jG:Int):Option ((ab×Bool×PUnit)×PUnit):=aM Dz [1,1,1,0,1,0,0,1,1,0,0,1,1,0,1,0] (Tryz.f365.body.getD .skip) DS (V.dead::(V.d none 0 bl x1::V.box none 0 av x2::V.dead::(V.box none av.depth av x4::V.dead::(V.box none av.depth av x6::V.dead::(V.box none 0 aJ x8::V.d none (ak.depth+1) (Ty.slice 3 ak) x9::dd 18 (V.d none 0 (Ty.slice 153 aJ) cM::V.d none 0 (Ty.int IntKind.i64) eP::V.d none 0 (Ty.int IntKind.i64) kK::dd 4 (V.d none 0 bl fq::V.d none 0 (Ty.int IntKind.i64) eX::V.d none 0 (Ty.int IntKind.i64) jG::dd 40 ([]))))))))
def yh(x1:List Int)(x2:Int×List aa)(x4:Int×List aa)(x6:Int×List aa)(cM:List aa)(eP:Int)(kK:Int):Option ((ab×Bool×PUnit)×PUnit):=aM Dz [1,1,1,0,1,0] (Tryz.f365.body.getD .skip) DS (V.dead::(V.d none 0 bl x1::V.box none 0 av x2::V.dead::(V.box none av.depth av x4::V.dead::(V.box none av.depth av x6::dd 21 (V.d none 0 (Ty.slice 153 aJ) cM::V.d none 0 (Ty.int IntKind.i64) eP::V.d none 0 (Ty.int IntKind.i64) kK::dd 47 ([]))))))
def zd(a0:Int×List aa)(a1:List Int):Option ((ab×Bool×PUnit)×PUnit):=Nh.ao (a0,a1,())
def akU:List (Nat×List Nat):=[(1000005,[1,1,1,0,1,0]),(1000009,[1,1,1,0,1,0,0,1,1,0,0,1,1,0,1,0])]
theorem JL:okB akU (Tryz.f365.body.getD .skip) []=true:=by kernel_rfl
theorem QN(x1:List Int)(x2:Int×List aa)(x4:Int×List aa)(x6:Int×List aa)(x8:aa)(x9:List Int)(cM:List aa)(eP:Int)(kK:Int)(fq:List Int)(eX:Int)(jG:Int):uj x1 x2 x4 x6 x8 x9 cM eP kK fq eX jG =
 bif decide (jG<eX)then
 (ae fq jG).bind λy =>
 (uS y).bind λaA =>
  bif !aA.fst.fst then some (((0,[]),false,()),())
  else
  (ae x9 y).bind λbU =>
   (ae x9 y).bind λdc =>
   (ae x8.fst jG).bind λgS =>
    (ae x9 y).bind λtW =>
    (ae x9 y).bind λxI =>
     (ae x9 y).bind λxJ =>
     (some (x9.set y.toNat (IntKind.i64.wrap (dc+gS)))).bind λy =>
      uj x1 x2 x4 x6 x8 y cM eP kK fq eX (IntKind.i64.wrap (jG+1))
else
 (mU x9 x8.snd.fst x8.snd.snd).bind λy =>
 bif !y.fst.snd.fst then some (((0,[]),false,()),())
 else
  bif decide ((List.length x6.snd+1)*40<=140737488355328)then
  yh x1 x2 x4 (x6.fst,x6.snd++[y.fst.fst]) cM eP (IntKind.i64.wrap (kK+1))
  else none:=(aQ JL [1,1,1,0,1,0,0,1,1,0,0,1,1,0,1,0] (by kernel_rfl) _).trans (by kernel_rfl)
theorem QM(x1:List Int)(x2:Int×List aa)(x4:Int×List aa)(x6:Int×List aa)(cM:List aa)(eP:Int)(kK:Int):yh x1 x2 x4 x6 cM eP kK =
 bif decide (kK<eP)then
 (ae cM kK).bind λy =>
 uj x1 x2 x4 x6 y (List.replicate (Int.toNat 4) (0:Int)) cM eP kK x1 (↑x1.length:Int) 0
else some ((x6,true,()),()):=(aQ JL [1,1,1,0,1,0] (by kernel_rfl) _).trans (by kernel_rfl)
theorem aeQ(a0:Int×List aa)(a1:List Int):zd a0 a1 =
 (kP a0).bind λy =>
 bif !y.fst.fst then some (((0,[]),false,()),())
 else
 bif (↑a1.length:Int) != a0.fst then some (((0,[]),false,()),())
 else yh a1 a0 (0,[]) (4,[]) a0.snd (↑(List.length a0.snd):Int) 0:=(Eq.trans (by kernel_rfl:zd a0 a1=aC Dz (Tryz.f365.body.getD .skip) DS (aY 78 [(av,Mode.ro),(bl,Mode.ro)] (a0,a1,()))) (all_eq JL _)).trans (by kernel_rfl)
def S6(a0:Int×List aa)(a1:Option al):Option ((ab×Bool×PUnit)×PUnit):=NR.ao (a0,a1,())
theorem afw(a0:Int×List aa)(a1:Option al):S6 a0 a1 =
 a1.bind λy=>(zd a0 y.snd.snd.snd.snd.fst).bind λy=>some ((y.fst.fst,y.fst.snd.fst,()),()):=by kernel_rfl
def L6:Env:=ED.env C AH.1 Tryz.f363
def PH:=ED.out C
def ur(x1:Option (Option al×PUnit))(x2:Int×List ab)(x4:Int×List ab)(x6:Int×List ab)(cb:List ab)(dw:Int)(bR:Int):Option ((aU×Bool×PUnit)×PUnit):=aM L6 [1,1,0,1,0] (Tryz.f363.body.getD .skip) PH (V.dead::(V.d none 0 (Ty.cap (some 364) ((Ty.cap none c7).pair Ty.unit)) x1::V.box none 0 aD x2::V.dead::(V.box none 1 aD x4::V.dead::(V.box none 1 aD x6::dd 9 (V.d none 0 (Ty.slice 45 av) cb::V.d none 0 (Ty.int IntKind.i64) dw::V.d none 0 (Ty.int IntKind.i64) bR::dd 19 ([]))))))
def FR(a0:Int×List ab)(a1:Option (Option al×PUnit)):Option ((aU×Bool×PUnit)×PUnit):=NJ.ao (a0,a1,())
def ak5:List (Nat×List Nat):=[(1000003,[1,1,0,1,0])]
theorem W1:okB ak5 (Tryz.f363.body.getD .skip) []=true:=by kernel_rfl
theorem Q1(x1:Option (Option al×PUnit))(x2:Int×List ab)(x4:Int×List ab)(x6:Int×List ab)(cb:List ab)(dw:Int)(bR:Int):ur x1 x2 x4 x6 cb dw bR =
 bif decide (bR<dw)then
 (ae cb bR).bind λy =>
 x1.bind λaA =>
  (S6 y aA.fst).bind λy =>
  bif !y.fst.snd.fst then some (((0,[]),false,()),())
  else
   (mR x6 y.fst.fst).bind λy =>
   bif !y.fst.fst then some (((0,[]),false,()),())
   else ur x1 x2 x4 y.snd.fst cb dw (IntKind.i64.wrap (bR+1))
else some ((x6,true,()),()):=(aQ W1 [1,1,0,1,0] (by kernel_rfl) _).trans (by kernel_rfl)
theorem afn(a0:Int×List ab)(a1:Option (Option al×PUnit)):FR a0 a1 =
 ur a1 a0 (0,[]) (a0.fst,[]) a0.snd (↑(List.length a0.snd):Int) 0:=(Eq.trans (by kernel_rfl:FR a0 a1=aC L6 (Tryz.f363.body.getD .skip) PH (aY 38 [(aD,Mode.ro),(Ty.cap (some 364) ((Ty.cap none c7).pair Ty.unit),Mode.ro)] (a0,a1,()))) (all_eq W1 _)).trans (by kernel_rfl)
def S5(a0:List Rel)(a1:Int×aa×ByteArray×ByteArray×List Int×Int×Int×Int):Option ((aU×Bool×PUnit)×PUnit):=NQ.ao (a0,a1,())
theorem afx(a0:List Rel)(a1:Int×aa×ByteArray×ByteArray×List Int×Int×Int×Int):S5 a0 a1 =
 (rE a0 a1.snd.snd.fst).bind λy =>
 (ae a0 y.fst.fst).bind λy =>
 (yZ y a1.snd.snd.snd.fst).bind λy =>
  bif !y.fst.snd.fst then some (((0,[]),false,()),())
  else
  (FR (4,y.fst.fst.snd) (some (some a1,()))).bind λy =>
   some ((y.fst.fst,y.fst.snd.fst,()),()):=by kernel_rfl
def LP:Env:=El.env C AG.1 Tryz.f133
def Pu:=El.out C
def ue(x1:Int×List ab)(cC:List ab)(dx:Int)(da:Int):Option ((Bool×PUnit)×PUnit):=aM LP [1,1,0,1,0] (Tryz.f133.body.getD .skip) Pu (V.dead::(V.box none 0 aD x1::dd 18 (V.d none 0 (Ty.slice 45 av) cC::V.d none 0 (Ty.int IntKind.i64) dx::V.d none 0 (Ty.int IntKind.i64) da::dd 14 ([]))))
def jN(a0:Int×List ab):Option ((Bool×PUnit)×PUnit):=M5.ao (a0,())
def akO:List (Nat×List Nat):=[(1000004,[1,1,0,1,0])]
theorem WN:okB akO (Tryz.f133.body.getD .skip) []=true:=by kernel_rfl
theorem QD(x1:Int×List ab)(cC:List ab)(dx:Int)(da:Int):ue x1 cC dx da =
 bif decide (da<dx)then
 (ae cC da).bind λy =>
 (kP y).bind λaA =>
  bif !aA.fst.fst then some ((false,()),())
  else bif y.fst != x1.fst then some ((false,()),())else ue x1 cC dx (IntKind.i64.wrap (da+1))
else some ((true,()),()):=(aQ WN [1,1,0,1,0] (by kernel_rfl) _).trans (by kernel_rfl)
theorem aeD(a0:Int×List ab):jN a0 =
 bif decide (a0.fst<0)then some ((false,()),())
else
 bif decide (a0.fst>4)then some ((false,()),())
 else
 bif decide ((↑(List.length a0.snd):Int)>12)then some ((false,()),())
 else ue a0 a0.snd (↑(List.length a0.snd):Int) 0:=(Eq.trans (by kernel_rfl:jN a0=aC LP (Tryz.f133.body.getD .skip) Pu (aY 37 [(aD,Mode.ro)] (a0,()))) (all_eq WN _)).trans (by kernel_rfl)
def S4(a0:Int×List aa):Option ((aU×PUnit)×PUnit):=NM.ao (a0,())
theorem afr(a0:Int×List aa):S4 a0 =
 some (((a0.fst,[a0]),()),()):=by kernel_rfl
def SJ(a0:Int×List aa):Option ((ab×Bool×PUnit)×PUnit):=Nd.ao (a0,())
theorem aeN(a0:Int×List aa):SJ a0 =
 some ((a0,true,()),()):=by kernel_rfl
def L5:Env:=EC.env C Aq.1 Tryz.f363
def PG:=EC.out C
def yn(x1:Option PUnit)(x2:Int×List ab)(x4:Int×List ab)(x6:Int×List ab)(cb:List ab)(dw:Int)(bR:Int):Option ((aU×Bool×PUnit)×PUnit):=aM L5 [1,1,0,1,0] (Tryz.f363.body.getD .skip) PG (V.dead::(V.d none 0 (Ty.cap (some 377) Ty.unit) x1::V.box none 0 aD x2::V.dead::(V.box none 1 aD x4::V.dead::(V.box none 1 aD x6::dd 9 (V.d none 0 (Ty.slice 45 av) cb::V.d none 0 (Ty.int IntKind.i64) dw::V.d none 0 (Ty.int IntKind.i64) bR::dd 19 ([]))))))
def FQ(a0:Int×List ab)(a1:Option PUnit):Option ((aU×Bool×PUnit)×PUnit):=NI.ao (a0,a1,())
def ak4:List (Nat×List Nat):=[(1000003,[1,1,0,1,0])]
theorem W0:okB ak4 (Tryz.f363.body.getD .skip) []=true:=by kernel_rfl
theorem Q0(x1:Option PUnit)(x2:Int×List ab)(x4:Int×List ab)(x6:Int×List ab)(cb:List ab)(dw:Int)(bR:Int):yn x1 x2 x4 x6 cb dw bR =
 bif decide (bR<dw)then
 (ae cb bR).bind λy =>
 x1.bind λaA =>
  (SJ y).bind λy =>
  bif !y.fst.snd.fst then some (((0,[]),false,()),())
  else
   (mR x6 y.fst.fst).bind λy =>
   bif !y.fst.fst then some (((0,[]),false,()),())
   else yn x1 x2 x4 y.snd.fst cb dw (IntKind.i64.wrap (bR+1))
else some ((x6,true,()),()):=(aQ W0 [1,1,0,1,0] (by kernel_rfl) _).trans (by kernel_rfl)
theorem afm(a0:Int×List ab)(a1:Option PUnit):FQ a0 a1 =
 yn a1 a0 (0,[]) (a0.fst,[]) a0.snd (↑(List.length a0.snd):Int) 0:=(Eq.trans (by kernel_rfl:FQ a0 a1=aC L5 (Tryz.f363.body.getD .skip) PG (aY 38 [(aD,Mode.ro),(Ty.cap (some 377) Ty.unit,Mode.ro)] (a0,a1,()))) (all_eq W0 _)).trans (by kernel_rfl)
def uM(a0:Int×List ab):Option ((aU×Bool×PUnit)×PUnit):=Nc.ao (a0,())
theorem aeO(a0:Int×List ab):uM a0 =
 (jN a0).bind λy =>
 bif !y.fst.fst then some (((0,[]),false,()),())
 else (FQ a0 (some ())).bind λy=>some ((y.fst.fst,y.fst.snd.fst,()),()):=by kernel_rfl
def DD:Env:=EH.env C Ap.1 Tryz.f376
def DU:=EH.out C
def rf(x2:Int×List ab)(x3:Int×List aa)(x4:Int×List ab)(x6:Int×List ab)(x8:Int×List aa)(cC:List ab)(dx:Int)(da:Int)(eD:List aa)(cM:Int)(eP:Int):Option ((aU×Bool×PUnit)×PUnit):=aM DD [1,1,0,1,0,0,1,1,0,0,1,1,0] (Tryz.f376.body.getD .skip) DU (dd 2 (V.box none 0 aD x2::V.box none 0 av x3::V.box none 1 aD x4::V.dead::(V.box none 1 aD x6::V.dead::(V.box none 0 av x8::dd 11 (V.d none 0 (Ty.slice 45 av) cC::V.d none 0 (Ty.int IntKind.i64) dx::V.d none 0 (Ty.int IntKind.i64) da::dd 4 (V.d none 0 (Ty.slice 153 aJ) eD::V.d none 0 (Ty.int IntKind.i64) cM::V.d none 0 (Ty.int IntKind.i64) eP::dd 41 ([])))))))
def uw(x2:Int×List ab)(x3:Int×List aa)(x4:Int×List ab)(x6:Int×List ab)(cC:List ab)(dx:Int)(da:Int):Option ((aU×Bool×PUnit)×PUnit):=aM DD [1,1,0,1,0] (Tryz.f376.body.getD .skip) DU (dd 2 (V.box none 0 aD x2::V.box none 0 av x3::V.box none 1 aD x4::V.dead::(V.box none 1 aD x6::dd 13 (V.d none 0 (Ty.slice 45 av) cC::V.d none 0 (Ty.int IntKind.i64) dx::V.d none 0 (Ty.int IntKind.i64) da::dd 48 ([])))))
def zn(a0:Int×List ab)(a1:Int×List aa):Option ((aU×Bool×PUnit)×PUnit):=NT.ao (a0,a1,())
def ak9:List (Nat×List Nat):=[(1000003,[1,1,0,1,0]),(1000006,[1,1,0,1,0,0,1,1,0,0,1,1,0])]
theorem JN:okB ak9 (Tryz.f376.body.getD .skip) []=true:=by kernel_rfl
theorem Rg(x2:Int×List ab)(x3:Int×List aa)(x4:Int×List ab)(x6:Int×List ab)(x8:Int×List aa)(cC:List ab)(dx:Int)(da:Int)(eD:List aa)(cM:Int)(eP:Int):rf x2 x3 x4 x6 x8 cC dx da eD cM eP =
 bif decide (eP<cM)then
 (ae eD eP).bind λy =>
 (uN y).bind λy =>
  bif !y.fst.snd.fst then some (((0,[]),false,()),())
  else
  bif decide (0<=0)&&decide (0<=eP)&&decide (eP<=(↑(List.length x3.snd):Int))then
   bif decide ((0+(List.drop (Int.toNat 0) (List.take eP.toNat x3.snd)).length)*40<=140737488355328)then
   bif decide (((List.drop (Int.toNat 0) (List.take eP.toNat x3.snd)).length+1)*40<=140737488355328)then
    (rF x8 (x2.fst,List.drop (Int.toNat 0) (List.take eP.toNat x3.snd)++[y.fst.fst])).bind λy =>
    bif !y.fst.snd.fst then some (((0,[]),false,()),())
    else
     (mR x6 y.fst.fst).bind λy =>
     bif !y.fst.fst then some (((0,[]),false,()),())
     else rf x2 x3 x4 y.snd.fst x8 cC dx da eD cM (IntKind.i64.wrap (eP+1))
   else none
   else none
  else none
else uw x2 x3 x4 x6 cC dx (IntKind.i64.wrap (da+1)):=(aQ JN [1,1,0,1,0,0,1,1,0,0,1,1,0] (by kernel_rfl) _).trans (by kernel_rfl)
theorem Rf(x2:Int×List ab)(x3:Int×List aa)(x4:Int×List ab)(x6:Int×List ab)(cC:List ab)(dx:Int)(da:Int):uw x2 x3 x4 x6 cC dx da =
 bif decide (da<dx)then
 (ae cC da).bind λy=>rf x2 x3 x4 x6 y cC dx da x3.snd (↑(List.length x3.snd):Int) 0
else some ((x6,true,()),()):=(aQ JN [1,1,0,1,0] (by kernel_rfl) _).trans (by kernel_rfl)
theorem afz(a0:Int×List ab)(a1:Int×List aa):zn a0 a1 =
 uw a0 a1 (0,[]) (a0.fst,[]) a0.snd (↑(List.length a0.snd):Int) 0:=(Eq.trans (by kernel_rfl:zn a0 a1=aC DD (Tryz.f376.body.getD .skip) DU (aY 71 [(aD,Mode.ro),(av,Mode.ro)] (a0,a1,()))) (all_eq JN _)).trans (by kernel_rfl)
def LJ:Env:=Ed.env C AJ.1 Tryz.f366
def Po:=Ed.out C
def yc(x3:Int×List ab)(x4:Int×List ab)(x6:Int×List ab)(jG:List ab)(xD:Int)(tR:Int):Option ((aU×Bool×PUnit)×PUnit):=aM LJ [1,1,1,1,0,1,0] (Tryz.f366.body.getD .skip) Po (dd 3 (V.box none 0 aD x3::V.box none 0 aD x4::V.dead::(V.box none 0 aD x6::dd 30 (V.d none 0 (Ty.slice 45 av) jG::V.d none 0 (Ty.int IntKind.i64) xD::V.d none 0 (Ty.int IntKind.i64) tR::dd 22 ([])))))
def y4(a0:Int×List ab)(a1:Int×List ab):Option ((aU×Bool×PUnit)×PUnit):=MQ.ao (a0,a1,())
def akG:List (Nat×List Nat):=[(1000007,[1,1,1,1,0,1,0])]
theorem WH:okB akG (Tryz.f366.body.getD .skip) []=true:=by kernel_rfl
theorem Qp(x3:Int×List ab)(x4:Int×List ab)(x6:Int×List ab)(jG:List ab)(xD:Int)(tR:Int):yc x3 x4 x6 jG xD tR =
 bif decide (tR<xD)then
 (ae jG tR).bind λy =>
 (uL y).bind λy =>
  bif !y.fst.snd.fst then some (((0,[]),false,()),())
  else
  (zn x6 y.fst.fst).bind λy =>
   bif !y.fst.snd.fst then some (((0,[]),false,()),())
   else yc x3 x4 y.fst.fst jG xD (IntKind.i64.wrap (tR+1))
else some ((x6,true,()),()):=(aQ WH [1,1,1,1,0,1,0] (by kernel_rfl) _).trans (by kernel_rfl)
theorem aej(a0:Int×List ab)(a1:Int×List ab):y4 a0 a1 =
 (jN a0).bind λy =>
 bif !y.fst.fst then some (((0,[]),false,()),())
 else
 (jN a1).bind λy =>
  bif !y.fst.fst then some (((0,[]),false,()),())
  else
  bif a0.fst != a1.fst then some (((0,[]),false,()),())
  else
   (uM a0).bind λy =>
   bif !y.fst.snd.fst then some (((0,[]),false,()),())
   else yc a1 (0,[]) y.fst.fst a1.snd (↑(List.length a1.snd):Int) 0:=(Eq.trans (by kernel_rfl:y4 a0 a1=aC LJ (Tryz.f366.body.getD .skip) Po (aY 62 [(aD,Mode.ro),(aD,Mode.ro)] (a0,a1,()))) (all_eq WH _)).trans (by kernel_rfl)
def uH(a0:Int×List ab):Option ((aU×Bool×PUnit)×PUnit):=MP.ao (a0,())
theorem aei(a0:Int×List ab):uH a0 =
 (jN a0).bind λy =>
 bif !y.fst.fst then some (((0,[]),false,()),())
 else
 (S4 (a0.fst,[])).bind λy =>
  (y4 y.fst.fst a0).bind λy=>some ((y.fst.fst,y.fst.snd.fst,()),()):=by kernel_rfl
def Dy:Env:=En.env C Ag.1 Tryz.f344
def DR:=En.out C
def yf(x2:Int×List ab)(x3:Int×List ab)(x4:Int×List ab)(x6:Int×List ab)(x8:Int×List aa)(iA:List ab)(fq:Int)(eX:Int)(xE:List ab)(xF:Int)(tS:Int):Option ((aU×Bool×PUnit)×PUnit):=aM Dy [1,1,1,0,1,0,0,1,1,0,0,1,1,0] (Tryz.f344.body.getD .skip) DR (dd 2 (V.box none 0 aD x2::V.box none 0 aD x3::V.box none 1 aD x4::V.dead::(V.box none 1 aD x6::V.dead::(V.box none 0 av x8::dd 25 (V.d none 0 (Ty.slice 45 av) iA::V.d none 0 (Ty.int IntKind.i64) fq::V.d none 0 (Ty.int IntKind.i64) eX::dd 4 (V.d none 0 (Ty.slice 45 av) xE::V.d none 0 (Ty.int IntKind.i64) xF::V.d none 0 (Ty.int IntKind.i64) tS::dd 20 ([])))))))
def ug(x2:Int×List ab)(x3:Int×List ab)(x4:Int×List ab)(x6:Int×List ab)(iA:List ab)(fq:Int)(eX:Int):Option ((aU×Bool×PUnit)×PUnit):=aM Dy [1,1,1,0,1,0] (Tryz.f344.body.getD .skip) DR (dd 2 (V.box none 0 aD x2::V.box none 0 aD x3::V.box none 1 aD x4::V.dead::(V.box none 1 aD x6::dd 27 (V.d none 0 (Ty.slice 45 av) iA::V.d none 0 (Ty.int IntKind.i64) fq::V.d none 0 (Ty.int IntKind.i64) eX::dd 27 ([])))))
def zb(a0:Int×List ab)(a1:Int×List ab):Option ((aU×Bool×PUnit)×PUnit):=M9.ao (a0,a1,())
def akQ:List (Nat×List Nat):=[(1000005,[1,1,1,0,1,0]),(1000008,[1,1,1,0,1,0,0,1,1,0,0,1,1,0])]
theorem JK:okB akQ (Tryz.f344.body.getD .skip) []=true:=by kernel_rfl
theorem QI(x2:Int×List ab)(x3:Int×List ab)(x4:Int×List ab)(x6:Int×List ab)(x8:Int×List aa)(iA:List ab)(fq:Int)(eX:Int)(xE:List ab)(xF:Int)(tS:Int):yf x2 x3 x4 x6 x8 iA fq eX xE xF tS =
 bif decide (tS<xF)then
 (ae xE tS).bind λy =>
 (rF x8 y).bind λy =>
  bif !y.fst.snd.fst then some (((0,[]),false,()),())
  else
  (mR x6 y.fst.fst).bind λy =>
   bif !y.fst.fst then some (((0,[]),false,()),())
   else yf x2 x3 x4 y.snd.fst x8 iA fq eX xE xF (IntKind.i64.wrap (tS+1))
else ug x2 x3 x4 x6 iA fq (IntKind.i64.wrap (eX+1)):=(aQ JK [1,1,1,0,1,0,0,1,1,0,0,1,1,0] (by kernel_rfl) _).trans (by kernel_rfl)
theorem QH(x2:Int×List ab)(x3:Int×List ab)(x4:Int×List ab)(x6:Int×List ab)(iA:List ab)(fq:Int)(eX:Int):ug x2 x3 x4 x6 iA fq eX =
 bif decide (eX<fq)then
 (ae iA eX).bind λy=>yf x2 x3 x4 x6 y iA fq eX x3.snd (↑(List.length x3.snd):Int) 0
else some ((x6,true,()),()):=(aQ JK [1,1,1,0,1,0] (by kernel_rfl) _).trans (by kernel_rfl)
theorem aeI(a0:Int×List ab)(a1:Int×List ab):zb a0 a1 =
 (jN a0).bind λy =>
 bif !y.fst.fst then some (((0,[]),false,()),())
 else
 (jN a1).bind λy =>
  bif !y.fst.fst then some (((0,[]),false,()),())
  else
  bif a0.fst != a1.fst then some (((0,[]),false,()),())
  else ug a0 a1 (0,[]) (a0.fst,[]) a0.snd (↑(List.length a0.snd):Int) 0:=(Eq.trans (by kernel_rfl:zb a0 a1=aC Dy (Tryz.f344.body.getD .skip) DR (aY 64 [(aD,Mode.ro),(aD,Mode.ro)] (a0,a1,()))) (all_eq JK _)).trans (by kernel_rfl)
def FH(a0:Int×List ab)(a1:Int×List ab):Option ((aU×Bool×PUnit)×PUnit):=Nj.ao (a0,a1,())
theorem aeU(a0:Int×List ab)(a1:Int×List ab):FH a0 a1 =
 (jN a0).bind λy =>
 bif !y.fst.fst then some (((0,[]),false,()),())
 else
 (jN a1).bind λy =>
  bif !y.fst.fst then some (((0,[]),false,()),())
  else
  bif a0.fst != a1.fst then some (((0,[]),false,()),())
  else
   (uM a0).bind λy =>
   bif !y.fst.snd.fst then some (((0,[]),false,()),())
   else
    (uM a1).bind λaA =>
    bif !aA.fst.snd.fst then some (((0,[]),false,()),())
    else
     bif
      decide
      (IntKind.i64.wrap ((↑(List.length y.fst.fst.snd):Int)+(↑(List.length aA.fst.fst.snd):Int))>12)then
     some (((0,[]),false,()),())
     else
     bif decide ((List.length y.fst.fst.snd+List.length aA.fst.fst.snd)*32<=140737488355328)then
      some (((y.fst.fst.fst,y.fst.fst.snd++aA.fst.fst.snd),true,()),())
     else none:=by kernel_rfl
def Fy(a0:Int×List aa)(a1:Option Int):Option ((ab×Bool×PUnit)×PUnit):=MS.ao (a0,a1,())
theorem aem(a0:Int×List aa)(a1:Option Int):Fy a0 a1 =
 (FF a0).bind λy =>
 bif !y.fst.snd.fst then some (((0,[]),false,()),())
 else a1.bind λaA=>(uI y.fst.fst aA).bind λy=>some ((y.fst.fst,y.fst.snd.fst,()),()):=by kernel_rfl
def L4:Env:=EB.env C Ah.1 Tryz.f363
def PF:=EB.out C
def ym(x1:Option (Option Int×PUnit))(x2:Int×List ab)(x4:Int×List ab)(x6:Int×List ab)(cb:List ab)(dw:Int)(bR:Int):Option ((aU×Bool×PUnit)×PUnit):=aM L4 [1,1,0,1,0] (Tryz.f363.body.getD .skip) PF (V.dead::(V.d none 0 (Ty.cap (some 369) ((Ty.cap none ak).pair Ty.unit)) x1::V.box none 0 aD x2::V.dead::(V.box none 1 aD x4::V.dead::(V.box none 1 aD x6::dd 9 (V.d none 0 (Ty.slice 45 av) cb::V.d none 0 (Ty.int IntKind.i64) dw::V.d none 0 (Ty.int IntKind.i64) bR::dd 19 ([]))))))
def FP(a0:Int×List ab)(a1:Option (Option Int×PUnit)):Option ((aU×Bool×PUnit)×PUnit):=NH.ao (a0,a1,())
def ak3:List (Nat×List Nat):=[(1000003,[1,1,0,1,0])]
theorem WZ:okB ak3 (Tryz.f363.body.getD .skip) []=true:=by kernel_rfl
theorem QZ(x1:Option (Option Int×PUnit))(x2:Int×List ab)(x4:Int×List ab)(x6:Int×List ab)(cb:List ab)(dw:Int)(bR:Int):ym x1 x2 x4 x6 cb dw bR =
 bif decide (bR<dw)then
 (ae cb bR).bind λy =>
 x1.bind λaA =>
  (Fy y aA.fst).bind λy =>
  bif !y.fst.snd.fst then some (((0,[]),false,()),())
  else
   (mR x6 y.fst.fst).bind λy =>
   bif !y.fst.fst then some (((0,[]),false,()),())
   else ym x1 x2 x4 y.snd.fst cb dw (IntKind.i64.wrap (bR+1))
else some ((x6,true,()),()):=(aQ WZ [1,1,0,1,0] (by kernel_rfl) _).trans (by kernel_rfl)
theorem afl(a0:Int×List ab)(a1:Option (Option Int×PUnit)):FP a0 a1 =
 ym a1 a0 (0,[]) (a0.fst,[]) a0.snd (↑(List.length a0.snd):Int) 0:=(Eq.trans (by kernel_rfl:FP a0 a1=aC L4 (Tryz.f363.body.getD .skip) PF (aY 38 [(aD,Mode.ro),(Ty.cap (some 369) ((Ty.cap none ak).pair Ty.unit),Mode.ro)] (a0,a1,()))) (all_eq WZ _)).trans (by kernel_rfl)
def y5(a0:Int×List ab)(a1:Int):Option ((aU×Bool×PUnit)×PUnit):=MR.ao (a0,a1,())
theorem aen(a0:Int×List ab)(a1:Int):y5 a0 a1 =
 (jN a0).bind λy =>
 bif !y.fst.fst then some (((0,[]),false,()),())
 else
 bif decide (a1<0)then some (((0,[]),false,()),())
 else
  bif decide (a1>=a0.fst)then some (((0,[]),false,()),())
  else (FP a0 (some (some a1,()))).bind λy=>some ((y.fst.fst,y.fst.snd.fst,()),()):=by kernel_rfl
def zk(a0:List Rel)(a1:Int×aa×ByteArray×ByteArray×List Int×Int×Int×Int)(a2:List aU):Option ((aU×Bool×PUnit) ×
 List aU×PUnit):=NK.ao (a0,a1,a2,())
theorem afo(a0:List Rel)(a1:Int×aa×ByteArray×ByteArray×List Int×Int×Int×Int)(a2:List aU):zk a0 a1 a2 =
 bif a1.fst==0 then
 (uP a1.snd.fst).bind λy =>
 (mR (4,[]) (4,[y.fst.fst])).bind λy=>some ((y.snd.fst,y.fst.fst,()),a2,())
else
 bif a1.fst==1 then (S5 a0 a1).bind λy=>some ((y.fst.fst,y.fst.snd.fst,()),a2,())
 else
 bif a1.fst==2 then
  (ae a2 a1.snd.snd.snd.snd.snd.snd.fst).bind λy =>
  (ae a2 a1.snd.snd.snd.snd.snd.snd.fst).bind λy =>
   (uH y).bind λy=>some ((y.fst.fst,y.fst.snd.fst,()),a2,())
 else
  bif a1.fst==3 then
  (ae a2 a1.snd.snd.snd.snd.snd.snd.fst).bind λy =>
   (ae a2 a1.snd.snd.snd.snd.snd.snd.fst).bind λy =>
   (ae a2 a1.snd.snd.snd.snd.snd.snd.snd).bind λaA =>
    (ae a2 a1.snd.snd.snd.snd.snd.snd.snd).bind λbU =>
    (zb y bU).bind λy=>some ((y.fst.fst,y.fst.snd.fst,()),a2,())
  else
  bif a1.fst==4 then
   (ae a2 a1.snd.snd.snd.snd.snd.snd.fst).bind λy =>
   (ae a2 a1.snd.snd.snd.snd.snd.snd.fst).bind λy =>
    (ae a2 a1.snd.snd.snd.snd.snd.snd.snd).bind λaA =>
    (ae a2 a1.snd.snd.snd.snd.snd.snd.snd).bind λbU =>
     (FH y bU).bind λy=>some ((y.fst.fst,y.fst.snd.fst,()),a2,())
  else
   bif a1.fst==5 then
   (ae a2 a1.snd.snd.snd.snd.snd.snd.fst).bind λy =>
    (ae a2 a1.snd.snd.snd.snd.snd.snd.fst).bind λy =>
    (y5 y a1.snd.snd.snd.snd.snd.fst).bind λy=>some ((y.fst.fst,y.fst.snd.fst,()),a2,())
   else
   (ae a2 a1.snd.snd.snd.snd.snd.snd.fst).bind λy =>
    (ae a2 a1.snd.snd.snd.snd.snd.snd.fst).bind λy =>
    (uH y).bind λy =>
     bif !y.fst.snd.fst then some (((0,[]),false,()),a2,())
     else
     (y5 y.fst.fst a1.snd.snd.snd.snd.snd.fst).bind λy =>
      bif !y.fst.snd.fst then some (((0,[]),false,()),a2,())
      else (uH y.fst.fst).bind λy=>some ((y.fst.fst,y.fst.snd.fst,()),a2,()):=by kernel_rfl
def Ma:Env:=EG.env C AE.1 Tryz.f256
def PJ:=EG.out C
def uv(x0:List Rel)(x1:List al)(x6:List aU)(cb:List al)(dw:Int)(bR:Int):Option ((List aU×Bool×PUnit)×PUnit):=aM Ma [1,1,1,0,1,0] (Tryz.f256.body.getD .skip) PJ (V.d none 0 bz x0::V.d none 0 bS x1::dd 4 (V.d none 1 (Ty.slice 37 aD) x6::dd 9 (V.d none 0 bS cb::V.d none 0 (Ty.int IntKind.i64) dw::V.d none 0 (Ty.int IntKind.i64) bR::dd 18 ([]))))
def FW(a0:List Rel)(a1:List al):Option ((List aU×Bool×PUnit)×PUnit):=NP.ao (a0,a1,())
def ak8:List (Nat×List Nat):=[(1000005,[1,1,1,0,1,0])]
theorem W3:okB ak8 (Tryz.f256.body.getD .skip) []=true:=by kernel_rfl
theorem Rc(x0:List Rel)(x1:List al)(x6:List aU)(cb:List al)(dw:Int)(bR:Int):uv x0 x1 x6 cb dw bR =
 bif decide (bR<dw)then
 (ae cb bR).bind λy =>
 (zk x0 y x6).bind λy =>
  bif !y.fst.snd.fst then some (([],false,()),())
  else
  bif decide ((List.length y.snd.fst+1)*32<=140737488355328)then
   uv x0 x1 (y.snd.fst++[y.fst.fst]) cb dw (IntKind.i64.wrap (bR+1))
  else none
else some ((x6,true,()),()):=(aQ W3 [1,1,1,0,1,0] (by kernel_rfl) _).trans (by kernel_rfl)
theorem afv(a0:List Rel)(a1:List al):FW a0 a1 =
 (uJ a0 a1).bind λy =>
 bif !y.fst.fst then some (([],false,()),())else uv a0 a1 [] a1 (↑a1.length:Int) 0:=(Eq.trans (by kernel_rfl:FW a0 a1=aC Ma (Tryz.f256.body.getD .skip) PJ (aY 37 [(bz,Mode.ro),(bS,Mode.ro)] (a0,a1,()))) (all_eq W3 _)).trans (by kernel_rfl)
def Fz(a0:List Rel)(a1:List al):Option ((aU×Bool×PUnit)×PUnit):=MU.ao (a0,a1,())
theorem aep(a0:List Rel)(a1:List al):Fz a0 a1 =
 (FW a0 a1).bind λy =>
 bif !y.fst.snd.fst then some (((0,[]),false,()),())
 else (ae y.fst.fst (IntKind.i64.wrap ((↑(List.length y.fst.fst):Int) - 1))).bind λy=>some ((y,true,()),()):=by kernel_rfl
def FG(a0:List Rel)(a1:List al):Option ((Bool×Bool×PUnit)×PUnit):=Ni.ao (a0,a1,())
theorem aeS(a0:List Rel)(a1:List al):FG a0 a1 =
 (FC a0 a1).bind λy =>
 bif !y.fst.fst then some ((false,false,()),())
 else
 (Fz a0 a1).bind λy =>
  bif y.fst.snd.fst then some ((decide ((↑(List.length y.fst.fst.snd):Int)>0),y.fst.snd.fst,()),())
  else some ((false,y.fst.snd.fst,()),()):=by kernel_rfl
def Mz:Env:=Fh.env C As.1 Tryz.f64
def P9:=Fh.out C
def yL(x0:List Int)(x1:List Int)(x5:Int):Option ((Bool×PUnit)×PUnit):=aM Mz [1,1,0,1,0] (Tryz.f64.body.getD .skip) P9 (V.d none 0 bl x0::V.d none 0 bl x1::dd 3 (V.d none 0 (Ty.int IntKind.i64) x5::dd 20 ([])))
def u9(a0:List Int)(a1:List Int):Option ((Bool×PUnit)×PUnit):=OR.ao (a0,a1,())
def alJ:List (Nat×List Nat):=[(1000004,[1,1,0,1,0])]
theorem Xt:okB alJ (Tryz.f64.body.getD .skip) []=true:=by kernel_rfl
theorem Sj(x0:List Int)(x1:List Int)(x5:Int):yL x0 x1 x5 =
 bif decide (x5<(↑x0.length:Int))then
 (ae x0 x5).bind λy =>
 (ae x1 x5).bind λaA =>
  bif y != aA then some ((false,()),())else yL x0 x1 (IntKind.i64.wrap (x5+1))
else some ((true,()),()):=(aQ Xt [1,1,0,1,0] (by kernel_rfl) _).trans (by kernel_rfl)
theorem agN(a0:List Int)(a1:List Int):u9 a0 a1 =
 bif (↑a0.length:Int) != (↑a1.length:Int)then some ((false,()),())else yL a0 a1 0:=(Eq.trans (by kernel_rfl:u9 a0 a1=aC Mz (Tryz.f64.body.getD .skip) P9 (aY 26 [(bl,Mode.ro),(bl,Mode.ro)] (a0,a1,()))) (all_eq Xt _)).trans (by kernel_rfl)
def zO(a0:aa)(a1:aa):Option ((Bool×PUnit)×PUnit):=OO.ao (a0,a1,())
theorem agK(a0:aa)(a1:aa):zO a0 a1 =
 (u9 a0.fst a1.fst).bind λy =>
 bif !y.fst.fst then some ((false,()),())
 else
 bif a0.snd.fst != a1.snd.fst then some ((false,()),())
 else bif !a0.snd.snd==a1.snd.snd then some ((false,()),())else some ((true,()),()):=by kernel_rfl
def My:Env:=Fg.env C Bl.1 Tryz.f298
def P8:=Fg.out C
def yK(x0:List aa)(x1:List aa)(x5:Int):Option ((Bool×PUnit)×PUnit):=aM My [1,1,0,1,0] (Tryz.f298.body.getD .skip) P8 (V.d none 0 dT x0::V.d none 0 dT x1::dd 3 (V.d none 0 (Ty.int IntKind.i64) x5::dd 21 ([])))
def zP(a0:List aa)(a1:List aa):Option ((Bool×PUnit)×PUnit):=OP.ao (a0,a1,())
def alI:List (Nat×List Nat):=[(1000004,[1,1,0,1,0])]
theorem Xr:okB alI (Tryz.f298.body.getD .skip) []=true:=by kernel_rfl
theorem Si(x0:List aa)(x1:List aa)(x5:Int):yK x0 x1 x5 =
 bif decide (x5<(↑x0.length:Int))then
 (ae x0 x5).bind λy =>
 (ae x1 x5).bind λaA =>
  (zO y aA).bind λy =>
  bif !y.fst.fst then some ((false,()),())else yK x0 x1 (IntKind.i64.wrap (x5+1))
else some ((true,()),()):=(aQ Xr [1,1,0,1,0] (by kernel_rfl) _).trans (by kernel_rfl)
theorem agI(a0:List aa)(a1:List aa):zP a0 a1 =
 bif (↑a0.length:Int) != (↑a1.length:Int)then some ((false,()),())else yK a0 a1 0:=(Eq.trans (by kernel_rfl:zP a0 a1=aC My (Tryz.f298.body.getD .skip) P8 (aY 27 [(dT,Mode.ro),(dT,Mode.ro)] (a0,a1,()))) (all_eq Xr _)).trans (by kernel_rfl)
def Gd(a0:Int×List aa)(a1:Int×List aa):Option ((Bool×PUnit)×PUnit):=OQ.ao (a0,a1,())
theorem agL(a0:Int×List aa)(a1:Int×List aa):Gd a0 a1 =
 bif a0.fst != a1.fst then some ((false,()),())
else (zP a0.snd a1.snd).bind λy=>bif !y.fst.fst then some ((false,()),())else some ((true,()),()):=by kernel_rfl
def Gg(a0:ByteArray×Int×List aa)(a1:ByteArray×Int×List aa):Option ((Bool×PUnit)×PUnit):=OW.ao (a0,a1,())
theorem agY(a0:ByteArray×Int×List aa)(a1:ByteArray×Int×List aa):Gg a0 a1 =
 bif !ByteArray.toList a0.fst==ByteArray.toList a1.fst then some ((false,()),())
else (Gd a0.snd a1.snd).bind λy=>bif !y.fst.fst then some ((false,()),())else some ((true,()),()):=by kernel_rfl
def MC:Env:=Fk.env C Bo.1 Tryz.f245
def Qc:=Fk.out C
def yO(x0:List Rw)(x1:List Rw)(x5:Int):Option ((Bool×PUnit)×PUnit):=aM MC [1,1,0,1,0] (Tryz.f245.body.getD .skip) Qc (V.d none 0 mK x0::V.d none 0 mK x1::dd 3 (V.d none 0 (Ty.int IntKind.i64) x5::dd 21 ([])))
def zU(a0:List Rw)(a1:List Rw):Option ((Bool×PUnit)×PUnit):=OX.ao (a0,a1,())
def alM:List (Nat×List Nat):=[(1000004,[1,1,0,1,0])]
theorem Xw:okB alM (Tryz.f245.body.getD .skip) []=true:=by kernel_rfl
theorem Sm(x0:List Rw)(x1:List Rw)(x5:Int):yO x0 x1 x5 =
 bif decide (x5<(↑x0.length:Int))then
 (ae x0 x5).bind λy =>
 (ae x1 x5).bind λaA =>
  (Gg y aA).bind λy =>
  bif !y.fst.fst then some ((false,()),())else yO x0 x1 (IntKind.i64.wrap (x5+1))
else some ((true,()),()):=(aQ Xw [1,1,0,1,0] (by kernel_rfl) _).trans (by kernel_rfl)
theorem agW(a0:List Rw)(a1:List Rw):zU a0 a1 =
 bif (↑a0.length:Int) != (↑a1.length:Int)then some ((false,()),())else yO a0 a1 0:=(Eq.trans (by kernel_rfl:zU a0 a1=aC MC (Tryz.f245.body.getD .skip) Qc (aY 27 [(mK,Mode.ro),(mK,Mode.ro)] (a0,a1,()))) (all_eq Xw _)).trans (by kernel_rfl)
def Gf(a0:ByteArray×Int×List Rw)(a1:ByteArray×Int×List Rw):Option ((Bool×PUnit)×PUnit):=OU.ao (a0,a1,())
theorem agU(a0:ByteArray×Int×List Rw)(a1:ByteArray×Int×List Rw):Gf a0 a1 =
 bif !ByteArray.toList a0.fst==ByteArray.toList a1.fst then some ((false,()),())
else
 bif a0.snd.fst != a1.snd.fst then some ((false,()),())
 else
 (zU a0.snd.snd a1.snd.snd).bind λy=>bif !y.fst.fst then some ((false,()),())else some ((true,()),()):=by kernel_rfl
def MB:Env:=Fj.env C Bn.1 Tryz.f48
def Qb:=Fj.out C
def yN(x0:List Rel)(x1:List Rel)(x5:Int):Option ((Bool×PUnit)×PUnit):=aM MB [1,1,0,1,0] (Tryz.f48.body.getD .skip) Qb (V.d none 0 bz x0::V.d none 0 bz x1::dd 3 (V.d none 0 (Ty.int IntKind.i64) x5::dd 21 ([])))
def zT(a0:List Rel)(a1:List Rel):Option ((Bool×PUnit)×PUnit):=OV.ao (a0,a1,())
def alL:List (Nat×List Nat):=[(1000004,[1,1,0,1,0])]
theorem Xv:okB alL (Tryz.f48.body.getD .skip) []=true:=by kernel_rfl
theorem Sl(x0:List Rel)(x1:List Rel)(x5:Int):yN x0 x1 x5 =
 bif decide (x5<(↑x0.length:Int))then
 (ae x0 x5).bind λy =>
 (ae x1 x5).bind λaA =>
  (Gf y aA).bind λy =>
  bif !y.fst.fst then some ((false,()),())else yN x0 x1 (IntKind.i64.wrap (x5+1))
else some ((true,()),()):=(aQ Xv [1,1,0,1,0] (by kernel_rfl) _).trans (by kernel_rfl)
theorem agS(a0:List Rel)(a1:List Rel):zT a0 a1 =
 bif (↑a0.length:Int) != (↑a1.length:Int)then some ((false,()),())else yN a0 a1 0:=(Eq.trans (by kernel_rfl:zT a0 a1=aC MB (Tryz.f48.body.getD .skip) Qb (aY 27 [(bz,Mode.ro),(bz,Mode.ro)] (a0,a1,()))) (all_eq Xv _)).trans (by kernel_rfl)
def Ge(a0:Int×aa×ByteArray×ByteArray×List Int×Int×Int×Int)(a1:Int×aa×ByteArray×ByteArray×List Int×Int×Int×Int):Option ((Bool×PUnit)×PUnit):=OS.ao (a0,a1,())
theorem agQ(a0:Int×aa×ByteArray×ByteArray×List Int×Int×Int×Int)(a1:Int×aa×ByteArray×ByteArray×List Int×Int×Int×Int):Ge a0 a1 =
 bif a0.fst != a1.fst then some ((false,()),())
else
 (zO a0.snd.fst a1.snd.fst).bind λy =>
 bif !y.fst.fst then some ((false,()),())
 else
  bif !ByteArray.toList a0.snd.snd.fst==ByteArray.toList a1.snd.snd.fst then some ((false,()),())
  else
  bif !ByteArray.toList a0.snd.snd.snd.fst==ByteArray.toList a1.snd.snd.snd.fst then some ((false,()),())
  else
   (u9 a0.snd.snd.snd.snd.fst a1.snd.snd.snd.snd.fst).bind λy =>
   bif !y.fst.fst then some ((false,()),())
   else
    bif a0.snd.snd.snd.snd.snd.fst != a1.snd.snd.snd.snd.snd.fst then some ((false,()),())
    else
    bif a0.snd.snd.snd.snd.snd.snd.fst != a1.snd.snd.snd.snd.snd.snd.fst then some ((false,()),())
    else
     bif a0.snd.snd.snd.snd.snd.snd.snd != a1.snd.snd.snd.snd.snd.snd.snd then some ((false,()),())
     else some ((true,()),()):=by kernel_rfl
def MA:Env:=Fi.env C Bm.1 Tryz.f56
def Qa:=Fi.out C
def yM(x0:List al)(x1:List al)(x5:Int):Option ((Bool×PUnit)×PUnit):=aM MA [1,1,0,1,0] (Tryz.f56.body.getD .skip) Qa (V.d none 0 bS x0::V.d none 0 bS x1::dd 3 (V.d none 0 (Ty.int IntKind.i64) x5::dd 21 ([])))
def zS(a0:List al)(a1:List al):Option ((Bool×PUnit)×PUnit):=OT.ao (a0,a1,())
def alK:List (Nat×List Nat):=[(1000004,[1,1,0,1,0])]
theorem Xu:okB alK (Tryz.f56.body.getD .skip) []=true:=by kernel_rfl
theorem Sk(x0:List al)(x1:List al)(x5:Int):yM x0 x1 x5 =
 bif decide (x5<(↑x0.length:Int))then
 (ae x0 x5).bind λy =>
 (ae x1 x5).bind λaA =>
  (Ge y aA).bind λy =>
  bif !y.fst.fst then some ((false,()),())else yM x0 x1 (IntKind.i64.wrap (x5+1))
else some ((true,()),()):=(aQ Xu [1,1,0,1,0] (by kernel_rfl) _).trans (by kernel_rfl)
theorem agO(a0:List al)(a1:List al):zS a0 a1 =
 bif (↑a0.length:Int) != (↑a1.length:Int)then some ((false,()),())else yM a0 a1 0:=(Eq.trans (by kernel_rfl:zS a0 a1=aC MA (Tryz.f56.body.getD .skip) Qa (aY 27 [(bS,Mode.ro),(bS,Mode.ro)] (a0,a1,()))) (all_eq Xu _)).trans (by kernel_rfl)
def Gc(a0:List Rel)(a1:List al):Option ((Bool×PUnit)×PUnit):=DL.ao (a0,a1,())
theorem agH(a0:List Rel)(a1:List al):Gc a0 a1 =
 (z6 a0 1048576).bind λy =>
 bif decide (y.fst.fst<0)then some ((true,()),())
 else
 (zY a1 y.fst.fst).bind λy =>
  bif decide (y.fst.fst<0)then some ((true,()),())
  else
  (rY a0).bind λy =>
   (rX a1).bind λaA =>
   (F4 y.fst.fst aA.fst.fst).bind λy =>
    (rY a0).bind λbU =>
    (rX a1).bind λdc =>
     (FG bU.fst.fst dc.fst.fst).bind λgS =>
     bif !gS.fst.fst==y.fst.fst then some ((false,()),())
     else
      bif !gS.fst.snd.fst==y.fst.snd.fst then some ((false,()),())
      else
      (rY a0).bind λy =>
       (zT bU.fst.fst y.fst.fst).bind λy =>
       bif !y.fst.fst then some ((false,()),())
       else
        (rX a1).bind λy =>
        (zS dc.fst.fst y.fst.fst).bind λy =>
         bif !y.fst.fst then some ((false,()),())else some ((true,()),()):=by kernel_rfl
end
end Go.Proofs.YtbhogmdpmkpinaaGreat.P.It
