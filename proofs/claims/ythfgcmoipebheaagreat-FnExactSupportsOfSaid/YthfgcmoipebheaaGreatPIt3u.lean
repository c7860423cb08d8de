/- A part of the proof: It3u. No conditions. -/
import Derived.Test.YthfgcmoipebheaaGreatPIt2u
import Derived.Test.YthfgcmoipebheaaGreatPG8
import Derived.Test.YthfgcmoipebheaaGreatChecked
import Derived.KernelRfl
set_option linter.unusedVariables false
set_option maxRecDepth 100000
namespace Go.Proofs.YthfgcmoipebheaaGreat.P.It
open Am
noncomputable section
def zu(a0:List Int)(a1:Int):Option ((Int×PUnit)×PUnit):=N6.ao (a0,a1,())
theorem aeX(a0:List Int)(a1:Int):zu a0 a1 =
 bif decide (IntKind.i64.wrap (a1 - (↑a0.length:Int))<0)then some ((-1,()),())
else some ((IntKind.i64.wrap (a1 - (↑a0.length:Int)),()),()):=by kernel_rfl
def uj(a0:aa)(a1:Int):Option ((Int×PUnit)×PUnit):=N3.ao (a0,a1,())
theorem aeU(a0:aa)(a1:Int):uj a0 a1 =
 (zu a0.fst a1).bind λy=>bif decide (y.fst.fst<0)then some ((-1,()),())else some ((y.fst.fst,()),()):=by kernel_rfl
def LQ:Env:=Fe.env C Bf.1 Tryz.f145
def Pq:=Fe.out C
def yi(x0:List aa)(x1:Int)(x5:Int):Option ((Int×PUnit)×PUnit):=aL LQ [1,1,1,0,1,0] (Tryz.f145.body.getD .skip) Pq (V.d none 0 nC x0::V.d none 0 (Ty.int IntKind.i64) x1::dd 3 (V.d none 0 (Ty.int IntKind.i64) x5::dd 21 ([])))
def zt(a0:List aa)(a1:Int):Option ((Int×PUnit)×PUnit):=N4.ao (a0,a1,())
def ajF:List (Nat×List Nat):=[(1000005,[1,1,1,0,1,0])]
theorem Wh:okB ajF (Tryz.f145.body.getD .skip) []=true:=by kernel_rfl
theorem Rf(x0:List aa)(x1:Int)(x5:Int):yi x0 x1 x5 =
 bif decide (x5<(↑x0.length:Int))then
 (ab x0 x5).bind λy =>
 (uj y x1).bind λy =>
  bif decide (y.fst.fst<0)then some ((-1,()),())else yi x0 y.fst.fst (IntKind.i64.wrap (x5+1))
else some ((x1,()),()):=(aQ Wh [1,1,1,0,1,0] (by kernel_rfl) _).trans (by kernel_rfl)
theorem aeS(a0:List aa)(a1:Int):zt a0 a1 =
 bif decide (IntKind.i64.wrap (a1 - (↑a0.length:Int))<0)then some ((-1,()),())
else yi a0 (IntKind.i64.wrap (a1 - (↑a0.length:Int))) 0:=(Eq.trans (by kernel_rfl:zt a0 a1=ax LQ (Tryz.f145.body.getD .skip) Pq (aU 27 [(nC,Mode.ro),(ak,Mode.ro)] (a0,a1,()))) (all_eq Wh _)).trans (by kernel_rfl)
def FV(a0:Int×List aa)(a1:Int):Option ((Int×PUnit)×PUnit):=N5.ao (a0,a1,())
theorem aeV(a0:Int×List aa)(a1:Int):FV a0 a1 =
 (zt a0.snd a1).bind λy=>bif decide (y.fst.fst<0)then some ((-1,()),())else some ((y.fst.fst,()),()):=by kernel_rfl
def zF(a0:ByteArray×Int×List aa)(a1:Int):Option ((Int×PUnit)×PUnit):=Ob.ao (a0,a1,())
theorem ae8(a0:ByteArray×Int×List aa)(a1:Int):zF a0 a1 =
 bif decide (IntKind.i64.wrap (a1 - (↑(ByteArray.size a0.fst):Int))<0)then some ((-1,()),())
else
 (FV a0.snd (IntKind.i64.wrap (a1 - (↑(ByteArray.size a0.fst):Int)))).bind λy =>
 bif decide (y.fst.fst<0)then some ((-1,()),())else some ((y.fst.fst,()),()):=by kernel_rfl
def LU:Env:=Fh.env C Bj.1 Tryz.f64
def Pt:=Fh.out C
def yl(x0:List Rw)(x1:Int)(x5:Int):Option ((Int×PUnit)×PUnit):=aL LU [1,1,1,0,1,0] (Tryz.f64.body.getD .skip) Pt (V.d none 0 nD x0::V.d none 0 (Ty.int IntKind.i64) x1::dd 3 (V.d none 0 (Ty.int IntKind.i64) x5::dd 21 ([])))
def zG(a0:List Rw)(a1:Int):Option ((Int×PUnit)×PUnit):=Oc.ao (a0,a1,())
def ajI:List (Nat×List Nat):=[(1000005,[1,1,1,0,1,0])]
theorem Wk:okB ajI (Tryz.f64.body.getD .skip) []=true:=by kernel_rfl
theorem Ri(x0:List Rw)(x1:Int)(x5:Int):yl x0 x1 x5 =
 bif decide (x5<(↑x0.length:Int))then
 (ab x0 x5).bind λy =>
 (zF y x1).bind λy =>
  bif decide (y.fst.fst<0)then some ((-1,()),())else yl x0 y.fst.fst (IntKind.i64.wrap (x5+1))
else some ((x1,()),()):=(aQ Wk [1,1,1,0,1,0] (by kernel_rfl) _).trans (by kernel_rfl)
theorem ae6(a0:List Rw)(a1:Int):zG a0 a1 =
 bif decide (IntKind.i64.wrap (a1 - (↑a0.length:Int))<0)then some ((-1,()),())
else yl a0 (IntKind.i64.wrap (a1 - (↑a0.length:Int))) 0:=(Eq.trans (by kernel_rfl:zG a0 a1=ax LU (Tryz.f64.body.getD .skip) Pt (aU 27 [(nD,Mode.ro),(ak,Mode.ro)] (a0,a1,()))) (all_eq Wk _)).trans (by kernel_rfl)
def zy(a0:ByteArray×Int×List Rw)(a1:Int):Option ((Int×PUnit)×PUnit):=N9.ao (a0,a1,())
theorem ae4(a0:ByteArray×Int×List Rw)(a1:Int):zy a0 a1 =
 bif decide (IntKind.i64.wrap (a1 - (↑(ByteArray.size a0.fst):Int))<0)then some ((-1,()),())
else
 (zG a0.snd.snd (IntKind.i64.wrap (a1 - (↑(ByteArray.size a0.fst):Int)))).bind λy =>
 bif decide (y.fst.fst<0)then some ((-1,()),())else some ((y.fst.fst,()),()):=by kernel_rfl
def LS:Env:=Fg.env C Bi.1 Tryz.f6
def Ps:=Fg.out C
def yk(x0:List Rel)(x1:Int)(x5:Int):Option ((Int×PUnit)×PUnit):=aL LS [1,1,1,0,1,0] (Tryz.f6.body.getD .skip) Ps (V.d none 0 iZ x0::V.d none 0 (Ty.int IntKind.i64) x1::dd 3 (V.d none 0 (Ty.int IntKind.i64) x5::dd 21 ([])))
def zD(a0:List Rel)(a1:Int):Option ((Int×PUnit)×PUnit):=Oa.ao (a0,a1,())
def ajH:List (Nat×List Nat):=[(1000005,[1,1,1,0,1,0])]
theorem Wj:okB ajH (Tryz.f6.body.getD .skip) []=true:=by kernel_rfl
theorem Rh(x0:List Rel)(x1:Int)(x5:Int):yk x0 x1 x5 =
 bif decide (x5<(↑x0.length:Int))then
 (ab x0 x5).bind λy =>
 (zy y x1).bind λy =>
  bif decide (y.fst.fst<0)then some ((-1,()),())else yk x0 y.fst.fst (IntKind.i64.wrap (x5+1))
else some ((x1,()),()):=(aQ Wj [1,1,1,0,1,0] (by kernel_rfl) _).trans (by kernel_rfl)
theorem ae2(a0:List Rel)(a1:Int):zD a0 a1 =
 bif decide (IntKind.i64.wrap (a1 - (↑a0.length:Int))<0)then some ((-1,()),())
else yk a0 (IntKind.i64.wrap (a1 - (↑a0.length:Int))) 0:=(Eq.trans (by kernel_rfl:zD a0 a1=ax LS (Tryz.f6.body.getD .skip) Ps (aU 27 [(iZ,Mode.ro),(ak,Mode.ro)] (a0,a1,()))) (all_eq Wj _)).trans (by kernel_rfl)
def zv(a0:Int×aa×ByteArray×ByteArray×List Int×Int×Int×Int)(a1:Int):Option ((Int×PUnit)×PUnit):=N7.ao (a0,a1,())
theorem ae0(a0:Int×aa×ByteArray×ByteArray×List Int×Int×Int×Int)(a1:Int):zv a0 a1 =
 (uj a0.snd.fst a1).bind λy =>
 bif decide (y.fst.fst<0)then some ((-1,()),())
 else
 bif decide (IntKind.i64.wrap (y.fst.fst - (↑(ByteArray.size a0.snd.snd.fst):Int))<0)then some ((-1,()),())
 else
  bif
   decide
   (IntKind.i64.wrap
    (IntKind.i64.wrap (y.fst.fst - (↑(ByteArray.size a0.snd.snd.fst):Int)) -
     (↑(ByteArray.size a0.snd.snd.snd.fst):Int)) <
    0)then
  some ((-1,()),())
  else
  (zu a0.snd.snd.snd.snd.fst
    (IntKind.i64.wrap
    (IntKind.i64.wrap (y.fst.fst - (↑(ByteArray.size a0.snd.snd.fst):Int)) -
     (↑(ByteArray.size a0.snd.snd.snd.fst):Int)))).bind
   λy=>bif decide (y.fst.fst<0)then some ((-1,()),())else some ((y.fst.fst,()),()):=by kernel_rfl
def LR:Env:=Ff.env C Bg.1 Tryz.f7
def Pr:=Ff.out C
def yj(x0:List av)(x1:Int)(x5:Int):Option ((Int×PUnit)×PUnit):=aL LR [1,1,1,0,1,0] (Tryz.f7.body.getD .skip) Pr (V.d none 0 gO x0::V.d none 0 (Ty.int IntKind.i64) x1::dd 3 (V.d none 0 (Ty.int IntKind.i64) x5::dd 21 ([])))
def zw(a0:List av)(a1:Int):Option ((Int×PUnit)×PUnit):=N8.ao (a0,a1,())
def ajG:List (Nat×List Nat):=[(1000005,[1,1,1,0,1,0])]
theorem Wi:okB ajG (Tryz.f7.body.getD .skip) []=true:=by kernel_rfl
theorem Rg(x0:List av)(x1:Int)(x5:Int):yj x0 x1 x5 =
 bif decide (x5<(↑x0.length:Int))then
 (ab x0 x5).bind λy =>
 (zv y x1).bind λy =>
  bif decide (y.fst.fst<0)then some ((-1,()),())else yj x0 y.fst.fst (IntKind.i64.wrap (x5+1))
else some ((x1,()),()):=(aQ Wi [1,1,1,0,1,0] (by kernel_rfl) _).trans (by kernel_rfl)
theorem aeY(a0:List av)(a1:Int):zw a0 a1 =
 bif decide (IntKind.i64.wrap (a1 - (↑a0.length:Int))<0)then some ((-1,()),())
else yj a0 (IntKind.i64.wrap (a1 - (↑a0.length:Int))) 0:=(Eq.trans (by kernel_rfl:zw a0 a1=ax LR (Tryz.f7.body.getD .skip) Pr (aU 27 [(gO,Mode.ro),(ak,Mode.ro)] (a0,a1,()))) (all_eq Wi _)).trans (by kernel_rfl)
def LW:Env:=Fj.env C Bh.1 Tryz.f76
def Pv:=Fj.out C
def yn(x0:List Int)(x3:List Int)(x4:Int):Option ((List Int×PUnit)×PUnit):=aL LW [1,1,0,1,0] (Tryz.f76.body.getD .skip) Pv (V.d none 0 a8 x0::dd 2 (V.d none (ak.depth+1) (Ty.slice 3 ak) x3::V.d none 0 (Ty.int IntKind.i64) x4::dd 17 ([])))
def um(a0:List Int):Option ((List Int×PUnit)×PUnit):=Og.ao (a0,())
def ajK:List (Nat×List Nat):=[(1000003,[1,1,0,1,0])]
theorem Wm:okB ajK (Tryz.f76.body.getD .skip) []=true:=by kernel_rfl
theorem Rk(x0:List Int)(x3:List Int)(x4:Int):yn x0 x3 x4 =
 bif decide (x4<(↑x0.length:Int))then
 (ab x0 x4).bind λy =>
 (ab x3 x4).bind λay =>
  (ab x3 x4).bind λbp =>
  (ab x3 x4).bind λbS=>(some (x3.set x4.toNat y)).bind λy=>yn x0 y (IntKind.i64.wrap (x4+1))
else some ((x3,()),()):=(aQ Wm [1,1,0,1,0] (by kernel_rfl) _).trans (by kernel_rfl)
theorem aff(a0:List Int):um a0 =
 bif
 decide (0<=(↑a0.length:Int))&&decide ((↑a0.length:Int)<=(↑a0.length:Int)) &&
  decide ((↑a0.length:Int)*(↑8:Int)<=140737488355328) &&
  decide ((↑a0.length:Int)<=9223372036854775807)then
 yn a0 (List.replicate a0.length (0:Int)) 0
else none:=(Eq.trans (by kernel_rfl:um a0=ax LW (Tryz.f76.body.getD .skip) Pv (aU 22 [(a8,Mode.ro)] (a0,()))) (all_eq Wm _)).trans (by kernel_rfl)
def uk(a0:aa):Option ((aa×PUnit)×PUnit):=Od.ao (a0,())
theorem afc(a0:aa):uk a0 =
 (um a0.fst).bind λy=>some (((y.fst.fst,a0.snd.fst,a0.snd.snd),()),()):=by kernel_rfl
def LV:Env:=Fi.env C Bk.1 Tryz.f147
def Pu:=Fi.out C
def ym(x0:List aa)(x3:List aa)(x4:Int):Option ((List aa×PUnit)×PUnit):=aL LV [1,1,0,1,0] (Tryz.f147.body.getD .skip) Pu (V.d none 0 nC x0::dd 2 (V.d none (aH.depth+1) (Ty.slice 66 aH) x3::V.d none 0 (Ty.int IntKind.i64) x4::dd 18 ([])))
def zH(a0:List aa):Option ((List aa×PUnit)×PUnit):=Oe.ao (a0,())
def ajJ:List (Nat×List Nat):=[(1000003,[1,1,0,1,0])]
theorem Wl:okB ajJ (Tryz.f147.body.getD .skip) []=true:=by kernel_rfl
theorem Rj(x0:List aa)(x3:List aa)(x4:Int):ym x0 x3 x4 =
 bif decide (x4<(↑x0.length:Int))then
 (ab x0 x4).bind λy =>
 (uk y).bind λy =>
  (ab x3 x4).bind λay =>
  (ab x3 x4).bind λbp =>
   (ab x3 x4).bind λbS =>
   (some (x3.set x4.toNat y.fst.fst)).bind λy=>ym x0 y (IntKind.i64.wrap (x4+1))
else some ((x3,()),()):=(aQ Wl [1,1,0,1,0] (by kernel_rfl) _).trans (by kernel_rfl)
theorem afa(a0:List aa):zH a0 =
 bif
 decide (0<=(↑a0.length:Int))&&decide ((↑a0.length:Int)<=(↑a0.length:Int)) &&
  decide ((↑a0.length:Int)*(↑40:Int)<=140737488355328) &&
  decide ((↑a0.length:Int)<=9223372036854775807)then
 ym a0 (List.replicate a0.length ([],0,false)) 0
else none:=(Eq.trans (by kernel_rfl:zH a0=ax LV (Tryz.f147.body.getD .skip) Pu (aU 23 [(nC,Mode.ro)] (a0,()))) (all_eq Wl _)).trans (by kernel_rfl)
def FW(a0:Int×List aa):Option ((aB×PUnit)×PUnit):=Of.ao (a0,())
theorem afd(a0:Int×List aa):FW a0 =
 (zH a0.snd).bind λy=>some (((a0.fst,y.fst.fst),()),()):=by kernel_rfl
def zM(a0:ByteArray×Int×List aa):Option ((Rw×PUnit)×PUnit):=Om.ao (a0,())
theorem afq(a0:ByteArray×Int×List aa):zM a0 =
 (FW a0.snd).bind λy=>some (((a0.fst,y.fst.fst),()),()):=by kernel_rfl
def LZ:Env:=Fm.env C Bn.1 Tryz.f74
def Py:=Fm.out C
def yq(x0:List Rw)(x3:List Rw)(x4:Int):Option ((List Rw×PUnit)×PUnit):=aL LZ [1,1,0,1,0] (Tryz.f74.body.getD .skip) Py (V.d none 0 nD x0::dd 2 (V.d none (nB.depth+1) (Ty.slice 105 nB) x3::V.d none 0 (Ty.int IntKind.i64) x4::dd 18 ([])))
def zO(a0:List Rw):Option ((List Rw×PUnit)×PUnit):=On.ao (a0,())
def ajN:List (Nat×List Nat):=[(1000003,[1,1,0,1,0])]
theorem Wp:okB ajN (Tryz.f74.body.getD .skip) []=true:=by kernel_rfl
theorem Rn(x0:List Rw)(x3:List Rw)(x4:Int):yq x0 x3 x4 =
 bif decide (x4<(↑x0.length:Int))then
 (ab x0 x4).bind λy =>
 (zM y).bind λy =>
  (ab x3 x4).bind λay =>
  (ab x3 x4).bind λbp =>
   (ab x3 x4).bind λbS =>
   (some (x3.set x4.toNat y.fst.fst)).bind λy=>yq x0 y (IntKind.i64.wrap (x4+1))
else some ((x3,()),()):=(aQ Wp [1,1,0,1,0] (by kernel_rfl) _).trans (by kernel_rfl)
theorem afo(a0:List Rw):zO a0 =
 bif
 decide (0<=(↑a0.length:Int))&&decide ((↑a0.length:Int)<=(↑a0.length:Int)) &&
  decide ((↑a0.length:Int)*(↑48:Int)<=140737488355328) &&
  decide ((↑a0.length:Int)<=9223372036854775807)then
 yq a0 (List.replicate a0.length (ByteArray.empty,0,[])) 0
else none:=(Eq.trans (by kernel_rfl:zO a0=ax LZ (Tryz.f74.body.getD .skip) Py (aU 23 [(nD,Mode.ro)] (a0,()))) (all_eq Wp _)).trans (by kernel_rfl)
def zK(a0:ByteArray×Int×List Rw):Option ((Rel×PUnit)×PUnit):=Oj.ao (a0,())
theorem afm(a0:ByteArray×Int×List Rw):zK a0 =
 (zO a0.snd.snd).bind λy=>some (((a0.fst,a0.snd.fst,y.fst.fst),()),()):=by kernel_rfl
def LY:Env:=Fl.env C Bm.1 Tryz.f9
def Px:=Fl.out C
def yp(x0:List Rel)(x3:List Rel)(x4:Int):Option ((List Rel×PUnit)×PUnit):=aL LY [1,1,0,1,0] (Tryz.f9.body.getD .skip) Px (V.d none 0 iZ x0::dd 2 (V.d none (jc.depth+1) (Ty.slice 72 jc) x3::V.d none 0 (Ty.int IntKind.i64) x4::dd 18 ([])))
def oS(a0:List Rel):Option ((List Rel×PUnit)×PUnit):=Ol.ao (a0,())
def ajM:List (Nat×List Nat):=[(1000003,[1,1,0,1,0])]
theorem Wo:okB ajM (Tryz.f9.body.getD .skip) []=true:=by kernel_rfl
theorem Rm(x0:List Rel)(x3:List Rel)(x4:Int):yp x0 x3 x4 =
 bif decide (x4<(↑x0.length:Int))then
 (ab x0 x4).bind λy =>
 (zK y).bind λy =>
  (ab x3 x4).bind λay =>
  (ab x3 x4).bind λbp =>
   (ab x3 x4).bind λbS =>
   (some (x3.set x4.toNat y.fst.fst)).bind λy=>yp x0 y (IntKind.i64.wrap (x4+1))
else some ((x3,()),()):=(aQ Wo [1,1,0,1,0] (by kernel_rfl) _).trans (by kernel_rfl)
theorem afk(a0:List Rel):oS a0 =
 bif
 decide (0<=(↑a0.length:Int))&&decide ((↑a0.length:Int)<=(↑a0.length:Int)) &&
  decide ((↑a0.length:Int)*(↑48:Int)<=140737488355328) &&
  decide ((↑a0.length:Int)<=9223372036854775807)then
 yp a0 (List.replicate a0.length (ByteArray.empty,0,[])) 0
else none:=(Eq.trans (by kernel_rfl:oS a0=ax LY (Tryz.f9.body.getD .skip) Px (aU 23 [(iZ,Mode.ro)] (a0,()))) (all_eq Wo _)).trans (by kernel_rfl)
def zJ(a0:Int×aa×ByteArray×ByteArray×List Int×Int×Int×Int):Option ((av×PUnit)×PUnit):=Oh.ao (a0,())
theorem afi(a0:Int×aa×ByteArray×ByteArray×List Int×Int×Int×Int):zJ a0 =
 (uk a0.snd.fst).bind λy =>
 (um a0.snd.snd.snd.snd.fst).bind λay =>
 some
  (((a0.fst,y.fst.fst,a0.snd.snd.fst,a0.snd.snd.snd.fst,ay.fst.fst,a0.snd.snd.snd.snd.snd.fst,
   a0.snd.snd.snd.snd.snd.snd.fst,a0.snd.snd.snd.snd.snd.snd.snd),
   ()),
  ()):=by kernel_rfl
def LX:Env:=Fk.env C Bl.1 Tryz.f10
def Pw:=Fk.out C
def yo(x0:List av)(x3:List av)(x4:Int):Option ((List av×PUnit)×PUnit):=aL LX [1,1,0,1,0] (Tryz.f10.body.getD .skip) Pw (V.d none 0 gO x0::dd 2 (V.d none (da.depth+1) (Ty.slice 68 da) x3::V.d none 0 (Ty.int IntKind.i64) x4::dd 18 ([])))
def oR(a0:List av):Option ((List av×PUnit)×PUnit):=Oi.ao (a0,())
def ajL:List (Nat×List Nat):=[(1000003,[1,1,0,1,0])]
theorem Wn:okB ajL (Tryz.f10.body.getD .skip) []=true:=by kernel_rfl
theorem Rl(x0:List av)(x3:List av)(x4:Int):yo x0 x3 x4 =
 bif decide (x4<(↑x0.length:Int))then
 (ab x0 x4).bind λy =>
 (zJ y).bind λy =>
  (ab x3 x4).bind λay =>
  (ab x3 x4).bind λbp =>
   (ab x3 x4).bind λbS =>
   (some (x3.set x4.toNat y.fst.fst)).bind λy=>yo x0 y (IntKind.i64.wrap (x4+1))
else some ((x3,()),()):=(aQ Wn [1,1,0,1,0] (by kernel_rfl) _).trans (by kernel_rfl)
theorem afg(a0:List av):oR a0 =
 bif
 decide (0<=(↑a0.length:Int))&&decide ((↑a0.length:Int)<=(↑a0.length:Int)) &&
  decide ((↑a0.length:Int)*(↑128:Int)<=140737488355328) &&
  decide ((↑a0.length:Int)<=9223372036854775807)then
 yo a0 (List.replicate a0.length (0,([],0,false),ByteArray.empty,ByteArray.empty,[],0,0,0)) 0
else none:=(Eq.trans (by kernel_rfl:oR a0=ax LX (Tryz.f10.body.getD .skip) Pw (aU 23 [(gO,Mode.ro)] (a0,()))) (all_eq Wn _)).trans (by kernel_rfl)
def iA(a0:Int)(a1:Int)(a2:Int):Option ((Bool×PUnit)×PUnit):=Ni.ao (a0,a1,a2,())
theorem adL(a0:Int)(a1:Int)(a2:Int):iA a0 a1 a2 =
 bif decide (a0>=a1)then some ((decide (a0<=a2),()),())else some ((false,()),()):=by kernel_rfl
def Lv:Env:=ES.env C AH.1 Tryz.f123
def O5:=ES.out C
def tO(x0:ByteArray)(x1:Int)(x2:Int)(x7:Int):Option ((Bool×PUnit)×PUnit):=aL Lv [1,0,1,0] (Tryz.f123.body.getD .skip) O5 (V.d none 0 cT x0::V.d none 0 iw x1::V.d none 0 iw x2::dd 4 (V.d none 0 (Ty.int IntKind.i64) x7::dd 21 ([])))
def re(a0:ByteArray)(a1:Int)(a2:Int):Option ((Bool×PUnit)×PUnit):=NA.ao (a0,a1,a2,())
def ajk:List (Nat×List Nat):=[(1000002,[1,0,1,0])]
theorem VV:okB ajk (Tryz.f123.body.getD .skip) []=true:=by kernel_rfl
theorem QQ(x0:ByteArray)(x1:Int)(x2:Int)(x7:Int):tO x0 x1 x2 x7 =
 bif decide (x7<(↑x0.size:Int))then
 (mo x0 x7).bind λy =>
 bif decide (y<x1)then some ((false,()),())
 else
  (mo x0 x7).bind λy =>
  bif decide (y>x2)then some ((false,()),())else tO x0 x1 x2 (IntKind.i64.wrap (x7+1))
else (iA (↑x0.size:Int) 1 6).bind λy=>some ((y.fst.fst,()),()):=(aQ VV [1,0,1,0] (by kernel_rfl) _).trans (by kernel_rfl)
theorem ad8(a0:ByteArray)(a1:Int)(a2:Int):re a0 a1 a2 =
 tO a0 a1 a2 0:=(Eq.trans (by kernel_rfl:re a0 a1 a2=ax Lv (Tryz.f123.body.getD .skip) O5 (aU 29 [(cT,Mode.ro),(iw,Mode.ro),(iw,Mode.ro)] (a0,a1,a2,()))) (all_eq VV _)).trans (by kernel_rfl)
def yR(a0:Int):Option ((Bool×PUnit)×PUnit):=M4.ao (a0,())
theorem adt(a0:Int):yR a0 =
 (iA a0 (-400000000) 400000000).bind λy=>some ((y.fst.fst,()),()):=by kernel_rfl
def uc(a0:Int):Option ((Int×PUnit)×PUnit):=Nh.ao (a0,())
theorem RU(a0:Int):uc a0 =
 some
 ((bif true then if a0<IntKind.i64.wrap (0 - a0)then IntKind.i64.wrap (0 - a0)else a0
  else if IntKind.i64.wrap (0 - a0)<a0 then IntKind.i64.wrap (0 - a0)else a0,
  ()),
 ()):=by kernel_rfl
def Dq:Env:=EJ.env C AG.1 Tryz.f136
def DH:=EJ.out C
def xH(x0:List Int)(x5:Int)(x6:Int)(x7:Int):Option ((Int×PUnit)×PUnit):=aL Dq [1,1,0,1,0,0,1,0,0,1,0] (Tryz.f136.body.getD .skip) DH (V.d none 0 a8 x0::dd 4 (V.d none 0 ak x5::V.d none 0 (Ty.int IntKind.i64) x6::V.d none 0 ak x7::dd 20 ([])))
def qQ(x0:List Int)(x5:Int)(x6:Int):Option ((Int×PUnit)×PUnit):=aL Dq [1,1,0,1,0] (Tryz.f136.body.getD .skip) DH (V.d none 0 a8 x0::dd 4 (V.d none 0 ak x5::V.d none 0 (Ty.int IntKind.i64) x6::dd 21 ([])))
def oO(a0:List Int)(a1:Int):Option ((Int×PUnit)×PUnit):=Nl.ao (a0,a1,())
def ajc:List (Nat×List Nat):=[(1000003,[1,1,0,1,0]),(1000006,[1,1,0,1,0,0,1,0,0,1,0])]
theorem I7:okB ajc (Tryz.f136.body.getD .skip) []=true:=by kernel_rfl
theorem aa9(x0:List Int)(x5:Int)(x6:Int)(x7:Int):xH x0 x5 x6 x7 =
 bif x7 != 0 then bif x7 != 0 then xH x0 x7 x6 (x5.tmod x7)else none
else qQ x0 x5 (IntKind.i64.wrap (x6+1)):=(aQ I7 [1,1,0,1,0,0,1,0,0,1,0] (by kernel_rfl) _).trans (by kernel_rfl)
theorem xG(x0:List Int)(x5:Int)(x6:Int):qQ x0 x5 x6 =
 bif decide (x6<(↑x0.length:Int))then
 (ab x0 x6).bind λy=>(uc y).bind λy=>xH x0 x5 x6 y.fst.fst
else some ((x5,()),()):=(aQ I7 [1,1,0,1,0] (by kernel_rfl) _).trans (by kernel_rfl)
theorem RZ(a0:List Int)(a1:Int):oO a0 a1 =
 (uc a1).bind λy=>qQ a0 y.fst.fst 0:=(Eq.trans (by kernel_rfl:oO a0 a1=ax Dq (Tryz.f136.body.getD .skip) DH (aU 28 [(a8,Mode.ro),(ak,Mode.ro)] (a0,a1,()))) (all_eq I7 _)).trans (by kernel_rfl)
def Ld:Env:=Es.env C AJ.1 Tryz.f124
def ON:=Es.out C
def qL(x1:aa)(x3:Int):Option ((Bool×PUnit)×PUnit):=aL Ld [1,1,0,1,0] (Tryz.f124.body.getD .skip) ON (V.dead::(V.box none 0 aH x1::V.dead::(V.d none 0 (Ty.int IntKind.i64) x3::dd 30 ([]))))
def lX(a0:aa):Option ((Bool×PUnit)×PUnit):=MY.ao (a0,())
def aiW:List (Nat×List Nat):=[(1000004,[1,1,0,1,0])]
theorem VD:okB aiW (Tryz.f124.body.getD .skip) []=true:=by kernel_rfl
theorem Qj(x1:aa)(x3:Int):qL x1 x3 =
 bif decide (x3<(↑(List.length x1.fst):Int))then
 (ab x1.fst x3).bind λy =>
 (yR y).bind λy =>
  bif !y.fst.fst then some ((false,()),())else qL x1 (IntKind.i64.wrap (x3+1))
else (oO x1.fst x1.snd.fst).bind λy=>some ((decide (y.fst.fst<=1),()),()):=(aQ VD [1,1,0,1,0] (by kernel_rfl) _).trans (by kernel_rfl)
theorem adm(a0:aa):lX a0 =
 bif decide ((↑(List.length a0.fst):Int)>4)then some ((false,()),())
else (yR a0.snd.fst).bind λy=>bif !y.fst.fst then some ((false,()),())else qL a0 0:=(Eq.trans (by kernel_rfl:lX a0=ax Ld (Tryz.f124.body.getD .skip) ON (aU 34 [(aH,Mode.ro)] (a0,()))) (all_eq VD _)).trans (by kernel_rfl)
def Le:Env:=Et.env C Ar.1 Tryz.f94
def OO:=Et.out C
def qM(x1:Int×List aa)(x3:Int):Option ((Bool×PUnit)×PUnit):=aL Le [1,0,1,0] (Tryz.f94.body.getD .skip) OO (V.dead::(V.box none 0 aA x1::V.dead::(V.d none 0 (Ty.int IntKind.i64) x3::dd 35 ([]))))
def nI(a0:Int×List aa):Option ((Bool×PUnit)×PUnit):=MZ.ao (a0,())
def aiX:List (Nat×List Nat):=[(1000002,[1,0,1,0])]
theorem VE:okB aiX (Tryz.f94.body.getD .skip) []=true:=by kernel_rfl
theorem Qk(x1:Int×List aa)(x3:Int):qM x1 x3 =
 bif decide (x3<(↑(List.length x1.snd):Int))then
 (ab x1.snd x3).bind λy =>
 (lX y).bind λy =>
  bif !y.fst.fst then some ((false,()),())
  else
  (ab x1.snd x3).bind λy =>
   bif (↑(List.length y.fst):Int) != x1.fst then some ((false,()),())
   else qM x1 (IntKind.i64.wrap (x3+1))
else
 (iA x1.fst 0 4).bind λy =>
 bif y.fst.fst then some ((decide ((↑(List.length x1.snd):Int)<=16),()),())else some ((false,()),()):=(aQ VE [1,0,1,0] (by kernel_rfl) _).trans (by kernel_rfl)
theorem adn(a0:Int×List aa):nI a0 =
 qM a0 0:=(Eq.trans (by kernel_rfl:nI a0=ax Le (Tryz.f94.body.getD .skip) OO (aU 39 [(aA,Mode.ro)] (a0,()))) (all_eq VE _)).trans (by kernel_rfl)
def Li:Env:=Ez.env C As.1 Tryz.f92
def OS:=Ez.out C
def qP(x1:ByteArray×Int×List Rw)(x3:Int):Option ((Bool×PUnit)×PUnit):=aL Li [1,0,1,0] (Tryz.f92.body.getD .skip) OS (V.dead::(V.box none 0 jc x1::V.dead::(V.d none 0 (Ty.int IntKind.i64) x3::dd 51 ([]))))
def yT(a0:ByteArray×Int×List Rw):Option ((Bool×PUnit)×PUnit):=M6.ao (a0,())
def ai2:List (Nat×List Nat):=[(1000002,[1,0,1,0])]
theorem VI:okB ai2 (Tryz.f92.body.getD .skip) []=true:=by kernel_rfl
theorem Qr(x1:ByteArray×Int×List Rw)(x3:Int):qP x1 x3 =
 bif decide (x3<(↑(List.length x1.snd.snd):Int))then
 (ab x1.snd.snd x3).bind λy =>
 (re y.fst 97 122).bind λy =>
  bif !y.fst.fst then some ((false,()),())
  else
  (ab x1.snd.snd x3).bind λy =>
   (nI y.snd).bind λy =>
   bif !y.fst.fst then some ((false,()),())
   else
    (ab x1.snd.snd x3).bind λy =>
    bif y.snd.fst != x1.snd.fst then some ((false,()),())else qP x1 (IntKind.i64.wrap (x3+1))
else
 (re x1.fst 65 90).bind λy =>
 bif y.fst.fst then
  (iA x1.snd.fst 0 4).bind λy =>
  bif y.fst.fst then some ((decide ((↑(List.length x1.snd.snd):Int)<=8),()),())else some ((false,()),())
 else some ((false,()),()):=(aQ VI [1,0,1,0] (by kernel_rfl) _).trans (by kernel_rfl)
theorem adw(a0:ByteArray×Int×List Rw):yT a0 =
 qP a0 0:=(Eq.trans (by kernel_rfl:yT a0=ax Li (Tryz.f92.body.getD .skip) OS (aU 55 [(jc,Mode.ro)] (a0,()))) (all_eq VI _)).trans (by kernel_rfl)
def Lc:Env:=Er.env C Ax.1 Tryz.f56
def OM:=Er.out C
def xy(x0:List Rel)(x1:ByteArray)(x5:Int):Option ((Int×PUnit)×PUnit):=aL Lc [1,0,1,0] (Tryz.f56.body.getD .skip) OM (V.d none 0 bt x0::V.d none 0 cT x1::dd 3 (V.d none 0 (Ty.int IntKind.i64) x5::dd 14 ([])))
def oL(a0:List Rel)(a1:ByteArray):Option ((Int×PUnit)×PUnit):=MW.ao (a0,a1,())
def aiV:List (Nat×List Nat):=[(1000002,[1,0,1,0])]
theorem VC:okB aiV (Tryz.f56.body.getD .skip) []=true:=by kernel_rfl
theorem Qi(x0:List Rel)(x1:ByteArray)(x5:Int):xy x0 x1 x5 =
 bif decide (x5<(↑x0.length:Int))then
 (ab x0 x5).bind λy =>
 bif ByteArray.toList y.fst==x1.toList then some ((x5,()),())
 else xy x0 x1 (IntKind.i64.wrap (x5+1))
else some ((-1,()),()):=(aQ VC [1,0,1,0] (by kernel_rfl) _).trans (by kernel_rfl)
theorem adj(a0:List Rel)(a1:ByteArray):oL a0 a1 =
 xy a0 a1 0:=(Eq.trans (by kernel_rfl:oL a0 a1=ax Lc (Tryz.f56.body.getD .skip) OM (aU 20 [(bt,Mode.ro),(cT,Mode.ro)] (a0,a1,()))) (all_eq VC _)).trans (by kernel_rfl)
def Lf:Env:=Eu.env C Ap.1 Tryz.f52
def OP:=Eu.out C
def qN(x0:List Rel)(x3:Int):Option ((Bool×PUnit)×PUnit):=aL Lf [1,0,1,0] (Tryz.f52.body.getD .skip) OP (V.d none 0 bt x0::dd 2 (V.d none 0 (Ty.int IntKind.i64) x3::dd 27 ([])))
def yP(a0:List Rel):Option ((Bool×PUnit)×PUnit):=M0.ao (a0,())
def aiY:List (Nat×List Nat):=[(1000002,[1,0,1,0])]
theorem VF:okB aiY (Tryz.f52.body.getD .skip) []=true:=by kernel_rfl
theorem Ql(x0:List Rel)(x3:Int):qN x0 x3 =
 bif decide (x3<(↑x0.length:Int))then
 (ab x0 x3).bind λy =>
 (yT y).bind λy =>
  bif !y.fst.fst then some ((false,()),())
  else
  bif decide (0<=0)&&decide (0<=x3)&&decide (x3<=(↑x0.length:Int))then
   (ab x0 x3).bind λy =>
   (oL (List.drop (Int.toNat 0) (List.take x3.toNat x0)) y.fst).bind λy =>
    bif decide (y.fst.fst>=0)then some ((false,()),())else qN x0 (IntKind.i64.wrap (x3+1))
  else none
else some ((decide ((↑x0.length:Int)<=6),()),()):=(aQ VF [1,0,1,0] (by kernel_rfl) _).trans (by kernel_rfl)
theorem ado(a0:List Rel):yP a0 =
 qN a0 0:=(Eq.trans (by kernel_rfl:yP a0=ax Lf (Tryz.f52.body.getD .skip) OP (aU 31 [(bt,Mode.ro)] (a0,()))) (all_eq VF _)).trans (by kernel_rfl)
def FK(a0:aa):Option ((Bool×PUnit)×PUnit):=Ny.ao (a0,())
theorem ad4(a0:aa):FK a0 =
 bif (↑(List.length a0.fst):Int)==0 then
 bif a0.snd.fst==0 then some ((!a0.snd.snd,()),())else some ((false,()),())
else some ((false,()),()):=by kernel_rfl
def wZ:Env:=ER.env C AQ.1 Tryz.f102
def xi:=ER.out C
def qT(x0:List Rel)(x3:Int×aa×ByteArray×ByteArray×List Int×Int×Int×Int)(x5:Int)(x6:Int):Option ((Bool×PUnit)×PUnit):=aL wZ [1,1,1,0,1,0,1,1,1,0,1,0,1,0] (Tryz.f102.body.getD .skip) xi (V.d none 0 bt x0::dd 2 (V.box none 0 da x3::V.dead::(V.d none 0 ak x5::V.d none 0 (Ty.int IntKind.i64) x6::dd 133 ([]))))
def eX(x0:List Rel)(x3:Int×aa×ByteArray×ByteArray×List Int×Int×Int×Int):Option ((Bool×PUnit)×PUnit):=gJ wZ [1,1,1] (Tryz.f102.body.getD .skip) xi (V.d none 0 bt x0::dd 2 (V.box none 0 da x3::dd 136 ([])))
def qD(x0:List Rel)(x3:Int×aa×ByteArray×ByteArray×List Int×Int×Int×Int):Option ((Bool×PUnit)×PUnit):=gJ wZ [1,1] (Tryz.f102.body.getD .skip) xi (V.d none 0 bt x0::dd 2 (V.box none 0 da x3::dd 136 ([])))
def za(a0:List Rel)(a1:Int×aa×ByteArray×ByteArray×List Int×Int×Int×Int):Option ((Bool×PUnit)×PUnit):=Nz.ao (a0,a1,())
def ajj:List (Nat×List Nat):=[(2000003,[1,1]),(2000005,[1,1,1]),(1000011,[1,1,1,0,1,0,1,1,1,0,1,0,1,0])]
theorem Cm:okB ajj (Tryz.f102.body.getD .skip) []=true:=by kernel_rfl
theorem QP(x0:List Rel)(x3:Int×aa×ByteArray×ByteArray×List Int×Int×Int×Int)(x5:Int)(x6:Int):qT x0 x3 x5 x6 =
 bif decide (x6<(↑(List.length x3.snd.snd.snd.snd.fst):Int))then
 (ab x3.snd.snd.snd.snd.fst x6).bind λy =>
 (iA y 0 3).bind λy =>
  bif !y.fst.fst then some ((false,()),())else qT x0 x3 x5 (IntKind.i64.wrap (x6+1))
else
 bif decide (x5>=0)then
 (ab x0 x5).bind λy =>
  bif y.snd.fst==(↑(List.length x3.snd.snd.snd.snd.fst):Int)then
  bif ByteArray.toList x3.snd.snd.snd.fst==(ByteArray.mk #[]).toList then some ((true,()),())
  else (re x3.snd.snd.snd.fst 97 122).bind λy=>some ((y.fst.fst,()),())
  else some ((false,()),())
 else some ((false,()),()):=(aQ Cm [1,1,1,0,1,0,1,1,1,0,1,0,1,0] (by kernel_rfl) _).trans (by kernel_rfl)
theorem aa1(x0:List Rel)(x3:Int×aa×ByteArray×ByteArray×List Int×Int×Int×Int):eX x0 x3 =
 bif x3.fst==0 then
 (lX x3.snd.fst).bind λy =>
 bif y.fst.fst then some (((↑(List.length x3.snd.fst.fst):Int)==4,()),())else some ((false,()),())
else
 bif x3.fst==1 then (oL x0 x3.snd.snd.fst).bind λy=>qT x0 x3 y.fst.fst 0
 else
 (iA x3.fst 2 6).bind λy =>
  bif y.fst.fst then (iA x3.snd.snd.snd.snd.snd.fst 0 3).bind λy=>some ((y.fst.fst,()),())
  else some ((false,()),()):=(join_eq Cm [1,1,1] _).trans (by kernel_rfl)
theorem aaZ(x0:List Rel)(x3:Int×aa×ByteArray×ByteArray×List Int×Int×Int×Int):qD x0 x3 =
 bif x3.fst != 5 then
 bif x3.fst != 6 then
 bif x3.snd.snd.snd.snd.snd.fst != 0 then some ((false,()),())
 else
  bif x3.fst != 3 then
  bif x3.fst != 4 then
   bif x3.snd.snd.snd.snd.snd.snd.snd != 0 then some ((false,()),())
   else
   bif decide (x3.fst<=1)then
    bif x3.snd.snd.snd.snd.snd.snd.fst != 0 then some ((false,()),())else eX x0 x3
   else eX x0 x3
  else
   bif decide (x3.fst<=1)then
   bif x3.snd.snd.snd.snd.snd.snd.fst != 0 then some ((false,()),())else eX x0 x3
   else eX x0 x3
  else
  bif decide (x3.fst<=1)then
   bif x3.snd.snd.snd.snd.snd.snd.fst != 0 then some ((false,()),())else eX x0 x3
  else eX x0 x3
 else
 bif x3.fst != 3 then
  bif x3.fst != 4 then
  bif x3.snd.snd.snd.snd.snd.snd.snd != 0 then some ((false,()),())
  else
   bif decide (x3.fst<=1)then
   bif x3.snd.snd.snd.snd.snd.snd.fst != 0 then some ((false,()),())else eX x0 x3
   else eX x0 x3
  else
  bif decide (x3.fst<=1)then
   bif x3.snd.snd.snd.snd.snd.snd.fst != 0 then some ((false,()),())else eX x0 x3
  else eX x0 x3
 else
  bif decide (x3.fst<=1)then
  bif x3.snd.snd.snd.snd.snd.snd.fst != 0 then some ((false,()),())else eX x0 x3
  else eX x0 x3
else
 bif x3.fst != 3 then
 bif x3.fst != 4 then
  bif x3.snd.snd.snd.snd.snd.snd.snd != 0 then some ((false,()),())
  else
  bif decide (x3.fst<=1)then
   bif x3.snd.snd.snd.snd.snd.snd.fst != 0 then some ((false,()),())else eX x0 x3
  else eX x0 x3
 else
  bif decide (x3.fst<=1)then
  bif x3.snd.snd.snd.snd.snd.snd.fst != 0 then some ((false,()),())else eX x0 x3
  else eX x0 x3
 else
 bif decide (x3.fst<=1)then
  bif x3.snd.snd.snd.snd.snd.snd.fst != 0 then some ((false,()),())else eX x0 x3
 else eX x0 x3:=(join_eq Cm [1,1] _).trans (by kernel_rfl)
theorem ad6(a0:List Rel)(a1:Int×aa×ByteArray×ByteArray×List Int×Int×Int×Int):za a0 a1 =
 bif a1.fst != 0 then
 (FK a1.snd.fst).bind λy =>
 bif !y.fst.fst then some ((false,()),())
 else
  bif a1.fst != 1 then
  bif !ByteArray.toList a1.snd.snd.fst==(ByteArray.mk #[]).toList then some ((false,()),())
  else
   bif !ByteArray.toList a1.snd.snd.snd.fst==(ByteArray.mk #[]).toList then some ((false,()),())
   else
   bif decide ((↑(List.length a1.snd.snd.snd.snd.fst):Int)>0)then some ((false,()),())else qD a0 a1
  else qD a0 a1
else
 bif a1.fst != 1 then
 bif !ByteArray.toList a1.snd.snd.fst==(ByteArray.mk #[]).toList then some ((false,()),())
 else
  bif !ByteArray.toList a1.snd.snd.snd.fst==(ByteArray.mk #[]).toList then some ((false,()),())
  else
  bif decide ((↑(List.length a1.snd.snd.snd.snd.fst):Int)>0)then some ((false,()),())else qD a0 a1
 else qD a0 a1:=(Eq.trans (by kernel_rfl:za a0 a1=ax wZ (Tryz.f102.body.getD .skip) xi (aU 140 [(bt,Mode.ro),(da,Mode.ro)] (a0,a1,()))) (all_eq Cm _)).trans (by kernel_rfl)
def wX:Env:=Ew.env C AR.1 Tryz.f67
def xg:=Ew.out C
def nF(x0:List Rel)(x1:List av)(x5:List Int)(x6:Int)(x7:Int)(x8:Int):Option ((Bool×PUnit)×PUnit):=gJ wX [1,1,1,0,1,0,0,1,0,0,1,1,1,1,1] (Tryz.f67.body.getD .skip) xg (V.d none 0 bt x0::V.d none 0 cn x1::dd 3 (V.d none (ak.depth+1) (Ty.slice 3 ak) x5::V.d none 0 (Ty.int IntKind.i64) x6::V.d none 0 (Ty.int IntKind.i64) x7::V.d none 0 (Ty.int IntKind.i64) x8::dd 108 ([])))
def jZ(x0:List Rel)(x1:List av)(x5:List Int)(x6:Int)(x7:Int):Option ((Bool×PUnit)×PUnit):=gJ wX [1,1,1,0,1,0,0,1,0,0,1,1,1] (Tryz.f67.body.getD .skip) xg (V.d none 0 bt x0::V.d none 0 cn x1::dd 3 (V.d none (ak.depth+1) (Ty.slice 3 ak) x5::V.d none 0 (Ty.int IntKind.i64) x6::V.d none 0 (Ty.int IntKind.i64) x7::dd 109 ([])))
def qO(x0:List Rel)(x1:List av)(x5:List Int)(x6:Int):Option ((Bool×PUnit)×PUnit):=aL wX [1,1,1,0,1,0] (Tryz.f67.body.getD .skip) xg (V.d none 0 bt x0::V.d none 0 cn x1::dd 3 (V.d none (ak.depth+1) (Ty.slice 3 ak) x5::V.d none 0 (Ty.int IntKind.i64) x6::dd 110 ([])))
def yQ(a0:List Rel)(a1:List av):Option ((Bool×PUnit)×PUnit):=M3.ao (a0,a1,())
def ai0:List (Nat×List Nat):=[(1000005,[1,1,1,0,1,0]),(2000014,[1,1,1,0,1,0,0,1,0,0,1,1,1]),(2000017,[1,1,1,0,1,0,0,1,0,0,1,1,1,1,1])]
theorem Ck:okB ai0 (Tryz.f67.body.getD .skip) []=true:=by kernel_rfl
theorem aaY(x0:List Rel)(x1:List av)(x5:List Int)(x6:Int)(x7:Int)(x8:Int):nF x0 x1 x5 x6 x7 x8 =
 bif
 decide (0<=0)&&decide (0<=IntKind.i64.wrap (x8 - x7)) &&
  decide (IntKind.i64.wrap (x8 - x7)<=(↑x5.length:Int))then
 bif
  decide
  ((0+(List.drop (Int.toNat 0) (List.take (IntKind.i64.wrap (x8 - x7)).toNat x5)).length)*8 <=
   140737488355328)then
 bif
  decide
   (((List.drop (Int.toNat 0) (List.take (IntKind.i64.wrap (x8 - x7)).toNat x5)).length+1)*8 <=
   140737488355328)then
  qO x0 x1 (List.drop (Int.toNat 0) (List.take (IntKind.i64.wrap (x8 - x7)).toNat x5)++[x6])
  (IntKind.i64.wrap (x6+1))
 else none
 else none
else none:=(join_eq Ck [1,1,1,0,1,0,0,1,0,0,1,1,1,1,1] _).trans (by kernel_rfl)
theorem aaW(x0:List Rel)(x1:List av)(x5:List Int)(x6:Int)(x7:Int):jZ x0 x1 x5 x6 x7 =
 bif decide ((↑x5.length:Int)<x7)then some ((false,()),())
else
 bif x7==1 then
 (ab x5 (IntKind.i64.wrap ((↑x5.length:Int) - 1))).bind λy =>
  (ab x5 (IntKind.i64.wrap ((↑x5.length:Int) - 1))).bind λy =>
  (ab x1 x6).bind λay =>
   bif y != ay.snd.snd.snd.snd.snd.snd.fst then some ((false,()),())
   else
   bif x7==2 then
    (ab x5 (IntKind.i64.wrap ((↑x5.length:Int) - 1))).bind λy =>
    (ab x5 (IntKind.i64.wrap ((↑x5.length:Int) - 1))).bind λy =>
     (ab x1 x6).bind λbp =>
     bif y != bp.snd.snd.snd.snd.snd.snd.snd then some ((false,()),())
     else
      (ab x5 (IntKind.i64.wrap ((↑x5.length:Int) - 2))).bind λy =>
      (ab x5 (IntKind.i64.wrap ((↑x5.length:Int) - 2))).bind λy =>
       (ab x1 x6).bind λbS =>
       bif y != bS.snd.snd.snd.snd.snd.snd.fst then some ((false,()),())
       else nF x0 x1 x5 x6 x7 (↑x5.length:Int)
   else nF x0 x1 x5 x6 x7 (↑x5.length:Int)
 else
 bif x7==2 then
  (ab x5 (IntKind.i64.wrap ((↑x5.length:Int) - 1))).bind λy =>
  (ab x5 (IntKind.i64.wrap ((↑x5.length:Int) - 1))).bind λy =>
   (ab x1 x6).bind λay =>
   bif y != ay.snd.snd.snd.snd.snd.snd.snd then some ((false,()),())
   else
    (ab x5 (IntKind.i64.wrap ((↑x5.length:Int) - 2))).bind λy =>
    (ab x5 (IntKind.i64.wrap ((↑x5.length:Int) - 2))).bind λy =>
     (ab x1 x6).bind λbp =>
     bif y != bp.snd.snd.snd.snd.snd.snd.fst then some ((false,()),())
     else nF x0 x1 x5 x6 x7 (↑x5.length:Int)
 else nF x0 x1 x5 x6 x7 (↑x5.length:Int):=(join_eq Ck [1,1,1,0,1,0,0,1,0,0,1,1,1] _).trans (by kernel_rfl)
theorem Qo(x0:List Rel)(x1:List av)(x5:List Int)(x6:Int):qO x0 x1 x5 x6 =
 bif decide (x6<(↑x1.length:Int))then
 (ab x1 x6).bind λy =>
 (za x0 y).bind λy =>
  bif !y.fst.fst then some ((false,()),())
  else
  (ab x1 x6).bind λy =>
   bif y.fst==3 then jZ x0 x1 x5 x6 2
   else
   (ab x1 x6).bind λy =>
    bif y.fst==4 then jZ x0 x1 x5 x6 2
    else
    (ab x1 x6).bind λy =>
     bif decide (y.fst>1)then jZ x0 x1 x5 x6 1 else jZ x0 x1 x5 x6 0
else some (((↑x5.length:Int)==1,()),()):=(aQ Ck [1,1,1,0,1,0] (by kernel_rfl) _).trans (by kernel_rfl)
theorem adr(a0:List Rel)(a1:List av):yQ a0 a1 =
 (yP a0).bind λy =>
 bif !y.fst.fst then some ((false,()),())
 else
 (iA (↑a1.length:Int) 1 12).bind λy =>
  bif !y.fst.fst then some ((false,()),())else qO a0 a1 [] 0:=(Eq.trans (by kernel_rfl:yQ a0 a1=ax wX (Tryz.f67.body.getD .skip) xg (aU 117 [(bt,Mode.ro),(cn,Mode.ro)] (a0,a1,()))) (all_eq Ck _)).trans (by kernel_rfl)
def Lh:Env:=Ey.env C Av.1 Tryz.f30
def OR:=Ey.out C
def tF(x0:List Rel)(x1:List av)(x5:Int):Option ((Bool×PUnit)×PUnit):=aL Lh [1,0,1,0] (Tryz.f30.body.getD .skip) OR (V.d none 0 bt x0::V.d none 0 cn x1::dd 3 (V.d none 0 (Ty.int IntKind.i64) x5::dd 23 ([])))
def yS(a0:List Rel)(a1:List av):Option ((Bool×PUnit)×PUnit):=M5.ao (a0,a1,())
def ai1:List (Nat×List Nat):=[(1000002,[1,0,1,0])]
theorem VH:okB ai1 (Tryz.f30.body.getD .skip) []=true:=by kernel_rfl
theorem Qq(x0:List Rel)(x1:List av)(x5:Int):tF x0 x1 x5 =
 bif decide (x5<(↑x1.length:Int))then
 (ab x1 x5).bind λy =>
 bif y.fst==2 then some ((false,()),())
 else
  (ab x1 x5).bind λy =>
  bif y.fst==6 then some ((false,()),())else tF x0 x1 (IntKind.i64.wrap (x5+1))
else (yQ x0 x1).bind λy=>some ((y.fst.fst,()),()):=(aQ VH [1,0,1,0] (by kernel_rfl) _).trans (by kernel_rfl)
theorem adu(a0:List Rel)(a1:List av):yS a0 a1 =
 tF a0 a1 0:=(Eq.trans (by kernel_rfl:yS a0 a1=ax Lh (Tryz.f30.body.getD .skip) OR (aU 29 [(bt,Mode.ro),(cn,Mode.ro)] (a0,a1,()))) (all_eq VH _)).trans (by kernel_rfl)
def Lp:Env:=EI.env C Aw.1 Tryz.f105
def OZ:=EI.out C
def xF(x1:aa)(x3:Int):Option ((Bool×PUnit)×PUnit):=aL Lp [1,0,1,0] (Tryz.f105.body.getD .skip) OZ (V.dead::(V.box none 0 aH x1::V.dead::(V.d none 0 (Ty.int IntKind.i64) x3::dd 13 ([]))))
def ud(a0:aa):Option ((Bool×PUnit)×PUnit):=Nk.ao (a0,())
def ajb:List (Nat×List Nat):=[(1000002,[1,0,1,0])]
theorem VP:okB ajb (Tryz.f105.body.getD .skip) []=true:=by kernel_rfl
theorem QB(x1:aa)(x3:Int):xF x1 x3 =
 bif decide (x3<(↑(List.length x1.fst):Int))then
 (ab x1.fst x3).bind λy =>
 bif y != 0 then some ((false,()),())else xF x1 (IntKind.i64.wrap (x3+1))
else some ((true,()),()):=(aQ VP [1,0,1,0] (by kernel_rfl) _).trans (by kernel_rfl)
theorem adN(a0:aa):ud a0 =
 xF a0 0:=(Eq.trans (by kernel_rfl:ud a0=ax Lp (Tryz.f105.body.getD .skip) OZ (aU 17 [(aH,Mode.ro)] (a0,()))) (all_eq VP _)).trans (by kernel_rfl)
def R1(a0:aa):Option ((Bool×PUnit)×PUnit):=Np.ao (a0,())
theorem adS(a0:aa):R1 a0 =
 bif decide (a0.snd.fst<0)then some ((true,()),())
else bif a0.snd.fst==0 then some ((!a0.snd.snd,()),())else some ((false,()),()):=by kernel_rfl
def y6(a0:Int):Option ((aB×PUnit)×PUnit):=Nv.ao (a0,())
theorem ad0(a0:Int):y6 a0 =
 bif
 decide (0<=a0)&&decide (a0<=a0)&&decide (a0*(↑8:Int)<=140737488355328) &&
  decide (a0<=9223372036854775807)then
 some (((a0,[(List.replicate a0.toNat (0:Int),1,false)]),()),())
else none:=by kernel_rfl
def y4(a0:aa):Option ((aa×PUnit)×PUnit):=Nr.ao (a0,())
theorem adV(a0:aa):y4 a0 =
 bif decide ((0+List.length a0.fst)*8<=140737488355328)then some (((a0.fst,a0.snd.fst,a0.snd.snd),()),())
else none:=by kernel_rfl
def q9(a0:aa):Option ((Int×PUnit)×PUnit):=Nn.ao (a0,())
theorem adP(a0:aa):q9 a0 =
 (oO a0.fst 0).bind λy=>some ((y.fst.fst,()),()):=by kernel_rfl
def Lq:Env:=EK.env C AK.1 Tryz.f153
def O0:=EK.out C
def xI(x2:aa)(x3:aa)(x5:Int)(x6:Int)(x7:Int):Option ((Int×PUnit)×PUnit):=aL Lq [1,1,1,0,1,0] (Tryz.f153.body.getD .skip) O0 (dd 2 (V.box none 0 aH x2::V.box none 0 aH x3::V.dead::(V.d none 0 (Ty.int IntKind.i64) x5::V.d none 0 (Ty.int IntKind.i64) x6::V.d none 0 (Ty.int IntKind.i64) x7::dd 42 ([]))))
def ra(a0:aa)(a1:aa):Option ((Int×PUnit)×PUnit):=Nq.ao (a0,a1,())
def ajd:List (Nat×List Nat):=[(1000004,[1,1,1,0,1,0])]
theorem VQ:okB ajd (Tryz.f153.body.getD .skip) []=true:=by kernel_rfl
theorem QE(x2:aa)(x3:aa)(x5:Int)(x6:Int)(x7:Int):xI x2 x3 x5 x6 x7 =
 bif decide (x7<(↑(List.length x2.fst):Int))then
 bif decide (x7<(↑(List.length x3.fst):Int))then
 (ab x2.fst x7).bind λy =>
  bif x5 != 0 then
  (ab x3.fst x7).bind λay =>
   bif x6 != 0 then
   bif IntKind.i64.wrap (y.tdiv x5) != IntKind.i64.wrap (ay.tdiv x6)then
    bif decide (IntKind.i64.wrap (y.tdiv x5)<IntKind.i64.wrap (ay.tdiv x6))then some ((-1,()),())
    else some ((1,()),())
   else xI x2 x3 x5 x6 (IntKind.i64.wrap (x7+1))
   else none
  else none
 else some ((0,()),())
else some ((0,()),()):=(aQ VQ [1,1,1,0,1,0] (by kernel_rfl) _).trans (by kernel_rfl)
theorem adT(a0:aa)(a1:aa):ra a0 a1 =
 (q9 a0).bind λy =>
 (q9 a1).bind λay =>
 xI a0 a1 (bif true then if 1<y.fst.fst then y.fst.fst else 1 else if y.fst.fst<1 then y.fst.fst else 1)
  (bif true then if 1<ay.fst.fst then ay.fst.fst else 1 else if ay.fst.fst<1 then ay.fst.fst else 1) 0:=(Eq.trans (by kernel_rfl:ra a0 a1=ax Lq (Tryz.f153.body.getD .skip) O0 (aU 50 [(aH,Mode.ro),(aH,Mode.ro)] (a0,a1,()))) (all_eq VQ _)).trans (by kernel_rfl)
def y3(a0:aa)(a1:aa):Option ((Bool×PUnit)×PUnit):=No.ao (a0,a1,())
theorem adQ(a0:aa)(a1:aa):y3 a0 a1 =
 (q9 a1).bind λy =>
 (q9 a0).bind λay =>
 bif
  decide
   (IntKind.i64.wrap
    (a0.snd.fst*bif true then if 1<y.fst.fst then y.fst.fst else 1 else if y.fst.fst<1 then y.fst.fst else 1) >
   IntKind.i64.wrap
    (a1.snd.fst *
    bif true then if 1<ay.fst.fst then ay.fst.fst else 1 else if ay.fst.fst<1 then ay.fst.fst else 1))then
  some ((true,()),())
 else
  bif
   IntKind.i64.wrap
    (a0.snd.fst *
    bif true then if 1<y.fst.fst then y.fst.fst else 1 else if y.fst.fst<1 then y.fst.fst else 1) ==
   IntKind.i64.wrap
    (a1.snd.fst *
    bif true then if 1<ay.fst.fst then ay.fst.fst else 1 else if ay.fst.fst<1 then ay.fst.fst else 1)then
  bif a0.snd.snd then some ((true,()),())else some ((!a1.snd.snd,()),())
  else some ((false,()),()):=by kernel_rfl
def Lu:Env:=EP.env C AL.1 Tryz.f135
def O4:=EP.out C
def xL(x0:List aa)(x3:aa)(x5:Int):Option ((List aa×PUnit)×PUnit):=aL Lu [1,1,0,0] (Tryz.f135.body.getD .skip) O4 (V.d none 0 cS x0::dd 2 (V.box none 0 aH x3::V.dead::(V.d none 0 (Ty.int IntKind.i64) x5::dd 56 ([]))))
def y8(a0:List aa)(a1:aa):Option ((List aa×PUnit)×PUnit):=Nx.ao (a0,a1,())
def aji:List (Nat×List Nat):=[(1000002,[1,1,0,0])]
theorem VU:okB aji (Tryz.f135.body.getD .skip) []=true:=by kernel_rfl
theorem QN(x0:List aa)(x3:aa)(x5:Int):xL x0 x3 x5 =
 bif decide (x5<(↑x0.length:Int))then
 (ab x0 x5).bind λy =>
 (ra y x3).bind λy =>
  bif decide (y.fst.fst<0)then xL x0 x3 (IntKind.i64.wrap (x5+1))
  else
  bif decide (x5<(↑x0.length:Int))then
   (ab x0 x5).bind λy =>
   (ra y x3).bind λy =>
    bif y.fst.fst==0 then
    (ab x0 x5).bind λy =>
     (y3 y x3).bind λy =>
     bif y.fst.fst then some ((x0,()),())
     else
      bif decide ((0+x0.length)*40<=140737488355328)then
      (ab x0 x5).bind λy =>
       (ab x0 x5).bind λy =>
       (ab x0 x5).bind λy=>(some (x0.set x5.toNat x3)).bind λy=>some ((y,()),())
      else none
    else
    bif decide (0<=0)&&decide (0<=x5)&&decide (x5<=(↑x0.length:Int))then
     bif decide ((0+(List.drop (Int.toNat 0) (List.take x5.toNat x0)).length)*40<=140737488355328)then
     bif decide (((List.drop (Int.toNat 0) (List.take x5.toNat x0)).length+1)*40<=140737488355328)then
      bif
       decide (0<=x5)&&decide (x5<=(↑x0.length:Int)) &&
       decide ((↑x0.length:Int)<=(↑x0.length:Int))then
      bif
       decide
        (((List.drop (Int.toNat 0) (List.take x5.toNat x0)++[x3]).length +
         (List.drop x5.toNat (List.take x0.length x0)).length) *
         40 <=
        140737488355328)then
       some
       ((List.drop (Int.toNat 0) (List.take x5.toNat x0)++[x3]++List.drop x5.toNat (List.take x0.length x0),
        ()),
        ())
      else none
      else none
     else none
     else none
    else none
  else
   bif decide (0<=0)&&decide (0<=x5)&&decide (x5<=(↑x0.length:Int))then
   bif decide ((0+(List.drop (Int.toNat 0) (List.take x5.toNat x0)).length)*40<=140737488355328)then
    bif decide (((List.drop (Int.toNat 0) (List.take x5.toNat x0)).length+1)*40<=140737488355328)then
    bif decide (0<=x5)&&decide (x5<=(↑x0.length:Int))&&decide ((↑x0.length:Int)<=(↑x0.length:Int))then
     bif
      decide
      (((List.drop (Int.toNat 0) (List.take x5.toNat x0)++[x3]).length +
        (List.drop x5.toNat (List.take x0.length x0)).length) *
       40 <=
       140737488355328)then
     some
      ((List.drop (Int.toNat 0) (List.take x5.toNat x0)++[x3]++List.drop x5.toNat (List.take x0.length x0),
       ()),
      ())
     else none
    else none
    else none
   else none
   else none
else
 bif decide (x5<(↑x0.length:Int))then
 (ab x0 x5).bind λy =>
  (ra y x3).bind λy =>
  bif y.fst.fst==0 then
   (ab x0 x5).bind λy =>
   (y3 y x3).bind λy =>
    bif y.fst.fst then some ((x0,()),())
    else
    bif decide ((0+x0.length)*40<=140737488355328)then
     (ab x0 x5).bind λy =>
     (ab x0 x5).bind λy =>
      (ab x0 x5).bind λy=>(some (x0.set x5.toNat x3)).bind λy=>some ((y,()),())
    else none
  else
   bif decide (0<=0)&&decide (0<=x5)&&decide (x5<=(↑x0.length:Int))then
   bif decide ((0+(List.drop (Int.toNat 0) (List.take x5.toNat x0)).length)*40<=140737488355328)then
    bif decide (((List.drop (Int.toNat 0) (List.take x5.toNat x0)).length+1)*40<=140737488355328)then
    bif decide (0<=x5)&&decide (x5<=(↑x0.length:Int))&&decide ((↑x0.length:Int)<=(↑x0.length:Int))then
     bif
      decide
      (((List.drop (Int.toNat 0) (List.take x5.toNat x0)++[x3]).length +
        (List.drop x5.toNat (List.take x0.length x0)).length) *
       40 <=
       140737488355328)then
     some
      ((List.drop (Int.toNat 0) (List.take x5.toNat x0)++[x3]++List.drop x5.toNat (List.take x0.length x0),
       ()),
      ())
     else none
    else none
    else none
   else none
   else none
 else
 bif decide (0<=0)&&decide (0<=x5)&&decide (x5<=(↑x0.length:Int))then
  bif decide ((0+(List.drop (Int.toNat 0) (List.take x5.toNat x0)).length)*40<=140737488355328)then
  bif decide (((List.drop (Int.toNat 0) (List.take x5.toNat x0)).length+1)*40<=140737488355328)then
   bif decide (0<=x5)&&decide (x5<=(↑x0.length:Int))&&decide ((↑x0.length:Int)<=(↑x0.length:Int))then
   bif
    decide
     (((List.drop (Int.toNat 0) (List.take x5.toNat x0)++[x3]).length +
      (List.drop x5.toNat (List.take x0.length x0)).length) *
      40 <=
     140737488355328)then
    some
    ((List.drop (Int.toNat 0) (List.take x5.toNat x0)++[x3]++List.drop x5.toNat (List.take x0.length x0),()),
     ())
   else none
   else none
  else none
  else none
 else none:=(aQ VU [1,1,0,0] (by kernel_rfl) _).trans (by kernel_rfl)
theorem ad2(a0:List aa)(a1:aa):y8 a0 a1 =
 xL a0 a1 0:=(Eq.trans (by kernel_rfl:y8 a0 a1=ax Lu (Tryz.f135.body.getD .skip) O4 (aU 62 [(cS,Mode.ro),(aH,Mode.ro)] (a0,a1,()))) (all_eq VU _)).trans (by kernel_rfl)
def Lt:Env:=EO.env C AP.1 Tryz.f104
def O3:=EO.out C
def tN(x0:Int)(x1:List aa)(x4:Int×List aa)(x5:Int×List aa)(x6:Int):Option ((aB×PUnit)×PUnit):=aL Lt [1,1,0,1,0] (Tryz.f104.body.getD .skip) O3 (V.d none 0 ak x0::V.d none 0 cS x1::dd 2 (V.box none 0 aA x4::V.box none 0 aA x5::V.d none 0 (Ty.int IntKind.i64) x6::dd 31 ([])))
def oP(a0:Int)(a1:List aa):Option ((aB×PUnit)×PUnit):=Nw.ao (a0,a1,())
def ajh:List (Nat×List Nat):=[(1000003,[1,1,0,1,0])]
theorem VT:okB ajh (Tryz.f104.body.getD .skip) []=true:=by kernel_rfl
theorem QM(x0:Int)(x1:List aa)(x4:Int×List aa)(x5:Int×List aa)(x6:Int):tN x0 x1 x4 x5 x6 =
 bif decide (x6<(↑x1.length:Int))then
 (ab x1 x6).bind λy =>
 (ud y).bind λy =>
  bif y.fst.fst then
  (ab x1 x6).bind λy =>
   (R1 y).bind λy =>
   bif !y.fst.fst then (y6 x0).bind λy=>some ((y.fst.fst,()),())
   else tN x0 x1 x4 x5 (IntKind.i64.wrap (x6+1))
  else
  (ab x1 x6).bind λy =>
   (y4 y).bind λy =>
   (y8 x5.snd y.fst.fst).bind λy=>tN x0 x1 x4 (x5.fst,y.fst.fst) (IntKind.i64.wrap (x6+1))
else some ((x5,()),()):=(aQ VT [1,1,0,1,0] (by kernel_rfl) _).trans (by kernel_rfl)
theorem ad1(a0:Int)(a1:List aa):oP a0 a1 =
 tN a0 a1 (0,[]) (a0,[]) 0:=(Eq.trans (by kernel_rfl:oP a0 a1=ax Lt (Tryz.f104.body.getD .skip) O3 (aU 38 [(ak,Mode.ro),(cS,Mode.ro)] (a0,a1,()))) (all_eq VT _)).trans (by kernel_rfl)
def Lo:Env:=EH.env C AO.1 Tryz.f106
def OY:=EH.out C
def tK(x0:List Int)(x6:aa)(x8:Int)(x9:aa)(aY:Int):Option ((aa×Bool×PUnit)×PUnit):=aL Lo [1,1,1,0,1,0] (Tryz.f106.body.getD .skip) OY (V.d none 0 a8 x0::dd 5 (V.box none aH.depth aH x6::V.dead::(V.d none 0 (Ty.int IntKind.i64) x8::V.box none aH.depth aH x9::V.d none 0 (Ty.int IntKind.i64) aY::dd 31 ([]))))
def lY(a0:List Int)(a1:Int)(a2:Bool):Option ((aa×Bool×PUnit)×PUnit):=Nj.ao (a0,a1,a2,())
def aja:List (Nat×List Nat):=[(1000004,[1,1,1,0,1,0])]
theorem VO:okB aja (Tryz.f106.body.getD .skip) []=true:=by kernel_rfl
theorem QA(x0:List Int)(x6:aa)(x8:Int)(x9:aa)(aY:Int):tK x0 x6 x8 x9 aY =
 bif decide (aY<(↑x0.length:Int))then
 (ab x0 aY).bind λy =>
 bif x8 != 0 then
  bif decide ((List.length x9.fst+1)*8<=140737488355328)then
  tK x0 x6 x8 (x9.fst++[IntKind.i64.wrap (y.tdiv x8)],x9.snd) (IntKind.i64.wrap (aY+1))
  else none
 else none
else
 (lX x9).bind λy=>bif !y.fst.fst then some ((([],0,false),false,()),())else some ((x9,true,()),()):=(aQ VO [1,1,1,0,1,0] (by kernel_rfl) _).trans (by kernel_rfl)
theorem adM(a0:List Int)(a1:Int)(a2:Bool):lY a0 a1 a2 =
 (oO a0 a1).bind λy =>
 bif (bif true then if 1<y.fst.fst then y.fst.fst else 1 else if y.fst.fst<1 then y.fst.fst else 1) != 0 then
 tK a0 ([],0,false)
  (bif true then if 1<y.fst.fst then y.fst.fst else 1 else if y.fst.fst<1 then y.fst.fst else 1)
  ([],
  IntKind.i64.wrap
   (a1.tdiv (bif true then if 1<y.fst.fst then y.fst.fst else 1 else if y.fst.fst<1 then y.fst.fst else 1)),
  a2)
  0
 else none:=(Eq.trans (by kernel_rfl:lY a0 a1 a2=ax Lo (Tryz.f106.body.getD .skip) OY (aU 42 [(a8,Mode.ro),(ak,Mode.ro),(aN,Mode.ro)] (a0,a1,a2,()))) (all_eq VO _)).trans (by kernel_rfl)
def Lj:Env:=EA.env C AI.1 Tryz.f107
def OT:=EA.out C
def tG(x1:Int)(x3:Int)(x4:aa)(x6:aa)(x8:aa)(aY:List Int)(bU:Int):Option ((aa×Bool×PUnit)×PUnit):=aL Lj [1,1,1,0,1,0] (Tryz.f107.body.getD .skip) OT (V.dead::(V.d none 0 ak x1::V.dead::(V.d none 0 ak x3::V.box none 0 aH x4::V.dead::(V.box none 0 aH x6::V.dead::(V.box none aH.depth aH x8::V.dead::(V.d none (ak.depth+1) (Ty.slice 3 ak) aY::V.d none 0 (Ty.int IntKind.i64) bU::dd 86 ([])))))))
def yV(a0:aa)(a1:Int)(a2:aa)(a3:Int):Option ((aa×Bool×PUnit)×PUnit):=M8.ao (a0,a1,a2,a3,())
def ai3:List (Nat×List Nat):=[(1000005,[1,1,1,0,1,0])]
theorem VJ:okB ai3 (Tryz.f107.body.getD .skip) []=true:=by kernel_rfl
theorem Qs(x1:Int)(x3:Int)(x4:aa)(x6:aa)(x8:aa)(aY:List Int)(bU:Int):tG x1 x3 x4 x6 x8 aY bU =
 bif decide (bU<(↑(List.length x4.fst):Int))then
 (ab x4.fst bU).bind λy =>
 (ab x6.fst bU).bind λay =>
  bif decide ((aY.length+1)*8<=140737488355328)then
  tG x1 x3 x4 x6 x8 (aY++[IntKind.i64.wrap (IntKind.i64.wrap (x1*y)+IntKind.i64.wrap (x3*ay))])
   (IntKind.i64.wrap (bU+1))
  else none
else
 bif x4.snd.snd then
 bif decide (x1>0)then
  (lY aY (IntKind.i64.wrap (IntKind.i64.wrap (x1*x4.snd.fst)+IntKind.i64.wrap (x3*x6.snd.fst)))
   true).bind
  λy=>some ((y.fst.fst,y.fst.snd.fst,()),())
 else
  bif x6.snd.snd then
  (lY aY (IntKind.i64.wrap (IntKind.i64.wrap (x1*x4.snd.fst)+IntKind.i64.wrap (x3*x6.snd.fst)))
    (decide (x3>0))).bind
   λy=>some ((y.fst.fst,y.fst.snd.fst,()),())
  else
  (lY aY (IntKind.i64.wrap (IntKind.i64.wrap (x1*x4.snd.fst)+IntKind.i64.wrap (x3*x6.snd.fst)))
    false).bind
   λy=>some ((y.fst.fst,y.fst.snd.fst,()),())
 else
 bif x6.snd.snd then
  (lY aY (IntKind.i64.wrap (IntKind.i64.wrap (x1*x4.snd.fst)+IntKind.i64.wrap (x3*x6.snd.fst)))
   (decide (x3>0))).bind
  λy=>some ((y.fst.fst,y.fst.snd.fst,()),())
 else
  (lY aY (IntKind.i64.wrap (IntKind.i64.wrap (x1*x4.snd.fst)+IntKind.i64.wrap (x3*x6.snd.fst)))
   false).bind
  λy=>some ((y.fst.fst,y.fst.snd.fst,()),()):=(aQ VJ [1,1,1,0,1,0] (by kernel_rfl) _).trans (by kernel_rfl)
theorem adz(a0:aa)(a1:Int)(a2:aa)(a3:Int):yV a0 a1 a2 a3 =
 (lX a0).bind λy =>
 bif !y.fst.fst then some ((([],0,false),false,()),())
 else
 (lX a2).bind λy =>
  bif !y.fst.fst then some ((([],0,false),false,()),())
  else
  bif (↑(List.length a0.fst):Int) != (↑(List.length a2.fst):Int)then some ((([],0,false),false,()),())
  else
   (iA a1 0 400000000).bind λy =>
   bif !y.fst.fst then some ((([],0,false),false,()),())
   else
    (iA a3 0 400000000).bind λy =>
    bif !y.fst.fst then some ((([],0,false),false,()),())else tG a1 a3 a0 a2 ([],0,false) [] 0:=(Eq.trans (by kernel_rfl:yV a0 a1 a2 a3=ax Lj (Tryz.f107.body.getD .skip) OT (aU 98 [(aH,Mode.ro),(ak,Mode.ro),(aH,Mode.ro),(ak,Mode.ro)] (a0,a1,a2,a3,()))) (all_eq VJ _)).trans (by kernel_rfl)
def wY:Env:=EM.env C Ay.1 Tryz.f72
def xh:=EM.out C
def qR(x1:Int)(x2:Int×List aa)(x4:Int×List aa)(x6:List aa)(x8:Int)(x9:Int):Option ((aB×Bool×PUnit)×PUnit):=aL wY [1,1,1,0,1,0,0,1,0,0,1,0] (Tryz.f72.body.getD .skip) xh (V.dead::(V.d none 0 ak x1::V.box none 0 aA x2::V.dead::(V.box none aA.depth aA x4::V.dead::(V.d none 1 (Ty.slice 66 aH) x6::V.dead::(V.d none 0 (Ty.int IntKind.i64) x8::V.d none 0 (Ty.int IntKind.i64) x9::dd 103 ([]))))))
def qS(x1:Int)(x2:Int×List aa)(x4:Int×List aa)(x6:List aa)(x8:Int):Option ((aB×Bool×PUnit)×PUnit):=aL wY [1,1,1,0,1,0] (Tryz.f72.body.getD .skip) xh (V.dead::(V.d none 0 ak x1::V.box none 0 aA x2::V.dead::(V.box none aA.depth aA x4::V.dead::(V.d none 1 (Ty.slice 66 aH) x6::V.dead::(V.d none 0 (Ty.int IntKind.i64) x8::dd 104 ([]))))))
def tL(x1:Int)(x2:Int×List aa)(x4:Int×List aa)(x6:List aa)(x7:Int):Option ((aB×Bool×PUnit)×PUnit):=aL wY [1,1,0,1,0] (Tryz.f72.body.getD .skip) xh (V.dead::(V.d none 0 ak x1::V.box none 0 aA x2::V.dead::(V.box none aA.depth aA x4::V.dead::(V.d none 1 (Ty.slice 66 aH) x6::V.d none 0 (Ty.int IntKind.i64) x7::dd 105 ([])))))
def ue(a0:Int×List aa)(a1:Int):Option ((aB×Bool×PUnit)×PUnit):=Nt.ao (a0,a1,())
def ajf:List (Nat×List Nat):=[(1000003,[1,1,0,1,0]),(1000008,[1,1,1,0,1,0]),(1000011,[1,1,1,0,1,0,0,1,0,0,1,0])]
theorem Cl:okB ajf (Tryz.f72.body.getD .skip) []=true:=by kernel_rfl
theorem QH(x1:Int)(x2:Int×List aa)(x4:Int×List aa)(x6:List aa)(x8:Int)(x9:Int):qR x1 x2 x4 x6 x8 x9 =
 bif decide (x9<(↑(List.length x2.snd):Int))then
 (ab x2.snd x8).bind λy =>
 (ab y.fst x1).bind λy =>
  (ab x2.snd x9).bind λay =>
  (ab ay.fst x1).bind λbp =>
   bif decide (y<=0)then qR x1 x2 x4 x6 x8 (IntKind.i64.wrap (x9+1))
   else
   bif decide (bp>=0)then qR x1 x2 x4 x6 x8 (IntKind.i64.wrap (x9+1))
   else
    (ab x2.snd x8).bind λbS =>
    (ab x2.snd x9).bind λcU =>
     (yV bS (IntKind.i64.wrap (0 - bp)) cU y).bind λy =>
     bif !y.fst.snd.fst then some (((0,[]),false,()),())
     else
      bif decide ((x6.length+1)*40<=140737488355328)then
      qR x1 x2 x4 (x6++[y.fst.fst]) x8 (IntKind.i64.wrap (x9+1))
      else none
else qS x1 x2 x4 x6 (IntKind.i64.wrap (x8+1)):=(aQ Cl [1,1,1,0,1,0,0,1,0,0,1,0] (by kernel_rfl) _).trans (by kernel_rfl)
theorem QK(x1:Int)(x2:Int×List aa)(x4:Int×List aa)(x6:List aa)(x8:Int):qS x1 x2 x4 x6 x8 =
 bif decide (x8<(↑(List.length x2.snd):Int))then qR x1 x2 x4 x6 x8 0
else
 (oP x2.fst x6).bind λy =>
 bif decide ((↑(List.length y.fst.fst.snd):Int)>16)then some (((0,[]),false,()),())
 else some ((y.fst.fst,true,()),()):=(aQ Cl [1,1,1,0,1,0] (by kernel_rfl) _).trans (by kernel_rfl)
theorem QJ(x1:Int)(x2:Int×List aa)(x4:Int×List aa)(x6:List aa)(x7:Int):tL x1 x2 x4 x6 x7 =
 bif decide (x7<(↑(List.length x2.snd):Int))then
 (ab x2.snd x7).bind λy =>
 (ab y.fst x1).bind λy =>
  bif y==0 then
  (ab x2.snd x7).bind λy =>
   bif decide ((x6.length+1)*40<=140737488355328)then
   tL x1 x2 x4 (x6++[y]) (IntKind.i64.wrap (x7+1))
   else none
  else tL x1 x2 x4 x6 (IntKind.i64.wrap (x7+1))
else qS x1 x2 x4 x6 0:=(aQ Cl [1,1,0,1,0] (by kernel_rfl) _).trans (by kernel_rfl)
theorem adX(a0:Int×List aa)(a1:Int):ue a0 a1 =
 tL a1 a0 (0,[]) [] 0:=(Eq.trans (by kernel_rfl:ue a0 a1=ax wY (Tryz.f72.body.getD .skip) xh (aU 113 [(aA,Mode.ro),(ak,Mode.ro)] (a0,a1,()))) (all_eq Cl _)).trans (by kernel_rfl)
def Lg:Env:=Ev.env C AN.1 Tryz.f131
def OQ:=Ev.out C
def xz(x4:Int×List aa)(x5:Int):Option ((Bool×Bool×PUnit)×PUnit):=aL Lg [1,1,1,0,1,0] (Tryz.f131.body.getD .skip) OQ (dd 4 (V.box none 0 aA x4::V.d none 0 (Ty.int IntKind.i64) x5::dd 30 ([])))
def tY(a0:Int×List aa):Option ((Bool×Bool×PUnit)×PUnit):=M1.ao (a0,())
def aiZ:List (Nat×List Nat):=[(1000005,[1,1,1,0,1,0])]
theorem VG:okB aiZ (Tryz.f131.body.getD .skip) []=true:=by kernel_rfl
theorem Qm(x4:Int×List aa)(x5:Int):xz x4 x5 =
 bif decide (x5>=0)then
 (ue x4 x5).bind λy =>
 bif !y.fst.snd.fst then some ((false,false,()),())else xz y.fst.fst (IntKind.i64.wrap (x5 - 1))
else some ((decide ((↑(List.length x4.snd):Int)>0),true,()),()):=(aQ VG [1,1,1,0,1,0] (by kernel_rfl) _).trans (by kernel_rfl)
theorem adq(a0:Int×List aa):tY a0 =
 (nI a0).bind λy =>
 bif !y.fst.fst then some ((false,false,()),())
 else (oP a0.fst a0.snd).bind λy=>xz y.fst.fst (IntKind.i64.wrap (a0.fst - 1)):=(Eq.trans (by kernel_rfl:tY a0=ax Lg (Tryz.f131.body.getD .skip) OQ (aU 36 [(aA,Mode.ro)] (a0,()))) (all_eq VG _)).trans (by kernel_rfl)
def Lr:Env:=EL.env C Au.1 Tryz.f73
def O1:=EL.out C
def xJ(x1:Int×List aa)(x2:Int×List aa)(x3:Int×List aa)(x4:Int):Option ((aB×PUnit)×PUnit):=aL Lr [1,1,0,1,0] (Tryz.f73.body.getD .skip) O1 (V.dead::(V.box none 0 aA x1::V.box none aA.depth aA x2::V.box none aA.depth aA x3::V.d none 0 (Ty.int IntKind.i64) x4::dd 22 ([])))
def rb(a0:Int×List aa):Option ((aB×PUnit)×PUnit):=Ns.ao (a0,())
def aje:List (Nat×List Nat):=[(1000003,[1,1,0,1,0])]
theorem VR:okB aje (Tryz.f73.body.getD .skip) []=true:=by kernel_rfl
theorem QG(x1:Int×List aa)(x2:Int×List aa)(x3:Int×List aa)(x4:Int):xJ x1 x2 x3 x4 =
 bif decide (x4<(↑(List.length x1.snd):Int))then
 (ab x1.snd x4).bind λy =>
 (y4 y).bind λy =>
  bif decide ((List.length x3.snd+1)*40<=140737488355328)then
  xJ x1 x2 (x3.fst,x3.snd++[y.fst.fst]) (IntKind.i64.wrap (x4+1))
  else none
else some ((x3,()),()):=(aQ VR [1,1,0,1,0] (by kernel_rfl) _).trans (by kernel_rfl)
theorem adW(a0:Int×List aa):rb a0 =
 xJ a0 (0,[]) (a0.fst,[]) 0:=(Eq.trans (by kernel_rfl:rb a0=ax Lr (Tryz.f73.body.getD .skip) O1 (aU 27 [(aA,Mode.ro)] (a0,()))) (all_eq VR _)).trans (by kernel_rfl)
def Lk:Env:=EB.env C AM.1 Tryz.f152
def OU:=EB.out C
def xA(x1:aa)(x2:aa)(x4:aa)(x5:Int):Option ((aa×Bool×PUnit)×PUnit):=aL Lk [1,1,1,0,1,0] (Tryz.f152.body.getD .skip) OU (V.dead::(V.box none 0 aH x1::V.box none aH.depth aH x2::V.dead::(V.box none aH.depth aH x4::V.d none 0 (Ty.int IntKind.i64) x5::dd 30 ([]))))
def yW(a0:aa):Option ((aa×Bool×PUnit)×PUnit):=M9.ao (a0,())
def ai4:List (Nat×List Nat):=[(1000005,[1,1,1,0,1,0])]
theorem VK:okB ai4 (Tryz.f152.body.getD .skip) []=true:=by kernel_rfl
theorem Qu(x1:aa)(x2:aa)(x4:aa)(x5:Int):xA x1 x2 x4 x5 =
 bif decide (x5<(↑(List.length x1.fst):Int))then
 (ab x1.fst x5).bind λy =>
 bif decide ((List.length x4.fst+1)*8<=140737488355328)then
  xA x1 x2 (x4.fst++[IntKind.i64.wrap (0 - y)],x4.snd) (IntKind.i64.wrap (x5+1))
 else none
else some ((x4,true,()),()):=(aQ VK [1,1,1,0,1,0] (by kernel_rfl) _).trans (by kernel_rfl)
theorem adB(a0:aa):yW a0 =
 (lX a0).bind λy =>
 bif !y.fst.fst then some ((([],0,false),false,()),())
 else xA a0 ([],0,false) ([],IntKind.i64.wrap (0 - a0.snd.fst),!a0.snd.snd) 0:=(Eq.trans (by kernel_rfl:yW a0=ax Lk (Tryz.f152.body.getD .skip) OU (aU 36 [(aH,Mode.ro)] (a0,()))) (all_eq VK _)).trans (by kernel_rfl)
def yU(a0:Int×List aa)(a1:Int×List aa):Option ((aB×Bool×PUnit)×PUnit):=M7.ao (a0,a1,())
theorem ady(a0:Int×List aa)(a1:Int×List aa):yU a0 a1 =
 (nI a0).bind λy =>
 bif !y.fst.fst then some (((0,[]),false,()),())
 else
 (nI a1).bind λy =>
  bif !y.fst.fst then some (((0,[]),false,()),())
  else
  bif a0.fst != a1.fst then some (((0,[]),false,()),())
  else
   bif decide ((0+List.length a0.snd)*40<=140737488355328)then
   bif decide ((List.length a0.snd+List.length a1.snd)*40<=140737488355328)then
    (oP a0.fst (a0.snd++a1.snd)).bind λy =>
    bif decide ((↑(List.length y.fst.fst.snd):Int)>16)then some (((0,[]),false,()),())
    else some ((y.fst.fst,true,()),())
   else none
   else none:=by kernel_rfl
def FH(a0:Int×List aa)(a1:aa):Option ((Bool×Bool×PUnit)×PUnit):=MX.ao (a0,a1,())
theorem adk(a0:Int×List aa)(a1:aa):FH a0 a1 =
 (yW a1).bind λy =>
 (yU a0 ((↑(List.length a1.fst):Int),[y.fst.fst])).bind λay =>
 bif !y.fst.snd.fst then some ((false,false,()),())
 else
  bif !ay.fst.snd.fst then some ((false,false,()),())
  else (tY ay.fst.fst).bind λy=>some ((y.fst.fst,y.fst.snd.fst,()),()):=by kernel_rfl
def Ls:Env:=EN.env C Aq.1 Tryz.f103
def O2:=EN.out C
def tM(x1:Int×List aa)(x2:Int×List aa)(x6:Int×List aa)(x7:Int):Option ((aB×Bool×PUnit)×PUnit):=aL Ls [1,1,1,1,1,0,1,0] (Tryz.f103.body.getD .skip) O2 (V.dead::(V.box none 0 aA x1::V.box none 0 aA x2::dd 3 (V.box none 0 aA x6::V.d none 0 (Ty.int IntKind.i64) x7::dd 56 ([]))))
def y5(a0:Int×List aa):Option ((aB×Bool×PUnit)×PUnit):=Nu.ao (a0,())
def ajg:List (Nat×List Nat):=[(1000008,[1,1,1,1,1,0,1,0])]
theorem VS:okB ajg (Tryz.f103.body.getD .skip) []=true:=by kernel_rfl
theorem QL(x1:Int×List aa)(x2:Int×List aa)(x6:Int×List aa)(x7:Int):tM x1 x2 x6 x7 =
 bif decide (x7<(↑(List.length x6.snd):Int))then
 bif decide (0<=0)&&decide (0<=x7)&&decide (x7<=(↑(List.length x6.snd):Int))then
 bif decide ((0+(List.drop (Int.toNat 0) (List.take x7.toNat x6.snd)).length)*40<=140737488355328)then
  bif
   decide (0<=IntKind.i64.wrap (x7+1))&&decide (IntKind.i64.wrap (x7+1)<=(↑(List.length x6.snd):Int)) &&
   decide ((↑(List.length x6.snd):Int)<=(↑(List.length x6.snd):Int))then
  bif
   decide
    (((List.drop (Int.toNat 0) (List.take x7.toNat x6.snd)).length +
     (List.drop (IntKind.i64.wrap (x7+1)).toNat (List.take (List.length x6.snd) x6.snd)).length) *
     40 <=
    140737488355328)then
   (ab x6.snd x7).bind λy =>
   (FH
     (x1.fst,
     List.drop (Int.toNat 0) (List.take x7.toNat x6.snd) ++
      List.drop (IntKind.i64.wrap (x7+1)).toNat (List.take (List.length x6.snd) x6.snd))
     y).bind
    λy =>
    bif !y.fst.snd.fst then some (((0,[]),false,()),())
    else
    bif y.fst.fst then
     (rb
      (x1.fst,
       List.drop (Int.toNat 0) (List.take x7.toNat x6.snd) ++
       List.drop (IntKind.i64.wrap (x7+1)).toNat (List.take (List.length x6.snd) x6.snd))).bind
     λy=>tM x1 x2 y.fst.fst x7
    else tM x1 x2 x6 (IntKind.i64.wrap (x7+1))
  else none
  else none
 else none
 else none
else some ((x6,true,()),()):=(aQ VS [1,1,1,1,1,0,1,0] (by kernel_rfl) _).trans (by kernel_rfl)
theorem adY(a0:Int×List aa):y5 a0 =
 (tY a0).bind λy =>
 bif !y.fst.snd.fst then some (((0,[]),false,()),())
 else
 bif y.fst.fst then (y6 a0.fst).bind λy=>some ((y.fst.fst,true,()),())
 else (rb a0).bind λy=>tM a0 (0,[]) y.fst.fst 0:=(Eq.trans (by kernel_rfl:y5 a0=ax Ls (Tryz.f103.body.getD .skip) O2 (aU 64 [(aA,Mode.ro)] (a0,()))) (all_eq VS _)).trans (by kernel_rfl)
def oM(a0:List ah)(a1:Int×List aa)(a2:List (List Int)):Option ((List ah×Bool×PUnit)×PUnit):=Nc.ao (a0,a1,a2,())
theorem adH(a0:List ah)(a1:Int×List aa)(a2:List (List Int)):oM a0 a1 a2 =
 (oP a1.fst a1.snd).bind λy =>
 (y5 y.fst.fst).bind λy =>
 bif !y.fst.snd.fst then some (([],false,()),())
 else
  bif decide ((↑a0.length:Int)>=24)then some (([],false,()),())
  else
  bif (↑(List.length y.fst.fst.snd):Int)==1 then
   (ab y.fst.fst.snd 0).bind λay =>
   (ud ay).bind λbp =>
    bif bp.fst.fst then some ((a0,true,()),())
    else
    bif decide ((0+a0.length)*56<=140737488355328)then
     bif decide ((a0.length+1)*56<=140737488355328)then some ((a0++[(y.fst.fst,a2)],true,()),())
     else none
    else none
  else
   bif decide ((0+a0.length)*56<=140737488355328)then
   bif decide ((a0.length+1)*56<=140737488355328)then some ((a0++[(y.fst.fst,a2)],true,()),())else none
   else none:=by kernel_rfl
def Dp:Env:=EC.env C AB.1 Tryz.f69
def DG:=EC.out C
def tH(x1:List Int)(x2:Int×List aa)(x4:Int×List aa)(x6:Int×List aa)(x7:Int)(x8:List Int)(x9:Int):Option ((aB×Bool×PUnit)×PUnit):=aL Dp [1,1,1,0,1,0,0,1,0,0,1,0,1,0] (Tryz.f69.body.getD .skip) DG (V.dead::(V.d none 0 a8 x1::V.box none 0 aA x2::V.dead::(V.box none aA.depth aA x4::V.dead::(V.box none aA.depth aA x6::V.d none 0 (Ty.int IntKind.i64) x7::V.d none (ak.depth+1) (Ty.slice 3 ak) x8::V.d none 0 (Ty.int IntKind.i64) x9::dd 85 ([])))))
def xB(x1:List Int)(x2:Int×List aa)(x4:Int×List aa)(x6:Int×List aa)(x7:Int):Option ((aB×Bool×PUnit)×PUnit):=aL Dp [1,1,1,0,1,0] (Tryz.f69.body.getD .skip) DG (V.dead::(V.d none 0 a8 x1::V.box none 0 aA x2::V.dead::(V.box none aA.depth aA x4::V.dead::(V.box none aA.depth aA x6::V.d none 0 (Ty.int IntKind.i64) x7::dd 87 ([])))))
def tZ(a0:Int×List aa)(a1:List Int):Option ((aB×Bool×PUnit)×PUnit):=Na.ao (a0,a1,())
def ai5:List (Nat×List Nat):=[(1000005,[1,1,1,0,1,0]),(1000009,[1,1,1,0,1,0,0,1,0,0,1,0,1,0])]
theorem I6:okB ai5 (Tryz.f69.body.getD .skip) []=true:=by kernel_rfl
theorem Qw(x1:List Int)(x2:Int×List aa)(x4:Int×List aa)(x6:Int×List aa)(x7:Int)(x8:List Int)(x9:Int):tH x1 x2 x4 x6 x7 x8 x9 =
 bif decide (x9<(↑x1.length:Int))then
 (ab x1 x9).bind λy =>
 (iA y 0 3).bind λy =>
  bif !y.fst.fst then some (((0,[]),false,()),())
  else
  (ab x1 x9).bind λy =>
   (ab x1 x9).bind λay =>
   (ab x8 ay).bind λbp =>
    (ab x8 ay).bind λbS =>
    (ab x2.snd x7).bind λcU =>
     (ab cU.fst x9).bind λeV =>
     (ab x8 y).bind λfN =>
      (ab x8 y).bind λnE =>
      (ab x8 y).bind λjh =>
       (some (x8.set y.toNat (IntKind.i64.wrap (bS+eV)))).bind λy =>
       tH x1 x2 x4 x6 x7 y (IntKind.i64.wrap (x9+1))
else
 (ab x2.snd x7).bind λy =>
 (ab x2.snd x7).bind λay =>
  (lY x8 y.snd.fst ay.snd.snd).bind λy =>
  bif !y.fst.snd.fst then some (((0,[]),false,()),())
  else
   bif decide ((List.length x6.snd+1)*40<=140737488355328)then
   xB x1 x2 x4 (x6.fst,x6.snd++[y.fst.fst]) (IntKind.i64.wrap (x7+1))
   else none:=(aQ I6 [1,1,1,0,1,0,0,1,0,0,1,0,1,0] (by kernel_rfl) _).trans (by kernel_rfl)
theorem Qv(x1:List Int)(x2:Int×List aa)(x4:Int×List aa)(x6:Int×List aa)(x7:Int):xB x1 x2 x4 x6 x7 =
 bif decide (x7<(↑(List.length x2.snd):Int))then tH x1 x2 x4 x6 x7 (List.replicate (Int.toNat 4) (0:Int)) 0
else some ((x6,true,()),()):=(aQ I6 [1,1,1,0,1,0] (by kernel_rfl) _).trans (by kernel_rfl)
theorem adD(a0:Int×List aa)(a1:List Int):tZ a0 a1 =
 (nI a0).bind λy =>
 bif !y.fst.fst then some (((0,[]),false,()),())
 else bif (↑a1.length:Int) != a0.fst then some (((0,[]),false,()),())else xB a1 a0 (0,[]) (4,[]) 0:=(Eq.trans (by kernel_rfl:tZ a0 a1=ax Dp (Tryz.f69.body.getD .skip) DG (aU 95 [(aA,Mode.ro),(a8,Mode.ro)] (a0,a1,()))) (all_eq I6 _)).trans (by kernel_rfl)
def Ln:Env:=EG.env C Az.1 Tryz.f71
def OX:=EG.out C
def xE(x0:List (List Int))(x3:List (List Int))(x4:Int):Option ((List (List Int)×PUnit)×PUnit):=aL Ln [1,1,0,1,0] (Tryz.f71.body.getD .skip) OX (V.d none 0 dy x0::dd 2 (V.d none (a8.depth+1) (Ty.slice 58 a8) x3::V.d none 0 (Ty.int IntKind.i64) x4::dd 17 ([])))
def oN(a0:List (List Int)):Option ((List (List Int)×PUnit)×PUnit):=Ng.ao (a0,())
def ai9:List (Nat×List Nat):=[(1000003,[1,1,0,1,0])]
theorem VN:okB ai9 (Tryz.f71.body.getD .skip) []=true:=by kernel_rfl
theorem Qz(x0:List (List Int))(x3:List (List Int))(x4:Int):xE x0 x3 x4 =
 bif decide (x4<(↑x0.length:Int))then
 (ab x0 x4).bind λy =>
 bif decide ((0+y.length)*8<=140737488355328)then
  bif decide ((x3.length+1)*24<=140737488355328)then xE x0 (x3++[y]) (IntKind.i64.wrap (x4+1))
  else none
 else none
else some ((x3,()),()):=(aQ VN [1,1,0,1,0] (by kernel_rfl) _).trans (by kernel_rfl)
theorem adK(a0:List (List Int)):oN a0 =
 xE a0 [] 0:=(Eq.trans (by kernel_rfl:oN a0=ax Ln (Tryz.f71.body.getD .skip) OX (aU 22 [(dy,Mode.ro)] (a0,()))) (all_eq VN _)).trans (by kernel_rfl)
def Lm:Env:=EE.env C AF.1 Tryz.f32
def OW:=EE.out C
def xD(x0:List ah)(x3:List ah)(x4:Int):Option ((List ah×PUnit)×PUnit):=aL Lm [1,1,0,1,0] (Tryz.f32.body.getD .skip) OW (V.d none 0 bD x0::dd 2 (V.d none (fx.depth+1) (Ty.slice 81 fx) x3::V.d none 0 (Ty.int IntKind.i64) x4::dd 24 ([])))
def q8(a0:List ah):Option ((List ah×PUnit)×PUnit):=Nd.ao (a0,())
def ai7:List (Nat×List Nat):=[(1000003,[1,1,0,1,0])]
theorem VM:okB ai7 (Tryz.f32.body.getD .skip) []=true:=by kernel_rfl
theorem Qy(x0:List ah)(x3:List ah)(x4:Int):xD x0 x3 x4 =
 bif decide (x4<(↑x0.length:Int))then
 (ab x0 x4).bind λy =>
 (rb y.fst).bind λy =>
  (ab x0 x4).bind λay =>
  (oN ay.snd).bind λbp =>
   bif decide ((x3.length+1)*56<=140737488355328)then
   xD x0 (x3++[(y.fst.fst,bp.fst.fst)]) (IntKind.i64.wrap (x4+1))
   else none
else some ((x3,()),()):=(aQ VM [1,1,0,1,0] (by kernel_rfl) _).trans (by kernel_rfl)
theorem adI(a0:List ah):q8 a0 =
 xD a0 [] 0:=(Eq.trans (by kernel_rfl:q8 a0=ax Lm (Tryz.f32.body.getD .skip) OW (aU 29 [(bD,Mode.ro)] (a0,()))) (all_eq VM _)).trans (by kernel_rfl)
def tg:Env:=EF.env C AD.1 Tryz.f31
def th:=EF.out C
def nG(x0:List Rel)(x2:List (List ah))(x4:Int×aa×ByteArray×ByteArray×List Int×Int×Int×Int)(x8:List ah)(x9:Bool)(aY:Int)(bU:Int):Option ((List ah×Bool×PUnit) ×
 List (List ah)×PUnit):=aL tg [1,1,1,0,1,0,1,1,1,0,1,1,0] (Tryz.f31.body.getD .skip) th (V.d none 0 bt x0::V.dead::(V.d none 1 ja x2::V.dead::(V.box none 0 da x4::dd 3 (V.d none 0 (Ty.slice 81 fx) x8::V.d none 0 Ty.bool x9::V.d none 0 ak aY::V.d none 0 (Ty.int IntKind.i64) bU::dd 217 ([])))))
def tI(x2:List (List ah))(x4:Int×aa×ByteArray×ByteArray×List Int×Int×Int×Int)(x8:List ah)(x9:Bool)(x14:List ah)(x15:List ah)(x16:Int)(cM:Int):Option ((List ah×Bool×PUnit) ×
 List (List ah)×PUnit):=aL tg [1,1,1,0,1,0,1,1,1,1,1,1,1,0,1,1,1,0,0,1,0,0,1,0] (Tryz.f31.body.getD .skip) th (dd 2 (V.d none 1 ja x2::V.dead::(V.box none 0 da x4::dd 3 (V.d none 0 (Ty.slice 81 fx) x8::V.d none 0 Ty.bool x9::dd 4 (V.d none 0 bD x14::V.d none 0 bD x15::V.d none 0 (Ty.int IntKind.i64) x16::V.d none 0 (Ty.int IntKind.i64) cM::dd 145 (V.view 2 [] ja::dd 4 (V.view 2 [] ja::dd 60 ([]))))))))
def oE(x2:List (List ah))(x4:Int×aa×ByteArray×ByteArray×List Int×Int×Int×Int)(x8:List ah)(x9:Bool)(x14:List ah)(x15:List ah)(x16:Int):Option ((List ah×Bool×PUnit) ×
 List (List ah)×PUnit):=aL tg [1,1,1,0,1,0,1,1,1,1,1,1,1,0,1,1,1,0] (Tryz.f31.body.getD .skip) th (dd 2 (V.d none 1 ja x2::V.dead::(V.box none 0 da x4::dd 3 (V.d none 0 (Ty.slice 81 fx) x8::V.d none 0 Ty.bool x9::dd 4 (V.d none 0 bD x14::V.d none 0 bD x15::V.d none 0 (Ty.int IntKind.i64) x16::dd 146 (V.view 2 [] ja::dd 4 (V.view 2 [] ja::dd 60 ([]))))))))
def tJ(x2:List (List ah))(x4:Int×aa×ByteArray×ByteArray×List Int×Int×Int×Int)(x8:List ah)(x9:Bool)(fz:List ah)(dz:Int):Option ((List ah×Bool×PUnit) ×
 List (List ah)×PUnit):=aL tg [1,1,1,0,1,0,1,1,1,1,1,1,1,1,1,1,0] (Tryz.f31.body.getD .skip) th (dd 2 (V.d none 1 ja x2::V.dead::(V.box none 0 da x4::dd 3 (V.d none 0 (Ty.slice 81 fx) x8::V.d none 0 Ty.bool x9::dd 10 (V.d none 0 bD fz::V.d none 0 (Ty.int IntKind.i64) dz::dd 5 (V.view 2 [] ja::dd 201 ([])))))))
def ub(a0:List Rel)(a1:Int×aa×ByteArray×ByteArray×List Int×Int×Int×Int)(a2:List (List ah)):Option ((List ah×Bool×PUnit) ×
 List (List ah)×PUnit):=Nf.ao (a0,a1,a2,())
def ai8:List (Nat×List Nat):=[(1000017,[1,1,1,0,1,0,1,1,1,0,1,1,0]),(1000031,[1,1,1,0,1,0,1,1,1,1,1,1,1,0,1,1,1,0]),(1000034,[1,1,1,0,1,0,1,1,1,1,1,1,1,0,1,1,1,0,0,1,0,0,1,0]),(1000006,[1,1,1,0,1,0,1,1,1,1,1,1,1,1,1,1,0])]
theorem vI:okB ai8 (Tryz.f31.body.getD .skip) []=true:=by kernel_rfl
theorem DQ(x0:List Rel)(x2:List (List ah))(x4:Int×aa×ByteArray×ByteArray×List Int×Int×Int×Int)(x8:List ah)(x9:Bool)(aY:Int)(bU:Int):nG x0 x2 x4 x8 x9 aY bU =
 (ab x0 aY).bind λy =>
 bif decide (bU<(↑(List.length y.snd.snd):Int))then
 bif x9 then
  bif !ByteArray.toList x4.snd.snd.snd.fst==(ByteArray.mk #[]).toList then
  (ab x0 aY).bind λy =>
   (ab y.snd.snd bU).bind λy =>
   bif !ByteArray.toList y.fst==ByteArray.toList x4.snd.snd.snd.fst then
    nG x0 x2 x4 x8 x9 aY (IntKind.i64.wrap (bU+1))
   else
    (ab x0 aY).bind λy =>
    (ab y.snd.snd bU).bind λy =>
     (tZ y.snd x4.snd.snd.snd.snd.fst).bind λy =>
     bif !y.fst.snd.fst then some (([],false,()),x2,())
     else
      (oM x8 y.fst.fst [[aY,bU]]).bind λy =>
      nG x0 x2 x4 y.fst.fst y.fst.snd.fst aY (IntKind.i64.wrap (bU+1))
  else
  (ab x0 aY).bind λy =>
   (ab y.snd.snd bU).bind λy =>
   (tZ y.snd x4.snd.snd.snd.snd.fst).bind λy =>
    bif !y.fst.snd.fst then some (([],false,()),x2,())
    else
    (oM x8 y.fst.fst [[aY,bU]]).bind λy =>
     nG x0 x2 x4 y.fst.fst y.fst.snd.fst aY (IntKind.i64.wrap (bU+1))
 else some ((x8,x9,()),x2,())
 else some ((x8,x9,()),x2,()):=(aQ vI [1,1,1,0,1,0,1,1,1,0,1,1,0] (by kernel_rfl) _).trans (by kernel_rfl)
theorem DS(x2:List (List ah))(x4:Int×aa×ByteArray×ByteArray×List Int×Int×Int×Int)(x8:List ah)(x9:Bool)(x14:List ah)(x15:List ah)(x16:Int)(cM:Int):tI x2 x4 x8 x9 x14 x15 x16 cM =
 bif decide (cM<(↑x15.length:Int))then
 bif x9 then
 (ab x14 x16).bind λy =>
  (ab x15 cM).bind λay =>
  (yU y.fst ay.fst).bind λy =>
   bif !y.fst.snd.fst then some (([],false,()),x2,())
   else
   (ab x14 x16).bind λbp =>
    (oN bp.snd).bind λbS =>
    (ab x15 cM).bind λcU =>
     (oN cU.snd).bind λeV =>
     bif decide ((List.length bS.fst.fst+List.length eV.fst.fst)*24<=140737488355328)then
      (oM x8 y.fst.fst (bS.fst.fst++eV.fst.fst)).bind λy =>
      tI x2 x4 y.fst.fst y.fst.snd.fst x14 x15 x16 (IntKind.i64.wrap (cM+1))
     else none
 else oE x2 x4 x8 x9 x14 x15 (IntKind.i64.wrap (x16+1))
else oE x2 x4 x8 x9 x14 x15 (IntKind.i64.wrap (x16+1)):=(aQ vI [1,1,1,0,1,0,1,1,1,1,1,1,1,0,1,1,1,0,0,1,0,0,1,0] (by kernel_rfl) _).trans (by kernel_rfl)
theorem DR(x2:List (List ah))(x4:Int×aa×ByteArray×ByteArray×List Int×Int×Int×Int)(x8:List ah)(x9:Bool)(x14:List ah)(x15:List ah)(x16:Int):oE x2 x4 x8 x9 x14 x15 x16 =
 bif decide (x16<(↑x14.length:Int))then
 bif x9 then tI x2 x4 x8 x9 x14 x15 x16 0 else some ((x8,x9,()),x2,())
else some ((x8,x9,()),x2,()):=(aQ vI [1,1,1,0,1,0,1,1,1,1,1,1,1,0,1,1,1,0] (by kernel_rfl) _).trans (by kernel_rfl)
theorem DT(x2:List (List ah))(x4:Int×aa×ByteArray×ByteArray×List Int×Int×Int×Int)(x8:List ah)(x9:Bool)(fz:List ah)(dz:Int):tJ x2 x4 x8 x9 fz dz =
 bif decide (dz<(↑fz.length:Int))then
 bif x9 then
 (ab fz dz).bind λy =>
  (ue y.fst x4.snd.snd.snd.snd.snd.fst).bind λy =>
  bif !y.fst.snd.fst then some (([],false,()),x2,())
  else
   (ab fz dz).bind λay =>
   (oN ay.snd).bind λbp =>
    (oM x8 y.fst.fst bp.fst.fst).bind λy =>
    tJ x2 x4 y.fst.fst y.fst.snd.fst fz (IntKind.i64.wrap (dz+1))
 else some ((x8,x9,()),x2,())
else some ((x8,x9,()),x2,()):=(aQ vI [1,1,1,0,1,0,1,1,1,1,1,1,1,1,1,1,0] (by kernel_rfl) _).trans (by kernel_rfl)
theorem adJ(a0:List Rel)(a1:Int×aa×ByteArray×ByteArray×List Int×Int×Int×Int)(a2:List (List ah)):ub a0 a1 a2 =
 bif a1.fst==0 then (oM [] (4,[a1.snd.fst]) []).bind λy=>some ((y.fst.fst,y.fst.snd.fst,()),a2,())
else
 bif a1.fst==1 then (oL a0 a1.snd.snd.fst).bind λy=>nG a0 a2 a1 [] true y.fst.fst 0
 else
 bif a1.fst==4 then
  (ab a2 a1.snd.snd.snd.snd.snd.snd.fst).bind λy =>
  (ab a2 a1.snd.snd.snd.snd.snd.snd.fst).bind λy =>
   (q8 y).bind λy =>
   (ab a2 a1.snd.snd.snd.snd.snd.snd.snd).bind λay =>
    (ab a2 a1.snd.snd.snd.snd.snd.snd.snd).bind λbp =>
    (q8 bp).bind λbS =>
     bif decide ((List.length y.fst.fst+List.length bS.fst.fst)*56<=140737488355328)then
     some ((y.fst.fst++bS.fst.fst,decide ((↑(y.fst.fst++bS.fst.fst).length:Int)<=24),()),a2,())
     else none
 else
  bif a1.fst==3 then
  (ab a2 a1.snd.snd.snd.snd.snd.snd.fst).bind λy =>
   (ab a2 a1.snd.snd.snd.snd.snd.snd.fst).bind λy =>
   (ab a2 a1.snd.snd.snd.snd.snd.snd.snd).bind λay =>
    (ab a2 a1.snd.snd.snd.snd.snd.snd.snd).bind λbp=>oE a2 a1 [] true y bp 0
  else
  (ab a2 a1.snd.snd.snd.snd.snd.snd.fst).bind λy =>
   (ab a2 a1.snd.snd.snd.snd.snd.snd.fst).bind λy=>tJ a2 a1 [] true y 0:=(Eq.trans (by kernel_rfl:ub a0 a1 a2=ax tg (Tryz.f31.body.getD .skip) th (aU 229 [(bt,Mode.ro),(da,Mode.ro),(ja,Mode.mut 1)] (a0,a1,a2,()))) (all_eq vI _)).trans (by kernel_rfl)
def Ll:Env:=ED.env C AE.1 Tryz.f8
def OV:=ED.out C
def xC(x0:List Rel)(x1:List av)(x6:List (List ah))(x7:Int):Option ((List ah×Bool×PUnit)×PUnit):=aL Ll [1,1,1,0,1,0] (Tryz.f8.body.getD .skip) OV (V.d none 0 bt x0::V.d none 0 cn x1::dd 4 (V.d none 1 (Ty.slice 26 bD) x6::V.d none 0 (Ty.int IntKind.i64) x7::dd 38 ([])))
def ua(a0:List Rel)(a1:List av):Option ((List ah×Bool×PUnit)×PUnit):=Nb.ao (a0,a1,())
def ai6:List (Nat×List Nat):=[(1000005,[1,1,1,0,1,0])]
theorem VL:okB ai6 (Tryz.f8.body.getD .skip) []=true:=by kernel_rfl
theorem Qx(x0:List Rel)(x1:List av)(x6:List (List ah))(x7:Int):xC x0 x1 x6 x7 =
 bif decide (x7<(↑x1.length:Int))then
 (ab x1 x7).bind λy =>
 (ub x0 y x6).bind λy =>
  bif !y.fst.snd.fst then some (([],false,()),())
  else
  bif decide ((List.length y.snd.fst+1)*24<=140737488355328)then
   xC x0 x1 (y.snd.fst++[y.fst.fst]) (IntKind.i64.wrap (x7+1))
  else none
else
 (ab x6 (IntKind.i64.wrap ((↑x6.length:Int) - 1))).bind λy =>
 (ab x6 (IntKind.i64.wrap ((↑x6.length:Int) - 1))).bind λy =>
  (q8 y).bind λy=>some ((y.fst.fst,true,()),()):=(aQ VL [1,1,1,0,1,0] (by kernel_rfl) _).trans (by kernel_rfl)
theorem adF(a0:List Rel)(a1:List av):ua a0 a1 =
 (yS a0 a1).bind λy=>bif !y.fst.fst then some (([],false,()),())else xC a0 a1 [] 0:=(Eq.trans (by kernel_rfl:ua a0 a1=ax Ll (Tryz.f8.body.getD .skip) OV (aU 46 [(bt,Mode.ro),(cn,Mode.ro)] (a0,a1,()))) (all_eq VL _)).trans (by kernel_rfl)
def K8:Env:=El.env C AA.1 Tryz.f148
def OI:=El.out C
def tE(x0:ByteArray)(x1:Int)(x2:Int)(x7:Int):Option ((Bool×PUnit)×PUnit):=aL K8 [1,1,0,1,0] (Tryz.f148.body.getD .skip) OI (V.d none 0 cT x0::V.d none 0 iw x1::V.d none 0 iw x2::dd 4 (V.d none 0 (Ty.int IntKind.i64) x7::dd 26 ([])))
def tW(a0:ByteArray)(a1:Int)(a2:Int):Option ((Bool×PUnit)×PUnit):=MM.ao (a0,a1,a2,())
def aiQ:List (Nat×List Nat):=[(1000004,[1,1,0,1,0])]
theorem Vy:okB aiQ (Tryz.f148.body.getD .skip) []=true:=by kernel_rfl
theorem P4(x0:ByteArray)(x1:Int)(x2:Int)(x7:Int):tE x0 x1 x2 x7 =
 bif decide (x7<(↑x0.size:Int))then
 (mo x0 x7).bind λy =>
 bif decide (y<x1)then some ((false,()),())
 else
  (mo x0 x7).bind λy =>
  bif decide (y>x2)then some ((false,()),())else tE x0 x1 x2 (IntKind.i64.wrap (x7+1))
else some ((true,()),()):=(aQ Vy [1,1,0,1,0] (by kernel_rfl) _).trans (by kernel_rfl)
theorem ac4(a0:ByteArray)(a1:Int)(a2:Int):tW a0 a1 a2 =
 bif decide ((↑a0.size:Int)<1)then some ((false,()),())
else bif decide ((↑a0.size:Int)>6)then some ((false,()),())else tE a0 a1 a2 0:=(Eq.trans (by kernel_rfl:tW a0 a1 a2=ax K8 (Tryz.f148.body.getD .skip) OI (aU 34 [(cT,Mode.ro),(iw,Mode.ro),(iw,Mode.ro)] (a0,a1,a2,()))) (all_eq Vy _)).trans (by kernel_rfl)
def Fz(a0:ByteArray):Option ((Bool×PUnit)×PUnit):=MK.ao (a0,())
theorem ac1(a0:ByteArray):Fz a0 =
 (tW a0 65 90).bind λy=>some ((y.fst.fst,()),()):=by kernel_rfl
def yL(a0:ByteArray):Option ((Bool×PUnit)×PUnit):=MJ.ao (a0,())
theorem ac0(a0:ByteArray):yL a0 =
 (tW a0 97 122).bind λy=>some ((y.fst.fst,()),()):=by kernel_rfl
def yx(a0:Int):Option ((Bool×PUnit)×PUnit):=Mf.ao (a0,())
theorem acn(a0:Int):yx a0 =
 bif decide (a0 >= -400000000)then some ((decide (a0<=400000000),()),())else some ((false,()),()):=by kernel_rfl
def qW(a0:Int):Option ((Int×PUnit)×PUnit):=Mp.ao (a0,())
theorem Fs(a0:Int):qW a0 =
 bif decide (a0<0)then some ((IntKind.i64.wrap (0 - a0),()),())else some ((a0,()),()):=by kernel_rfl
def K2:Env:=Ed.env C z8.1 Tryz.f150
def OC:=Ed.out C
def xp(x0:Int)(x1:Int):Option ((Int×PUnit)×PUnit):=aL K2 [1,1,0,0] (Tryz.f150.body.getD .skip) OC (V.d none 0 ak x0::V.d none 0 ak x1::dd 14 ([]))
def oI(a0:Int)(a1:Int):Option ((Int×PUnit)×PUnit):=Mt.ao (a0,a1,())
def aiI:List (Nat×List Nat):=[(1000002,[1,1,0,0])]
theorem Vs:okB aiI (Tryz.f150.body.getD .skip) []=true:=by kernel_rfl
theorem aa4(x0:Int)(x1:Int):xp x0 x1 =
 bif x1 != 0 then bif x1 != 0 then xp x1 (x0.tmod x1)else none else some ((x0,()),()):=(aQ Vs [1,1,0,0] (by kernel_rfl) _).trans (by kernel_rfl)
theorem Rz(a0:Int)(a1:Int):oI a0 a1 =
 (qW a0).bind λy=>(qW a1).bind λay=>xp y.fst.fst ay.fst.fst:=(Eq.trans (by kernel_rfl:oI a0 a1=ax K2 (Tryz.f150.body.getD .skip) OC (aU 16 [(ak,Mode.ro),(ak,Mode.ro)] (a0,a1,()))) (all_eq Vs _)).trans (by kernel_rfl)
def K6:Env:=Ei.env C Ac.1 Tryz.f151
def OG:=Ei.out C
def tD(x0:List Int)(x3:Int)(x6:List Int)(x7:Int)(x8:Int):Option ((Int×PUnit)×PUnit):=aL K6 [1,1,0,1,0] (Tryz.f151.body.getD .skip) OG (V.d none 0 a8 x0::dd 2 (V.d none 0 (Ty.int IntKind.i64) x3::dd 2 (V.d none 0 a8 x6::V.d none 0 (Ty.int IntKind.i64) x7::V.d none 0 (Ty.int IntKind.i64) x8::dd 8 ([]))))
def lV(a0:List Int):Option ((Int×PUnit)×PUnit):=MC.ao (a0,())
def aiN:List (Nat×List Nat):=[(1000003,[1,1,0,1,0])]
theorem Vw:okB aiN (Tryz.f151.body.getD .skip) []=true:=by kernel_rfl
theorem xv(x0:List Int)(x3:Int)(x6:List Int)(x7:Int)(x8:Int):tD x0 x3 x6 x7 x8 =
 bif decide (x8<x7)then
 (ab x6 x8).bind λy =>
 (oI x3 y).bind λy=>tD x0 y.fst.fst x6 x7 (IntKind.i64.wrap (x8+1))
else some ((x3,()),()):=(aQ Vw [1,1,0,1,0] (by kernel_rfl) _).trans (by kernel_rfl)
theorem RH(a0:List Int):lV a0 =
 tD a0 0 a0 (↑a0.length:Int) 0:=(Eq.trans (by kernel_rfl:lV a0=ax K6 (Tryz.f151.body.getD .skip) OG (aU 17 [(a8,Mode.ro)] (a0,()))) (all_eq Vw _)).trans (by kernel_rfl)
def KS:Env:=D1.env C Ag.1 Tryz.f129
def Ot:=D1.out C
def qF(x1:aa)(x16:List Int)(cM:Int)(je:Int):Option ((Bool×PUnit)×PUnit):=aL KS [1,1,0,1,0] (Tryz.f129.body.getD .skip) Ot (V.dead::(V.box none 0 aH x1::dd 14 (V.d none 0 a8 x16::V.d none 0 (Ty.int IntKind.i64) cM::V.d none 0 (Ty.int IntKind.i64) je::dd 14 ([]))))
def kc(a0:aa):Option ((Bool×PUnit)×PUnit):=L7.ao (a0,())
def aiw:List (Nat×List Nat):=[(1000004,[1,1,0,1,0])]
theorem Vj:okB aiw (Tryz.f129.body.getD .skip) []=true:=by kernel_rfl
theorem PE(x1:aa)(x16:List Int)(cM:Int)(je:Int):qF x1 x16 cM je =
 bif decide (je<cM)then
 (ab x16 je).bind λy =>
 (yx y).bind λy =>
  bif !y.fst.fst then some ((false,()),())else qF x1 x16 cM (IntKind.i64.wrap (je+1))
else
 (lV x1.fst).bind λy =>
 (oI y.fst.fst x1.snd.fst).bind λy=>some ((decide (y.fst.fst<=1),()),()):=(aQ Vj [1,1,0,1,0] (by kernel_rfl) _).trans (by kernel_rfl)
theorem acf(a0:aa):kc a0 =
 bif decide ((↑(List.length a0.fst):Int)>4)then some ((false,()),())
else
 (yx a0.snd.fst).bind λy =>
 bif !y.fst.fst then some ((false,()),())else qF a0 a0.fst (↑(List.length a0.fst):Int) 0:=(Eq.trans (by kernel_rfl:kc a0=ax KS (Tryz.f129.body.getD .skip) Ot (aU 33 [(aH,Mode.ro)] (a0,()))) (all_eq Vj _)).trans (by kernel_rfl)
def KT:Env:=D2.env C zV.1 Tryz.f99
def Ou:=D2.out C
def tk(x1:Int×List aa)(fz:List aa)(dz:Int)(eT:Int):Option ((Bool×PUnit)×PUnit):=aL KT [1,1,0,1,0] (Tryz.f99.body.getD .skip) Ou (V.dead::(V.box none 0 aA x1::dd 18 (V.d none 0 (Ty.slice 66 aH) fz::V.d none 0 (Ty.int IntKind.i64) dz::V.d none 0 (Ty.int IntKind.i64) eT::dd 15 ([]))))
def kP(a0:Int×List aa):Option ((Bool×PUnit)×PUnit):=Ma.ao (a0,())
def aix:List (Nat×List Nat):=[(1000004,[1,1,0,1,0])]
theorem Vk:okB aix (Tryz.f99.body.getD .skip) []=true:=by kernel_rfl
theorem PF(x1:Int×List aa)(fz:List aa)(dz:Int)(eT:Int):tk x1 fz dz eT =
 bif decide (eT<dz)then
 (ab fz eT).bind λy =>
 (kc y).bind λay =>
  bif !ay.fst.fst then some ((false,()),())
  else
  bif (↑(List.length y.fst):Int) != x1.fst then some ((false,()),())
  else tk x1 fz dz (IntKind.i64.wrap (eT+1))
else some ((true,()),()):=(aQ Vk [1,1,0,1,0] (by kernel_rfl) _).trans (by kernel_rfl)
theorem acg(a0:Int×List aa):kP a0 =
 bif decide (a0.fst<0)then some ((false,()),())
else
 bif decide (a0.fst>4)then some ((false,()),())
 else
 bif decide ((↑(List.length a0.snd):Int)>16)then some ((false,()),())
 else tk a0 a0.snd (↑(List.length a0.snd):Int) 0:=(Eq.trans (by kernel_rfl:kP a0=ax KT (Tryz.f99.body.getD .skip) Ou (aU 38 [(aA,Mode.ro)] (a0,()))) (all_eq Vk _)).trans (by kernel_rfl)
def KW:Env:=D6.env C zW.1 Tryz.f96
def Ox:=D6.out C
def tp(x1:ByteArray×Int×List Rw)(bM:List Rw)(fM:Int)(df:Int):Option ((Bool×PUnit)×PUnit):=aL KW [1,1,0,1,0] (Tryz.f96.body.getD .skip) Ox (V.dead::(V.box none 0 jc x1::dd 24 (V.d none 0 (Ty.slice 105 nB) bM::V.d none 0 (Ty.int IntKind.i64) fM::V.d none 0 (Ty.int IntKind.i64) df::dd 22 ([]))))
def yA(a0:ByteArray×Int×List Rw):Option ((Bool×PUnit)×PUnit):=Mh.ao (a0,())
def aiB:List (Nat×List Nat):=[(1000004,[1,1,0,1,0])]
theorem Vn:okB aiB (Tryz.f96.body.getD .skip) []=true:=by kernel_rfl
theorem PK(x1:ByteArray×Int×List Rw)(bM:List Rw)(fM:Int)(df:Int):tp x1 bM fM df =
 bif decide (df<fM)then
 (ab bM df).bind λy =>
 (yL y.fst).bind λay =>
  bif !ay.fst.fst then some ((false,()),())
  else
  (kP y.snd).bind λbp =>
   bif !bp.fst.fst then some ((false,()),())
   else
   bif y.snd.fst != x1.snd.fst then some ((false,()),())
   else tp x1 bM fM (IntKind.i64.wrap (df+1))
else some ((true,()),()):=(aQ Vn [1,1,0,1,0] (by kernel_rfl) _).trans (by kernel_rfl)
theorem acq(a0:ByteArray×Int×List Rw):yA a0 =
 (Fz a0.fst).bind λy =>
 bif !y.fst.fst then some ((false,()),())
 else
 bif decide (a0.snd.fst<0)then some ((false,()),())
 else
  bif decide (a0.snd.fst>4)then some ((false,()),())
  else
  bif decide ((↑(List.length a0.snd.snd):Int)>8)then some ((false,()),())
  else tp a0 a0.snd.snd (↑(List.length a0.snd.snd):Int) 0:=(Eq.trans (by kernel_rfl:yA a0=ax KW (Tryz.f96.body.getD .skip) Ox (aU 51 [(jc,Mode.ro)] (a0,()))) (all_eq Vn _)).trans (by kernel_rfl)
def KR:Env:=D0.env C zY.1 Tryz.f97
def Oq:=D0.out C
def xj(x0:List Rel)(x1:ByteArray)(x7:List Rel)(x8:Int)(x9:Int):Option ((Int×PUnit)×PUnit):=aL KR [1,0,1,0] (Tryz.f97.body.getD .skip) Oq (V.d none 0 bt x0::V.d none 0 cT x1::dd 5 (V.d none 0 bt x7::V.d none 0 (Ty.int IntKind.i64) x8::V.d none 0 (Ty.int IntKind.i64) x9::dd 10 ([])))
def qU(a0:List Rel)(a1:ByteArray):Option ((Int×PUnit)×PUnit):=L5.ao (a0,a1,())
def aiv:List (Nat×List Nat):=[(1000002,[1,0,1,0])]
theorem Vi:okB aiv (Tryz.f97.body.getD .skip) []=true:=by kernel_rfl
theorem PD(x0:List Rel)(x1:ByteArray)(x7:List Rel)(x8:Int)(x9:Int):xj x0 x1 x7 x8 x9 =
 bif decide (x9<x8)then
 (ab x7 x9).bind λy =>
 bif ByteArray.toList y.fst==x1.toList then some ((x9,()),())
 else xj x0 x1 x7 x8 (IntKind.i64.wrap (x9+1))
else some ((-1,()),()):=(aQ Vi [1,0,1,0] (by kernel_rfl) _).trans (by kernel_rfl)
theorem acb(a0:List Rel)(a1:ByteArray):qU a0 a1 =
 xj a0 a1 a0 (↑a0.length:Int) 0:=(Eq.trans (by kernel_rfl:qU a0 a1=ax KR (Tryz.f97.body.getD .skip) Oq (aU 20 [(bt,Mode.ro),(cT,Mode.ro)] (a0,a1,()))) (all_eq Vi _)).trans (by kernel_rfl)
def KU:Env:=D3.env C zT.1 Tryz.f59
def Ov:=D3.out C
def tl(x0:List Rel)(x8:List Rel)(x9:Int)(aY:Int):Option ((Bool×PUnit)×PUnit):=aL KU [1,1,0,1,0] (Tryz.f59.body.getD .skip) Ov (V.d none 0 bt x0::dd 7 (V.d none 0 bt x8::V.d none 0 (Ty.int IntKind.i64) x9::V.d none 0 (Ty.int IntKind.i64) aY::dd 16 ([])))
def yu(a0:List Rel):Option ((Bool×PUnit)×PUnit):=Mb.ao (a0,())
def aiy:List (Nat×List Nat):=[(1000004,[1,1,0,1,0])]
theorem Vl:okB aiy (Tryz.f59.body.getD .skip) []=true:=by kernel_rfl
theorem PG(x0:List Rel)(x8:List Rel)(x9:Int)(aY:Int):tl x0 x8 x9 aY =
 bif decide (aY<x9)then
 (ab x8 aY).bind λy =>
 (yA y).bind λay =>
  bif !ay.fst.fst then some ((false,()),())
  else
  (qU x0 y.fst).bind λy =>
   bif y.fst.fst != aY then some ((false,()),())else tl x0 x8 x9 (IntKind.i64.wrap (aY+1))
else some ((true,()),()):=(aQ Vl [1,1,0,1,0] (by kernel_rfl) _).trans (by kernel_rfl)
theorem ach(a0:List Rel):yu a0 =
 bif decide ((↑a0.length:Int)>6)then some ((false,()),())else tl a0 a0 (↑a0.length:Int) 0:=(Eq.trans (by kernel_rfl:yu a0=ax KU (Tryz.f59.body.getD .skip) Ov (aU 27 [(bt,Mode.ro)] (a0,()))) (all_eq Vl _)).trans (by kernel_rfl)
def FB(a0:aa):Option ((Bool×PUnit)×PUnit):=MN.ao (a0,())
theorem ac5(a0:aa):FB a0 =
 bif (↑(List.length a0.fst):Int)==0 then
 bif a0.snd.fst==0 then some ((!a0.snd.snd,()),())else some ((false,()),())
else some ((false,()),()):=by kernel_rfl
def tV(a0:Int):Option ((Bool×PUnit)×PUnit):=ML.ao (a0,())
theorem ac3(a0:Int):tV a0 =
 bif decide (a0>=0)then some ((decide (a0<4),()),())else some ((false,()),()):=by kernel_rfl
def qB:Env:=Ek.env C Ah.1 Tryz.f109
def qE:=Ek.out C
def xx(x3:Int×aa×ByteArray×ByteArray×List Int×Int×Int×Int)(wO:List Int)(wP:Int)(tc:Int):Option ((Bool×PUnit)×PUnit):=aL qB [1,1,1,0,1,0,1,1,1,0,1,1,0,1,0] (Tryz.f109.body.getD .skip) qE (dd 3 (V.box none 0 da x3::dd 87 (V.d none 0 a8 wO::V.d none 0 (Ty.int IntKind.i64) wP::V.d none 0 (Ty.int IntKind.i64) tc::dd 16 ([]))))
def xd(x3:Int×aa×ByteArray×ByteArray×List Int×Int×Int×Int):Option ((Bool×PUnit)×PUnit):=gJ qB [1,1,1,0,1,0,1,1,1,0,1,1] (Tryz.f109.body.getD .skip) qE (dd 3 (V.box none 0 da x3::dd 106 ([])))
def Dv(x3:Int×aa×ByteArray×ByteArray×List Int×Int×Int×Int)(Df:Bool):Option ((Bool×PUnit)×PUnit):=gJ qB [1,1,1,0,1,0,1,1,1,1,1] (Tryz.f109.body.getD .skip) qE (dd 3 (V.box none 0 da x3::dd 97 (V.d none 0 Ty.bool Df::dd 8 ([]))))
def xe(x0:List Rel)(x3:Int×aa×ByteArray×ByteArray×List Int×Int×Int×Int):Option ((Bool×PUnit)×PUnit):=gJ qB [1,1,1] (Tryz.f109.body.getD .skip) qE (V.d none 0 bt x0::dd 2 (V.box none 0 da x3::dd 106 ([])))
def Dw(x0:List Rel)(x3:Int×aa×ByteArray×ByteArray×List Int×Int×Int×Int):Option ((Bool×PUnit)×PUnit):=gJ qB [1,1] (Tryz.f109.body.getD .skip) qE (V.d none 0 bt x0::dd 2 (V.box none 0 da x3::dd 106 ([])))
def yJ(a0:List Rel)(a1:Int×aa×ByteArray×ByteArray×List Int×Int×Int×Int):Option ((Bool×PUnit)×PUnit):=MG.ao (a0,a1,())
def aiP:List (Nat×List Nat):=[(2000003,[1,1]),(2000005,[1,1,1]),(2000012,[1,1,1,0,1,0,1,1,1,0,1,1]),(1000013,[1,1,1,0,1,0,1,1,1,0,1,1,0,1,0]),(2000021,[1,1,1,0,1,0,1,1,1,1,1])]
theorem sg:okB aiP (Tryz.f109.body.getD .skip) []=true:=by kernel_rfl
theorem P3(x3:Int×aa×ByteArray×ByteArray×List Int×Int×Int×Int)(wO:List Int)(wP:Int)(tc:Int):xx x3 wO wP tc =
 bif decide (tc<wP)then
 (ab wO tc).bind λy =>
 (tV y).bind λy =>
  bif !y.fst.fst then some ((false,()),())else xx x3 wO wP (IntKind.i64.wrap (tc+1))
else some ((true,()),()):=(aQ sg [1,1,1,0,1,0,1,1,1,0,1,1,0,1,0] (by kernel_rfl) _).trans (by kernel_rfl)
theorem aaR(x3:Int×aa×ByteArray×ByteArray×List Int×Int×Int×Int):xd x3 =
 xx x3 x3.snd.snd.snd.snd.fst (↑(List.length x3.snd.snd.snd.snd.fst):Int) 0:=(join_eq sg [1,1,1,0,1,0,1,1,1,0,1,1] _).trans (by kernel_rfl)
theorem Oo(x3:Int×aa×ByteArray×ByteArray×List Int×Int×Int×Int)(Df:Bool):Dv x3 Df =
 bif Df then (tV x3.snd.snd.snd.snd.snd.fst).bind λy=>some ((y.fst.fst,()),())
else some ((x3.snd.snd.snd.snd.snd.fst==0,()),()):=(join_eq sg [1,1,1,0,1,0,1,1,1,1,1] _).trans (by kernel_rfl)
theorem aaU(x0:List Rel)(x3:Int×aa×ByteArray×ByteArray×List Int×Int×Int×Int):xe x0 x3 =
 bif x3.fst==0 then
 bif x3.snd.snd.snd.snd.snd.fst==0 then
 (kc x3.snd.fst).bind λy =>
  bif y.fst.fst then some (((↑(List.length x3.snd.fst.fst):Int)==4,()),())else some ((false,()),())
 else some ((false,()),())
else
 bif x3.fst==1 then
 (qU x0 x3.snd.snd.fst).bind λy =>
  bif x3.snd.snd.snd.snd.snd.fst != 0 then some ((false,()),())
  else
  bif decide (y.fst.fst<0)then some ((false,()),())
  else
   (ab x0 y.fst.fst).bind λy =>
   bif y.snd.fst != (↑(List.length x3.snd.snd.snd.snd.fst):Int)then some ((false,()),())
   else
    bif !ByteArray.toList x3.snd.snd.snd.fst==(ByteArray.mk #[]).toList then
    (yL x3.snd.snd.snd.fst).bind λy=>bif !y.fst.fst then some ((false,()),())else xd x3
    else xd x3
 else bif x3.fst==5 then Dv x3 true else Dv x3 (x3.fst==6):=(join_eq sg [1,1,1] _).trans (by kernel_rfl)
theorem aaT(x0:List Rel)(x3:Int×aa×ByteArray×ByteArray×List Int×Int×Int×Int):Dw x0 x3 =
 bif x3.fst != 1 then
 bif !ByteArray.toList x3.snd.snd.fst==(ByteArray.mk #[]).toList then some ((false,()),())
 else
 bif !ByteArray.toList x3.snd.snd.snd.fst==(ByteArray.mk #[]).toList then some ((false,()),())
 else
  bif decide ((↑(List.length x3.snd.snd.snd.snd.fst):Int)>0)then some ((false,()),())else xe x0 x3
else xe x0 x3:=(join_eq sg [1,1] _).trans (by kernel_rfl)
theorem acV(a0:List Rel)(a1:Int×aa×ByteArray×ByteArray×List Int×Int×Int×Int):yJ a0 a1 =
 bif a1.fst != 0 then
 (FB a1.snd.fst).bind λy=>bif !y.fst.fst then some ((false,()),())else Dw a0 a1
else Dw a0 a1:=(Eq.trans (by kernel_rfl:yJ a0 a1=ax qB (Tryz.f109.body.getD .skip) qE (aU 110 [(bt,Mode.ro),(da,Mode.ro)] (a0,a1,()))) (all_eq sg _)).trans (by kernel_rfl)
def FD(a0:Int):Option ((Int×PUnit)×PUnit):=MS.ao (a0,())
theorem ade(a0:Int):FD a0 =
 bif a0==0 then some ((0,()),())
else
 bif a0==1 then some ((0,()),())
 else
 bif a0==2 then some ((1,()),())
 else
  bif a0==5 then some ((1,()),())
  else
  bif a0==6 then some ((1,()),())
  else bif a0==3 then some ((2,()),())else bif a0==4 then some ((2,()),())else some ((-1,()),()):=by kernel_rfl
def Dj:Env:=D4.env C Al.1 Tryz.f77
def Dz:=D4.out C
def xc(x0:List Rel)(x1:List av)(x5:List Int)(fL:List av)(de:Int)(bM:Int):Option ((Bool×PUnit)×PUnit):=gJ Dj [1,1,1,0,1,0,0,1,1,1] (Tryz.f77.body.getD .skip) Dz (V.d none 0 bt x0::V.d none 0 cn x1::dd 3 (V.d none (ak.depth+1) (Ty.slice 3 ak) x5::dd 18 (V.d none 0 cn fL::V.d none 0 (Ty.int IntKind.i64) de::V.d none 0 (Ty.int IntKind.i64) bM::dd 95 ([]))))
def tn(x0:List Rel)(x1:List av)(x5:List Int)(fL:List av)(de:Int)(bM:Int):Option ((Bool×PUnit)×PUnit):=aL Dj [1,1,1,0,1,0] (Tryz.f77.body.getD .skip) Dz (V.d none 0 bt x0::V.d none 0 cn x1::dd 3 (V.d none (ak.depth+1) (Ty.slice 3 ak) x5::dd 18 (V.d none 0 cn fL::V.d none 0 (Ty.int IntKind.i64) de::V.d none 0 (Ty.int IntKind.i64) bM::dd 95 ([]))))
def yw(a0:List Rel)(a1:List av):Option ((Bool×PUnit)×PUnit):=Me.ao (a0,a1,())
def aiz:List (Nat×List Nat):=[(1000005,[1,1,1,0,1,0]),(2000023,[1,1,1,0,1,0,0,1,1,1])]
theorem I1:okB aiz (Tryz.f77.body.getD .skip) []=true:=by kernel_rfl
theorem aaQ(x0:List Rel)(x1:List av)(x5:List Int)(fL:List av)(de:Int)(bM:Int):xc x0 x1 x5 fL de bM =
 tn x0 x1 x5 fL de (IntKind.i64.wrap (bM+1)):=(join_eq I1 [1,1,1,0,1,0,0,1,1,1] _).trans (by kernel_rfl)
theorem PH(x0:List Rel)(x1:List av)(x5:List Int)(fL:List av)(de:Int)(bM:Int):tn x0 x1 x5 fL de bM =
 bif decide (bM<de)then
 (ab fL bM).bind λy =>
 (yJ x0 y).bind λay =>
  bif !ay.fst.fst then some ((false,()),())
  else
  (FD y.fst).bind λbp =>
   bif bp.fst.fst==0 then
   bif y.snd.snd.snd.snd.snd.snd.fst != 0 then some ((false,()),())
   else
    bif y.snd.snd.snd.snd.snd.snd.snd != 0 then some ((false,()),())
    else
    (ab x5 bM).bind λy =>
     (ab x5 bM).bind λy =>
     (ab x5 bM).bind λy=>(some (x5.set bM.toNat bM)).bind λy=>xc x0 x1 y fL de bM
   else
   bif bp.fst.fst==1 then
    bif bM==0 then some ((false,()),())
    else
    bif y.snd.snd.snd.snd.snd.snd.fst != IntKind.i64.wrap (bM - 1)then some ((false,()),())
    else
     bif y.snd.snd.snd.snd.snd.snd.snd != 0 then some ((false,()),())
     else
     (ab x5 (IntKind.i64.wrap (bM - 1))).bind λy =>
      (ab x5 (IntKind.i64.wrap (bM - 1))).bind λy =>
      (ab x5 bM).bind λbS =>
       (ab x5 bM).bind λcU =>
       (ab x5 bM).bind λeV =>
        (some (x5.set bM.toNat y)).bind λy=>xc x0 x1 y fL de bM
   else
    bif bp.fst.fst==2 then
    bif bM==0 then some ((false,()),())
    else
     bif y.snd.snd.snd.snd.snd.snd.snd != IntKind.i64.wrap (bM - 1)then some ((false,()),())
     else
     (ab x5 (IntKind.i64.wrap (bM - 1))).bind λbS =>
      (ab x5 (IntKind.i64.wrap (bM - 1))).bind λcU =>
      bif cU==0 then some ((false,()),())
      else
       (ab x5 (IntKind.i64.wrap (bM - 1))).bind λeV =>
       (ab x5 (IntKind.i64.wrap (bM - 1))).bind λfN =>
        bif y.snd.snd.snd.snd.snd.snd.fst != IntKind.i64.wrap (fN - 1)then some ((false,()),())
        else
        (ab x5 y.snd.snd.snd.snd.snd.snd.fst).bind λnE =>
         (ab x5 y.snd.snd.snd.snd.snd.snd.fst).bind λy =>
         (ab x5 bM).bind λjh =>
          (ab x5 bM).bind λji =>
          (ab x5 bM).bind λjg =>
           (some (x5.set bM.toNat y)).bind λy=>xc x0 x1 y fL de bM
    else some ((false,()),())
else
 (ab x5 (IntKind.i64.wrap ((↑x1.length:Int) - 1))).bind λy =>
 (ab x5 (IntKind.i64.wrap ((↑x1.length:Int) - 1))).bind λy=>some ((y==0,()),()):=(aQ I1 [1,1,1,0,1,0] (by kernel_rfl) _).trans (by kernel_rfl)
theorem ack(a0:List Rel)(a1:List av):yw a0 a1 =
 (yu a0).bind λy =>
 bif !y.fst.fst then some ((false,()),())
 else
 bif decide ((↑a1.length:Int)<1)then some ((false,()),())
 else
  bif decide ((↑a1.length:Int)>12)then some ((false,()),())
  else
  bif
   decide (0<=(↑a1.length:Int))&&decide ((↑a1.length:Int)<=(↑a1.length:Int)) &&
    decide ((↑a1.length:Int)*(↑8:Int)<=140737488355328) &&
    decide ((↑a1.length:Int)<=9223372036854775807)then
   tn a0 a1 (List.replicate a1.length (0:Int)) a1 (↑a1.length:Int) 0
  else none:=(Eq.trans (by kernel_rfl:yw a0 a1=ax Dj (Tryz.f77.body.getD .skip) Dz (aU 122 [(bt,Mode.ro),(cn,Mode.ro)] (a0,a1,()))) (all_eq I1 _)).trans (by kernel_rfl)
def KV:Env:=D5.env C zX.1 Tryz.f35
def Ow:=D5.out C
def xk(x1:List av)(bU:List av)(fy:Int)(fh:Int):Option ((Bool×PUnit)×PUnit):=aL KV [1,1,0,1,0] (Tryz.f35.body.getD .skip) Ow (V.dead::(V.d none 0 cn x1::dd 9 (V.d none 0 cn bU::V.d none 0 (Ty.int IntKind.i64) fy::V.d none 0 (Ty.int IntKind.i64) fh::dd 12 ([]))))
def yy(a0:List Rel)(a1:List av):Option ((Bool×PUnit)×PUnit):=Mg.ao (a0,a1,())
def aiA:List (Nat×List Nat):=[(1000004,[1,1,0,1,0])]
theorem Vm:okB aiA (Tryz.f35.body.getD .skip) []=true:=by kernel_rfl
theorem PJ(x1:List av)(bU:List av)(fy:Int)(fh:Int):xk x1 bU fy fh =
 bif decide (fh<fy)then
 (ab bU fh).bind λy =>
 bif y.fst==2 then some ((false,()),())
 else bif y.fst==6 then some ((false,()),())else xk x1 bU fy (IntKind.i64.wrap (fh+1))
else some ((true,()),()):=(aQ Vm [1,1,0,1,0] (by kernel_rfl) _).trans (by kernel_rfl)
theorem aco(a0:List Rel)(a1:List av):yy a0 a1 =
 (yw a0 a1).bind λy =>
 bif !y.fst.fst then some ((false,()),())else xk a1 a1 (↑a1.length:Int) 0:=(Eq.trans (by kernel_rfl:yy a0 a1=ax KV (Tryz.f35.body.getD .skip) Ow (aU 26 [(bt,Mode.ro),(cn,Mode.ro)] (a0,a1,()))) (all_eq Vm _)).trans (by kernel_rfl)
def yH(a0:List Int):Option ((List Int×PUnit)×PUnit):=Mx.ao (a0,())
theorem RD(a0:List Int):yH a0 =
 bif decide ((0+a0.length)*8<=140737488355328)then some ((a0,()),())else none:=by kernel_rfl
def tS(a0:aa):Option ((aa×PUnit)×PUnit):=Mv.ao (a0,())
theorem acL(a0:aa):tS a0 =
 (yH a0.fst).bind λy=>some (((y.fst.fst,a0.snd.fst,a0.snd.snd),()),()):=by kernel_rfl
def yK(a0:aa):Option ((Bool×PUnit)×PUnit):=MH.ao (a0,())
theorem acX(a0:aa):yK a0 =
 (lV a0.fst).bind λy=>some ((y.fst.fst != 0,()),()):=by kernel_rfl
def tU(a0:Int):Option ((aB×PUnit)×PUnit):=ME.ao (a0,())
theorem acU(a0:Int):tU a0 =
 bif
 decide (0<=a0)&&decide (a0<=a0)&&decide (a0*(↑8:Int)<=140737488355328) &&
  decide (a0<=9223372036854775807)then
 some (((a0,[(List.replicate a0.toNat (0:Int),1,false)]),()),())
else none:=by kernel_rfl
def qY(a0:aa):Option ((Int×PUnit)×PUnit):=MB.ao (a0,())
theorem acR(a0:aa):qY a0 =
 (lV a0.fst).bind λy=>bif y.fst.fst==0 then some ((1,()),())else some ((y.fst.fst,()),()):=by kernel_rfl
def yO(a0:Int)(a1:Int):Option ((Int×PUnit)×PUnit):=MV.ao (a0,a1,())
theorem adi(a0:Int)(a1:Int):yO a0 a1 =
 bif decide (a0<a1)then some ((-1,()),())else bif decide (a0>a1)then some ((1,()),())else some ((0,()),()):=by kernel_rfl
def K3:Env:=Ee.env C Ao.1 Tryz.f169
def OD:=Ee.out C
def xq(x2:aa)(x3:aa)(x5:Int)(x6:Int)(x15:Int)(x16:Int):Option ((Int×PUnit)×PUnit):=aL K3 [1,1,0,1,0] (Tryz.f169.body.getD .skip) OD (dd 2 (V.box none 0 aH x2::V.box none 0 aH x3::V.dead::(V.d none 0 ak x5::V.d none 0 ak x6::dd 8 (V.d none 0 (Ty.int IntKind.i64) x15::V.d none 0 (Ty.int IntKind.i64) x16::dd 21 ([])))))
def tR(a0:aa)(a1:aa):Option ((Int×PUnit)×PUnit):=Mu.ao (a0,a1,())
def aiJ:List (Nat×List Nat):=[(1000003,[1,1,0,1,0])]
theorem Vt:okB aiJ (Tryz.f169.body.getD .skip) []=true:=by kernel_rfl
theorem PW(x2:aa)(x3:aa)(x5:Int)(x6:Int)(x15:Int)(x16:Int):xq x2 x3 x5 x6 x15 x16 =
 bif decide (x16<x15)then
 (ab x2.fst x16).bind λy =>
 bif x5 != 0 then
  (ab x3.fst x16).bind λay =>
  bif x6 != 0 then
   (yO (IntKind.i64.wrap (y.tdiv x5)) (IntKind.i64.wrap (ay.tdiv x6))).bind λy =>
   bif y.fst.fst != 0 then some ((y.fst.fst,()),())
   else xq x2 x3 x5 x6 x15 (IntKind.i64.wrap (x16+1))
  else none
 else none
else some ((0,()),()):=(aQ Vt [1,1,0,1,0] (by kernel_rfl) _).trans (by kernel_rfl)
theorem acK(a0:aa)(a1:aa):tR a0 a1 =
 (qY a0).bind λy =>
 (qY a1).bind λay =>
 xq a0 a1 y.fst.fst ay.fst.fst (↑(List.length a0.fst):Int) 0:=(Eq.trans (by kernel_rfl:tR a0 a1=ax K3 (Tryz.f169.body.getD .skip) OD (aU 38 [(aH,Mode.ro),(aH,Mode.ro)] (a0,a1,()))) (all_eq Vt _)).trans (by kernel_rfl)
def Rq(a0:aa)(a1:aa):Option ((Int×PUnit)×PUnit):=w6.ao (a0,a1,())
theorem ab8(a0:aa)(a1:aa):Rq a0 a1 =
 (kc a0).bind λy =>
 bif !y.fst.fst then some ((2,()),())
 else
 (kc a1).bind λy =>
  bif !y.fst.fst then some ((2,()),())
  else
  bif (↑(List.length a0.fst):Int) != (↑(List.length a1.fst):Int)then some ((2,()),())
  else
   (tR a0 a1).bind λy =>
   bif y.fst.fst != 0 then some ((y.fst.fst,()),())
   else
    (qY a1).bind λy =>
    (qY a0).bind λay =>
     (yO (IntKind.i64.wrap (a0.snd.fst*y.fst.fst)) (IntKind.i64.wrap (a1.snd.fst*ay.fst.fst))).bind
     λy =>
     bif y.fst.fst != 0 then some ((y.fst.fst,()),())
     else
      bif a0.snd.snd==a1.snd.snd then some ((0,()),())
      else bif a0.snd.snd then some ((1,()),())else some ((-1,()),()):=by kernel_rfl
def R4(x0:(List ((List Int)×(Int×Bool))))(x1:Value):Option (Unit×(List ((List Int)×(Int×Bool)))×Unit):=Dt.ao (x0,(x1,()))
def Dn:Env:=En.env C AU.1 Tryz.f161
def DF:=En.out C
def qI(x4:Int×List aa)(x5:Int×List aa)(x8:Int×List aa)(qt:Int)(eU:Int):Option ((aB×PUnit)×PUnit):=aL Dn [1,1,1,1,1,0,1,0] (Tryz.f161.body.getD .skip) DF (dd 4 (V.box none aA.depth aA x4::V.bN 0 1 ((Ty.int IntKind.i64).pair (Ty.slice 66 (a8.pair (ak.pair aN)).agg)) x5::dd 2 (V.box none aA.depth aA x8::dd 37 (V.same 5 (Ty.slice 66 (a8.pair (ak.pair aN)).agg)::V.d none 0 (Ty.int IntKind.i64) qt::V.d none 0 (Ty.int IntKind.i64) eU::dd 27 ([])))))
def qJ(x0:Int)(x1:List aa)(x4:Int×List aa)(x5:List aa)(fy:List aa)(fh:Int)(x14:Int):Option ((aB×PUnit)×PUnit):=aL Dn [1,1,0,1,0] (Tryz.f161.body.getD .skip) DF (V.d none 0 ak x0::V.d none 0 cS x1::dd 2 (V.box none aA.depth aA x4::V.d none (aH.depth+1) (Ty.slice 66 aH) x5::dd 6 (V.d none 0 cS fy::V.d none 0 (Ty.int IntKind.i64) fh::V.d none 0 (Ty.int IntKind.i64) x14::dd 61 ([]))))
def oK(a0:Int)(a1:List aa):Option ((aB×PUnit)×PUnit):=MR.ao (a0,a1,())
def aiS:List (Nat×List Nat):=[(1000003,[1,1,0,1,0]),(1000013,[1,1,1,1,1,0,1,0])]
theorem I5:okB aiS (Tryz.f161.body.getD .skip) []=true:=by kernel_rfl
theorem P6(x4:Int×List aa)(x5:Int×List aa)(x8:Int×List aa)(qt:Int)(eU:Int):qI x4 x5 x8 qt eU =
 bif decide (eU<qt)then
 (ab x5.snd eU).bind λy =>
 bif V.dead.idle&&decide (x5.fst<=eU)then
  (ab x5.snd eU).bind λy =>
  bif decide (IntKind.i64.wrap (eU+1)<(↑(List.length x5.snd):Int))then
   (ab x5.snd (IntKind.i64.wrap (eU+1))).bind λay =>
   bif decide (eU+1<=IntKind.i64.wrap (eU+1))then
    (ab x5.snd (IntKind.i64.wrap (eU+1))).bind λbp =>
    bif decide (eU+1<=IntKind.i64.wrap (eU+1))then
     (ab x5.snd (IntKind.i64.wrap (eU+1))).bind λbS =>
     (tR y bS).bind λcU =>
      bif cU.fst.fst==0 then qI x4 (eU+1,x5.snd) x8 qt (IntKind.i64.wrap (eU+1))
      else
      bif decide ((List.length x8.snd+1)*40<=140737488355328)then
       qI x4 (eU+1,x5.snd) (x8.fst,x8.snd++[y]) qt (IntKind.i64.wrap (eU+1))
      else none
    else none
   else none
  else
   bif decide ((List.length x8.snd+1)*40<=140737488355328)then
   qI x4 (eU+1,x5.snd) (x8.fst,x8.snd++[y]) qt (IntKind.i64.wrap (eU+1))
   else none
 else none
else some ((x8,()),()):=(aQ I5 [1,1,1,1,1,0,1,0] (by kernel_rfl) _).trans (by kernel_rfl)
theorem P8(x0:Int)(x1:List aa)(x4:Int×List aa)(x5:List aa)(fy:List aa)(fh:Int)(x14:Int):qJ x0 x1 x4 x5 fy fh x14 =
 bif decide (x14<fh)then
 (ab fy x14).bind λy =>
 (yK y).bind λay =>
  bif !ay.fst.fst then
  bif decide (y.snd.fst>0)then (tU x0).bind λy=>some ((y.fst.fst,()),())
  else
   bif y.snd.fst==0 then
   bif y.snd.snd then (tU x0).bind λy=>some ((y.fst.fst,()),())
   else qJ x0 x1 x4 x5 fy fh (IntKind.i64.wrap (x14+1))
   else qJ x0 x1 x4 x5 fy fh (IntKind.i64.wrap (x14+1))
  else
  (tS y).bind λy =>
   bif decide ((x5.length+1)*40<=140737488355328)then
   qJ x0 x1 x4 (x5++[y.fst.fst]) fy fh (IntKind.i64.wrap (x14+1))
   else none
else
 Option.bind
 (Go.Proofs.YthfgcmoipebheaaGreat.P.It.R4 x5
  (Value.func (Fn.func 168) #[] #[]))
 λy=>qI x4 (0,y.snd.fst) (x0,[]) (↑(List.length y.snd.fst):Int) 0:=(aQ I5 [1,1,0,1,0] (by kernel_rfl) _).trans (by kernel_rfl)
theorem ada(a0:Int)(a1:List aa):oK a0 a1 =
 qJ a0 a1 (0,[]) [] a1 (↑a1.length:Int) 0:=(Eq.trans (by kernel_rfl:oK a0 a1=ax Dn (Tryz.f161.body.getD .skip) DF (aU 76 [(ak,Mode.ro),(cS,Mode.ro)] (a0,a1,()))) (all_eq I5 _)).trans (by kernel_rfl)
def Rv(a0:Int×List aa):Option ((aB×Bool×PUnit)×PUnit):=Mm.ao (a0,())
theorem acA(a0:Int×List aa):Rv a0 =
 (kP a0).bind λy =>
 bif !y.fst.fst then some (((0,[]),false,()),())
 else (oK a0.fst a0.snd).bind λy=>some ((y.fst.fst,true,()),()):=by kernel_rfl
def K9:Env:=Em.env C zZ.1 Tryz.f141
def OJ:=Em.out C
def qH(x0:List Int)(x6:aa)(x8:Int)(x9:aa)(bM:List Int)(fM:Int)(df:Int):Option ((aa×Bool×PUnit)×PUnit):=aL K9 [1,1,1,1,0,1,0] (Tryz.f141.body.getD .skip) OJ (V.d none 0 a8 x0::dd 5 (V.box none aH.depth aH x6::V.dead::(V.d none 0 (Ty.int IntKind.i64) x8::V.box none aH.depth aH x9::dd 16 (V.d none 0 a8 bM::V.d none 0 (Ty.int IntKind.i64) fM::V.d none 0 (Ty.int IntKind.i64) df::dd 17 ([])))))
def lW(a0:List Int)(a1:Int)(a2:Bool):Option ((aa×Bool×PUnit)×PUnit):=MP.ao (a0,a1,a2,())
def aiR:List (Nat×List Nat):=[(1000006,[1,1,1,1,0,1,0])]
theorem Vz:okB aiR (Tryz.f141.body.getD .skip) []=true:=by kernel_rfl
theorem P5(x0:List Int)(x6:aa)(x8:Int)(x9:aa)(bM:List Int)(fM:Int)(df:Int):qH x0 x6 x8 x9 bM fM df =
 bif decide (df<fM)then
 (ab bM df).bind λy =>
 bif x8 != 0 then
  (ab x9.fst df).bind λay =>
  (ab x9.fst df).bind λbp =>
   (ab x9.fst df).bind λbS =>
   (some (List.set x9.fst df.toNat (IntKind.i64.wrap (y.tdiv x8)))).bind λy =>
    qH x0 x6 x8 (y,x9.snd) bM fM (IntKind.i64.wrap (df+1))
 else none
else
 (kc x9).bind λy=>bif !y.fst.fst then some ((([],0,false),false,()),())else some ((x9,true,()),()):=(aQ Vz [1,1,1,1,0,1,0] (by kernel_rfl) _).trans (by kernel_rfl)
theorem ac8(a0:List Int)(a1:Int)(a2:Bool):lW a0 a1 a2 =
 (lV a0).bind λy =>
 (oI y.fst.fst a1).bind λy =>
 bif y.fst.fst==0 then
  bif
   decide (0<=(↑a0.length:Int))&&decide ((↑a0.length:Int)<=(↑a0.length:Int)) &&
    decide ((↑a0.length:Int)*(↑8:Int)<=140737488355328) &&
   decide ((↑a0.length:Int)<=9223372036854775807)then
  qH a0 ([],0,false) 1 (List.replicate a0.length (0:Int),IntKind.i64.wrap (a1.tdiv 1),a2) a0 (↑a0.length:Int)
   0
  else none
 else
  bif
   decide (0<=(↑a0.length:Int))&&decide ((↑a0.length:Int)<=(↑a0.length:Int)) &&
    decide ((↑a0.length:Int)*(↑8:Int)<=140737488355328) &&
   decide ((↑a0.length:Int)<=9223372036854775807)then
  bif y.fst.fst != 0 then
   qH a0 ([],0,false) y.fst.fst (List.replicate a0.length (0:Int),IntKind.i64.wrap (a1.tdiv y.fst.fst),a2) a0
   (↑a0.length:Int) 0
  else none
  else none:=(Eq.trans (by kernel_rfl:lW a0 a1 a2=ax K9 (Tryz.f141.body.getD .skip) OJ (aU 46 [(a8,Mode.ro),(ak,Mode.ro),(aN,Mode.ro)] (a0,a1,a2,()))) (all_eq Vz _)).trans (by kernel_rfl)
def KY:Env:=D8.env C Aj.1 Tryz.f144
def Oz:=D8.out C
def tr(x1:Int)(x3:Int)(x4:aa)(x6:aa)(x8:aa)(aY:List Int)(fA:Int)(dF:Int):Option ((aa×Bool×PUnit)×PUnit):=aL KY [1,1,1,1,0,1,0] (Tryz.f144.body.getD .skip) Oz (V.dead::(V.d none 0 ak x1::V.dead::(V.d none 0 ak x3::V.box none 0 aH x4::V.dead::(V.box none 0 aH x6::V.dead::(V.box none aH.depth aH x8::V.dead::(V.d none (ak.depth+1) (Ty.slice 3 ak) aY::dd 39 (V.d none 0 (Ty.int IntKind.i64) fA::V.d none 0 (Ty.int IntKind.i64) dF::dd 48 ([]))))))))
def yD(a0:aa)(a1:Int)(a2:aa)(a3:Int):Option ((aa×Bool×PUnit)×PUnit):=Mk.ao (a0,a1,a2,a3,())
def aiD:List (Nat×List Nat):=[(1000007,[1,1,1,1,0,1,0])]
theorem Vp:okB aiD (Tryz.f144.body.getD .skip) []=true:=by kernel_rfl
theorem PM(x1:Int)(x3:Int)(x4:aa)(x6:aa)(x8:aa)(aY:List Int)(fA:Int)(dF:Int):tr x1 x3 x4 x6 x8 aY fA dF =
 bif decide (dF<fA)then
 (ab x4.fst dF).bind λy =>
 (ab x6.fst dF).bind λay =>
  (ab aY dF).bind λbp =>
  (ab aY dF).bind λbS =>
   (ab aY dF).bind λcU =>
   (some (aY.set dF.toNat (IntKind.i64.wrap (IntKind.i64.wrap (x1*y)+IntKind.i64.wrap (x3*ay))))).bind
    λy=>tr x1 x3 x4 x6 x8 y fA (IntKind.i64.wrap (dF+1))
else
 bif x4.snd.snd then
 bif x1 != 0 then
  (lW aY (IntKind.i64.wrap (IntKind.i64.wrap (x1*x4.snd.fst)+IntKind.i64.wrap (x3*x6.snd.fst)))
   true).bind
  λy=>some ((y.fst.fst,y.fst.snd.fst,()),())
 else
  bif x6.snd.snd then
  (lW aY (IntKind.i64.wrap (IntKind.i64.wrap (x1*x4.snd.fst)+IntKind.i64.wrap (x3*x6.snd.fst)))
    (x3 != 0)).bind
   λy=>some ((y.fst.fst,y.fst.snd.fst,()),())
  else
  (lW aY (IntKind.i64.wrap (IntKind.i64.wrap (x1*x4.snd.fst)+IntKind.i64.wrap (x3*x6.snd.fst)))
    false).bind
   λy=>some ((y.fst.fst,y.fst.snd.fst,()),())
 else
 bif x6.snd.snd then
  (lW aY (IntKind.i64.wrap (IntKind.i64.wrap (x1*x4.snd.fst)+IntKind.i64.wrap (x3*x6.snd.fst)))
   (x3 != 0)).bind
  λy=>some ((y.fst.fst,y.fst.snd.fst,()),())
 else
  (lW aY (IntKind.i64.wrap (IntKind.i64.wrap (x1*x4.snd.fst)+IntKind.i64.wrap (x3*x6.snd.fst)))
   false).bind
  λy=>some ((y.fst.fst,y.fst.snd.fst,()),()):=(aQ Vp [1,1,1,1,0,1,0] (by kernel_rfl) _).trans (by kernel_rfl)
theorem acw(a0:aa)(a1:Int)(a2:aa)(a3:Int):yD a0 a1 a2 a3 =
 (kc a0).bind λy =>
 bif !y.fst.fst then some ((([],0,false),false,()),())
 else
 (kc a2).bind λy =>
  bif !y.fst.fst then some ((([],0,false),false,()),())
  else
  bif (↑(List.length a0.fst):Int) != (↑(List.length a2.fst):Int)then some ((([],0,false),false,()),())
  else
   bif decide (a1<0)then some ((([],0,false),false,()),())
   else
   bif decide (a1>400000000)then some ((([],0,false),false,()),())
   else
    bif decide (a3<0)then some ((([],0,false),false,()),())
    else
    bif decide (a3>400000000)then some ((([],0,false),false,()),())
    else
     bif
      decide (0<=(↑(List.length a0.fst):Int)) &&
       decide ((↑(List.length a0.fst):Int)<=(↑(List.length a0.fst):Int)) &&
       decide ((↑(List.length a0.fst):Int)*(↑8:Int)<=140737488355328) &&
      decide ((↑(List.length a0.fst):Int)<=9223372036854775807)then
     tr a1 a3 a0 a2 ([],0,false) (List.replicate (List.length a0.fst) (0:Int))
      (↑(List.replicate (List.length a0.fst) (0:Int)).length:Int) 0
     else none:=(Eq.trans (by kernel_rfl:yD a0 a1 a2 a3=ax KY (Tryz.f144.body.getD .skip) Oz (aU 100 [(aH,Mode.ro),(ak,Mode.ro),(aH,Mode.ro),(ak,Mode.ro)] (a0,a1,a2,a3,()))) (all_eq Vp _)).trans (by kernel_rfl)
def yM(a0:Int)(a1:List aa):Option ((aB×Bool×PUnit)×PUnit):=MO.ao (a0,a1,())
theorem ac7(a0:Int)(a1:List aa):yM a0 a1 =
 (oK a0 a1).bind λy =>
 bif decide ((↑(List.length y.fst.fst.snd):Int)>16)then some (((0,[]),false,()),())
 else some ((y.fst.fst,true,()),()):=by kernel_rfl
def wW:Env:=DZ.env C Ai.1 Tryz.f116
def xf:=DZ.out C
def ti(x1:Int)(x2:Int×List aa)(x4:Int×List aa)(x6:List aa)(aY:aa)(jf:List aa)(fA:Int)(dF:Int)(sZ:List aa)(s9:Int)(qu:Int):Option ((aB×Bool×PUnit)×PUnit):=aL wW [1,1,1,1,0,1,0,0,1,1,0,0,1,1,1,0] (Tryz.f116.body.getD .skip) xf (V.dead::(V.d none 0 ak x1::V.box none 0 aA x2::V.dead::(V.box none aA.depth aA x4::V.dead::(V.d none 1 (Ty.slice 66 aH) x6::dd 3 (V.box none 0 aH aY::dd 38 (V.d none 0 (Ty.slice 66 aH) jf::V.d none 0 (Ty.int IntKind.i64) fA::V.d none 0 (Ty.int IntKind.i64) dF::dd 10 (V.d none 0 (Ty.slice 66 aH) sZ::V.d none 0 (Ty.int IntKind.i64) s9::V.d none 0 (Ty.int IntKind.i64) qu::dd 41 ([]))))))))
def oC(x1:Int)(x2:Int×List aa)(x4:Int×List aa)(x6:List aa)(jf:List aa)(fA:Int)(dF:Int):Option ((aB×Bool×PUnit)×PUnit):=aL wW [1,1,1,1,0,1,0] (Tryz.f116.body.getD .skip) xf (V.dead::(V.d none 0 ak x1::V.box none 0 aA x2::V.dead::(V.box none aA.depth aA x4::V.dead::(V.d none 1 (Ty.slice 66 aH) x6::dd 42 (V.d none 0 (Ty.slice 66 aH) jf::V.d none 0 (Ty.int IntKind.i64) fA::V.d none 0 (Ty.int IntKind.i64) dF::dd 54 ([]))))))
def tj(x1:Int)(x2:Int×List aa)(x4:Int×List aa)(x6:List aa)(sX:List aa)(sY:Int)(qq:Int):Option ((aB×Bool×PUnit)×PUnit):=aL wW [1,1,1,0,1,0] (Tryz.f116.body.getD .skip) xf (V.dead::(V.d none 0 ak x1::V.box none 0 aA x2::V.dead::(V.box none aA.depth aA x4::V.dead::(V.d none 1 (Ty.slice 66 aH) x6::dd 24 (V.d none 0 (Ty.slice 66 aH) sX::V.d none 0 (Ty.int IntKind.i64) sY::V.d none 0 (Ty.int IntKind.i64) qq::dd 72 ([]))))))
def tP(a0:Int×List aa)(a1:Int):Option ((aB×Bool×PUnit)×PUnit):=L4.ao (a0,a1,())
def aiu:List (Nat×List Nat):=[(1000005,[1,1,1,0,1,0]),(1000011,[1,1,1,1,0,1,0]),(1000015,[1,1,1,1,0,1,0,0,1,1,0,0,1,1,1,0])]
theorem Ch:okB aiu (Tryz.f116.body.getD .skip) []=true:=by kernel_rfl
theorem PA(x1:Int)(x2:Int×List aa)(x4:Int×List aa)(x6:List aa)(aY:aa)(jf:List aa)(fA:Int)(dF:Int)(sZ:List aa)(s9:Int)(qu:Int):ti x1 x2 x4 x6 aY jf fA dF sZ s9 qu =
 bif decide (qu<s9)then
 (ab sZ qu).bind λy =>
 (ab y.fst x1).bind λay =>
  bif decide (ay>=0)then ti x1 x2 x4 x6 aY jf fA dF sZ s9 (IntKind.i64.wrap (qu+1))
  else
  (ab y.fst x1).bind λbp =>
   (ab aY.fst x1).bind λbS =>
   (yD aY (IntKind.i64.wrap (0 - bp)) y bS).bind λy =>
    bif !y.fst.snd.fst then some (((0,[]),false,()),())
    else
    bif decide ((x6.length+1)*40<=140737488355328)then
     ti x1 x2 x4 (x6++[y.fst.fst]) aY jf fA dF sZ s9 (IntKind.i64.wrap (qu+1))
    else none
else oC x1 x2 x4 x6 jf fA (IntKind.i64.wrap (dF+1)):=(aQ Ch [1,1,1,1,0,1,0,0,1,1,0,0,1,1,1,0] (by kernel_rfl) _).trans (by kernel_rfl)
theorem Pz(x1:Int)(x2:Int×List aa)(x4:Int×List aa)(x6:List aa)(jf:List aa)(fA:Int)(dF:Int):oC x1 x2 x4 x6 jf fA dF =
 bif decide (dF<fA)then
 (ab jf dF).bind λy =>
 (ab y.fst x1).bind λay =>
  bif decide (ay<=0)then oC x1 x2 x4 x6 jf fA (IntKind.i64.wrap (dF+1))
  else ti x1 x2 x4 x6 y jf fA dF x2.snd (↑(List.length x2.snd):Int) 0
else (yM x2.fst x6).bind λy=>some ((y.fst.fst,y.fst.snd.fst,()),()):=(aQ Ch [1,1,1,1,0,1,0] (by kernel_rfl) _).trans (by kernel_rfl)
theorem PB(x1:Int)(x2:Int×List aa)(x4:Int×List aa)(x6:List aa)(sX:List aa)(sY:Int)(qq:Int):tj x1 x2 x4 x6 sX sY qq =
 bif decide (qq<sY)then
 (ab sX qq).bind λy =>
 (ab y.fst x1).bind λay =>
  bif ay==0 then
  bif decide ((x6.length+1)*40<=140737488355328)then
   tj x1 x2 x4 (x6++[y]) sX sY (IntKind.i64.wrap (qq+1))
  else none
  else tj x1 x2 x4 x6 sX sY (IntKind.i64.wrap (qq+1))
else oC x1 x2 x4 x6 x2.snd (↑(List.length x2.snd):Int) 0:=(aQ Ch [1,1,1,0,1,0] (by kernel_rfl) _).trans (by kernel_rfl)
theorem aca(a0:Int×List aa)(a1:Int):tP a0 a1 =
 (kP a0).bind λy =>
 bif !y.fst.fst then some (((0,[]),false,()),())
 else
 bif decide (a1<0)then some (((0,[]),false,()),())
 else
  bif decide (a1>=a0.fst)then some (((0,[]),false,()),())
  else tj a1 a0 (0,[]) [] a0.snd (↑(List.length a0.snd):Int) 0:=(Eq.trans (by kernel_rfl:tP a0 a1=ax wW (Tryz.f116.body.getD .skip) xf (aU 106 [(aA,Mode.ro),(ak,Mode.ro)] (a0,a1,()))) (all_eq Ch _)).trans (by kernel_rfl)
def La:Env:=Eo.env C zS.1 Tryz.f165
def OK:=Eo.out C
def oD(x4:List aB)(x5:Int):Option ((List aB×Bool×PUnit)×PUnit):=aL La [1,1,1,1,0,1,0] (Tryz.f165.body.getD .skip) OK (dd 4 (V.d none (aA.depth+1) (Ty.slice 78 aA) x4::V.d none 0 (Ty.int IntKind.i64) x5::dd 42 ([])))
def FE(a0:Int×List aa):Option ((List aB×Bool×PUnit)×PUnit):=MT.ao (a0,())
def aiT:List (Nat×List Nat):=[(1000006,[1,1,1,1,0,1,0])]
theorem VA:okB aiT (Tryz.f165.body.getD .skip) []=true:=by kernel_rfl
theorem Qc(x4:List aB)(x5:Int):oD x4 x5 =
 bif decide (x5>=0)then
 (ab x4 (IntKind.i64.wrap (x5+1))).bind λy =>
 (ab x4 (IntKind.i64.wrap (x5+1))).bind λy =>
  (ab x4 (IntKind.i64.wrap (x5+1))).bind λy =>
  (tP y x5).bind λy =>
   bif !y.fst.snd.fst then some (([],false,()),())
   else
   (ab x4 x5).bind λay =>
    (ab x4 x5).bind λbp =>
    (ab x4 x5).bind λbS =>
     (some (x4.set x5.toNat y.fst.fst)).bind λy=>oD y (IntKind.i64.wrap (x5 - 1))
else some ((x4,true,()),()):=(aQ VA [1,1,1,1,0,1,0] (by kernel_rfl) _).trans (by kernel_rfl)
theorem adg(a0:Int×List aa):FE a0 =
 (kP a0).bind λy =>
 bif !y.fst.fst then some (([],false,()),())
 else
 bif
  decide (0<=IntKind.i64.wrap (a0.fst+1)) &&
    decide (IntKind.i64.wrap (a0.fst+1)<=IntKind.i64.wrap (a0.fst+1)) &&
   decide (IntKind.i64.wrap (a0.fst+1)*(↑32:Int)<=140737488355328) &&
   decide (IntKind.i64.wrap (a0.fst+1)<=9223372036854775807)then
  (oK a0.fst a0.snd).bind λy =>
  (ab (List.replicate (IntKind.i64.wrap (a0.fst+1)).toNat ((0,[]):aB)) a0.fst).bind λay =>
   (ab (List.replicate (IntKind.i64.wrap (a0.fst+1)).toNat ((0,[]):aB)) a0.fst).bind λbp =>
   (ab (List.replicate (IntKind.i64.wrap (a0.fst+1)).toNat ((0,[]):aB)) a0.fst).bind λbS =>
    (some ((List.replicate (IntKind.i64.wrap (a0.fst+1)).toNat ((0,[]):aB)).set (Int.toNat a0.fst) y.fst.fst)).bind
    λy=>oD y (IntKind.i64.wrap (a0.fst - 1))
 else none:=(Eq.trans (by kernel_rfl:FE a0=ax La (Tryz.f165.body.getD .skip) OK (aU 48 [(aA,Mode.ro)] (a0,()))) (all_eq VA _)).trans (by kernel_rfl)
def yv(a0:Int×List aa):Option ((Bool×Bool×PUnit)×PUnit):=Mc.ao (a0,())
theorem acj(a0:Int×List aa):yv a0 =
 (FE a0).bind λy =>
 bif !y.fst.snd.fst then some ((false,false,()),())
 else
 (ab y.fst.fst 0).bind λay =>
  (ab y.fst.fst 0).bind λbp =>
  (ab y.fst.fst 0).bind λy=>some ((decide ((↑(List.length y.snd):Int)>0),true,()),()):=by kernel_rfl
def FM(a0:Option PUnit)(a1:Int):Option ((List aa×PUnit)×PUnit):=NC.ao (a0,a1,())
theorem aea(a0:Option PUnit)(a1:Int):FM a0 a1 =
 bif decide (a1<0)then none
else
 bif decide (IntKind.i64.wrap (a1 - IntKind.i64.wrap (0 - 0))>0)then
 bif
  decide (0<IntKind.i64.wrap (a1 - IntKind.i64.wrap (0 - 0)))&&decide (aH.sz≠0) &&
   decide (IntKind.i64.wrap (a1 - IntKind.i64.wrap (0 - 0))*(↑40:(Ty.int IntKind.i64).den)<=140737488355328) &&
   decide (IntKind.i64.wrap (a1 - IntKind.i64.wrap (0 - 0))<=140737488355328)then
  some (([],()),())
 else none
 else some (([],()),()):=by kernel_rfl
def Dr:Env:=ET.env C AT.1 Tryz.f143
def DI:=ET.out C
def xM(x0:List (List aa))(x6:List aa)(de:List (List aa))(bM:Int)(fM:Int):Option ((List aa×PUnit)×PUnit):=aL Dr [1,1,1,1,0,1,0] (Tryz.f143.body.getD .skip) DI (V.d none 0 qm x0::dd 5 (V.d none 1 cS x6::dd 18 (V.d none 0 qm de::V.d none 0 (Ty.int IntKind.i64) bM::V.d none 0 (Ty.int IntKind.i64) fM::dd 8 ([]))))
def xN(x0:List (List aa))(x3:Int)(x9:List (List aa))(aY:Int)(bU:Int):Option ((List aa×PUnit)×PUnit):=aL Dr [1,1,0,1,0] (Tryz.f143.body.getD .skip) DI (V.d none 0 qm x0::dd 2 (V.d none 0 (Ty.int IntKind.i64) x3::dd 5 (V.d none 0 qm x9::V.d none 0 (Ty.int IntKind.i64) aY::V.d none 0 (Ty.int IntKind.i64) bU::dd 24 ([]))))
def uf(a0:List (List aa)):Option ((List aa×PUnit)×PUnit):=NB.ao (a0,())
def ajl:List (Nat×List Nat):=[(1000003,[1,1,0,1,0]),(1000011,[1,1,1,1,0,1,0])]
theorem I8:okB ajl (Tryz.f143.body.getD .skip) []=true:=by kernel_rfl
theorem DX(x0:List (List aa))(x6:List aa)(de:List (List aa))(bM:Int)(fM:Int):xM x0 x6 de bM fM =
 bif decide (fM<bM)then
 (ab de fM).bind λy =>
 bif decide ((x6.length+y.length)*40<=140737488355328)then
  xM x0 (x6++y) de bM
  (IntKind.i64.wrap (fM+1))
 else none
else some ((x6,()),()):=(aQ I8 [1,1,1,1,0,1,0] (by kernel_rfl) _).trans (by kernel_rfl)
theorem DY(x0:List (List aa))(x3:Int)(x9:List (List aa))(aY:Int)(bU:Int):xN x0 x3 x9 aY bU =
 bif decide (bU<aY)then
 (ab x9 bU).bind λy =>
 bif decide (IntKind.i64.wrap (x3+(↑y.length:Int))<0)then none
 else
  xN x0
  (IntKind.i64.wrap (x3+(↑y.length:Int))) x9 aY (IntKind.i64.wrap (bU+1))
else
 (FM none x3).bind λy =>
 xM x0 y.fst.fst x0 (↑x0.length:Int) 0:=(aQ I8 [1,1,0,1,0] (by kernel_rfl) _).trans (by kernel_rfl)
theorem ad9(a0:List (List aa)):uf a0 =
 xN a0 0 a0 (↑a0.length:Int) 0:=(Eq.trans (by kernel_rfl:uf a0=ax Dr (Tryz.f143.body.getD .skip) DI (aU 36 [(qm,Mode.ro)] (a0,()))) (all_eq I8 _)).trans (by kernel_rfl)
def KZ:Env:=D9.env C AS.1 Tryz.f166
def OA:=D9.out C
def xl(x1:aa)(x2:aa)(x4:aa)(gu:List Int)(fL:Int)(de:Int):Option ((aa×Bool×PUnit)×PUnit):=aL KZ [1,1,1,0,1,0] (Tryz.f166.body.getD .skip) OA (V.dead::(V.box none 0 aH x1::V.box none aH.depth aH x2::V.dead::(V.box none aH.depth aH x4::dd 18 (V.d none 0 a8 gu::V.d none 0 (Ty.int IntKind.i64) fL::V.d none 0 (Ty.int IntKind.i64) de::dd 12 ([])))))
def yE(a0:aa):Option ((aa×Bool×PUnit)×PUnit):=Ml.ao (a0,())
def aiE:List (Nat×List Nat):=[(1000005,[1,1,1,0,1,0])]
theorem Vq:okB aiE (Tryz.f166.body.getD .skip) []=true:=by kernel_rfl
theorem PN(x1:aa)(x2:aa)(x4:aa)(gu:List Int)(fL:Int)(de:Int):xl x1 x2 x4 gu fL de =
 bif decide (de<fL)then
 (ab gu de).bind λy =>
 (ab x4.fst de).bind λay =>
  (ab x4.fst de).bind λbp =>
  (ab x4.fst de).bind λbS =>
   (some (List.set x4.fst de.toNat (IntKind.i64.wrap (0 - y)))).bind λy =>
   xl x1 x2 (y,x4.snd) gu fL (IntKind.i64.wrap (de+1))
else some ((x4,true,()),()):=(aQ Vq [1,1,1,0,1,0] (by kernel_rfl) _).trans (by kernel_rfl)
theorem acy(a0:aa):yE a0 =
 (kc a0).bind λy =>
 bif !y.fst.fst then some ((([],0,false),false,()),())
 else
 bif
  decide (0<=(↑(List.length a0.fst):Int)) &&
    decide ((↑(List.length a0.fst):Int)<=(↑(List.length a0.fst):Int)) &&
   decide ((↑(List.length a0.fst):Int)*(↑8:Int)<=140737488355328) &&
   decide ((↑(List.length a0.fst):Int)<=9223372036854775807)then
  xl a0 ([],0,false)
  (List.replicate (List.length a0.fst) (0:Int),IntKind.i64.wrap (0 - a0.snd.fst),!a0.snd.snd) a0.fst
  (↑(List.length a0.fst):Int) 0
 else none:=(Eq.trans (by kernel_rfl:yE a0=ax KZ (Tryz.f166.body.getD .skip) OA (aU 38 [(aH,Mode.ro)] (a0,()))) (all_eq Vq _)).trans (by kernel_rfl)
def yB(a0:Int×List aa)(a1:Int×List aa):Option ((aB×Bool×PUnit)×PUnit):=Mi.ao (a0,a1,())
theorem acs(a0:Int×List aa)(a1:Int×List aa):yB a0 a1 =
 (kP a0).bind λy =>
 bif !y.fst.fst then some (((0,[]),false,()),())
 else
 (kP a1).bind λy =>
  bif !y.fst.fst then some (((0,[]),false,()),())
  else
  bif a0.fst != a1.fst then some (((0,[]),false,()),())
  else
   (uf [a0.snd,a1.snd]).bind λy =>
   (yM a0.fst y.fst.fst).bind λy=>some ((y.fst.fst,y.fst.snd.fst,()),()):=by kernel_rfl
def Fq(a0:Int×List aa)(a1:aa):Option ((Bool×Bool×PUnit)×PUnit):=L6.ao (a0,a1,())
theorem acd(a0:Int×List aa)(a1:aa):Fq a0 a1 =
 (yE a1).bind λy =>
 bif !y.fst.snd.fst then some ((false,false,()),())
 else
 (yB a0 ((↑(List.length y.fst.fst.fst):Int),[y.fst.fst])).bind λy =>
  bif !y.fst.snd.fst then some ((false,false,()),())
  else (yv y.fst.fst).bind λy=>some ((y.fst.fst,y.fst.snd.fst,()),()):=by kernel_rfl
def KX:Env:=D7.env C zU.1 Tryz.f139
def Oy:=D7.out C
def tq(x1:Int×List aa)(x2:Int×List aa)(x4:Int×List aa)(x7:Int):Option ((aB×Bool×PUnit)×PUnit):=aL KX [1,1,1,1,1,1,0,1,0] (Tryz.f139.body.getD .skip) Oy (V.dead::(V.box none 0 aA x1::V.box none 0 aA x2::V.dead::(V.box none 0 aA x4::dd 2 (V.d none 0 (Ty.int IntKind.i64) x7::dd 60 ([])))))
def yC(a0:Int×List aa):Option ((aB×Bool×PUnit)×PUnit):=Mj.ao (a0,())
def aiC:List (Nat×List Nat):=[(1000010,[1,1,1,1,1,1,0,1,0])]
theorem Vo:okB aiC (Tryz.f139.body.getD .skip) []=true:=by kernel_rfl
theorem PL(x1:Int×List aa)(x2:Int×List aa)(x4:Int×List aa)(x7:Int):tq x1 x2 x4 x7 =
 bif decide (x7<(↑(List.length x4.snd):Int))then
 bif decide (0<=0)&&decide (0<=x7)&&decide (x7<=(↑(List.length x4.snd):Int))then
 bif
  decide (0<=IntKind.i64.wrap (x7+1))&&decide (IntKind.i64.wrap (x7+1)<=(↑(List.length x4.snd):Int)) &&
   decide ((↑(List.length x4.snd):Int)<=(↑(List.length x4.snd):Int))then
  (uf
   [List.drop (Int.toNat 0) (List.take x7.toNat x4.snd),
    List.drop (IntKind.i64.wrap (x7+1)).toNat (List.take (List.length x4.snd) x4.snd)]).bind
  λy =>
  (ab x4.snd x7).bind λay =>
   (Fq (x1.fst,y.fst.fst) ay).bind λbp =>
   bif !bp.fst.snd.fst then some (((0,[]),false,()),())
   else
    bif bp.fst.fst then tq x1 x2 (x1.fst,y.fst.fst) x7
    else tq x1 x2 x4 (IntKind.i64.wrap (x7+1))
 else none
 else none
else some ((x4,true,()),()):=(aQ Vo [1,1,1,1,1,1,0,1,0] (by kernel_rfl) _).trans (by kernel_rfl)
theorem acu(a0:Int×List aa):yC a0 =
 (Rv a0).bind λy =>
 bif !y.fst.snd.fst then some (((0,[]),false,()),())
 else
 (yv y.fst.fst).bind λay =>
  bif !ay.fst.snd.fst then some (((0,[]),false,()),())
  else
  bif ay.fst.fst then (tU a0.fst).bind λy=>some ((y.fst.fst,true,()),())
  else tq a0 (0,[]) y.fst.fst 0:=(Eq.trans (by kernel_rfl:yC a0=ax KX (Tryz.f139.body.getD .skip) Oy (aU 68 [(aA,Mode.ro)] (a0,()))) (all_eq Vo _)).trans (by kernel_rfl)
def Fy(a0:Int×List aa):Option ((Bool×PUnit)×PUnit):=MI.ao (a0,())
theorem acY(a0:Int×List aa):Fy a0 =
 bif (↑(List.length a0.snd):Int)==1 then
 (ab a0.snd 0).bind λy =>
 (yK y).bind λy =>
  bif !y.fst.fst then
  (ab a0.snd 0).bind λy =>
   bif y.snd.fst==1 then (ab a0.snd 0).bind λy=>some ((!y.snd.snd,()),())else some ((false,()),())
  else some ((false,()),())
else some ((false,()),()):=by kernel_rfl
def oH(a0:List ah)(a1:Int×List aa)(a2:List (List Int)):Option ((List ah×Bool×PUnit)×PUnit):=Mq.ao (a0,a1,a2,())
theorem acH(a0:List ah)(a1:Int×List aa)(a2:List (List Int)):oH a0 a1 a2 =
 (yC a1).bind λy =>
 bif !y.fst.snd.fst then some (([],false,()),())
 else
 bif decide ((↑a0.length:Int)>=24)then some (([],false,()),())
 else
  (Fy y.fst.fst).bind λay =>
  bif ay.fst.fst then some ((a0,true,()),())
  else
   bif decide ((a0.length+1)*56<=140737488355328)then some ((a0++[(y.fst.fst,a2)],true,()),())else none:=by kernel_rfl
def Rx(a0:aa):Option ((List ah×Bool×PUnit)×PUnit):=Mr.ao (a0,())
theorem acI(a0:aa):Rx a0 =
 (tS a0).bind λy =>
 (oH [] (4,[y.fst.fst]) []).bind λy=>some ((y.fst.fst,y.fst.snd.fst,()),()):=by kernel_rfl
def Dk:Env:=Ea.env C Aa.1 Tryz.f113
def DC:=Ea.out C
def tu(x1:List Int)(x2:Int×List aa)(x4:Int×List aa)(x6:Int×List aa)(x8:aa)(x9:List Int)(df:List aa)(kN:Int)(jX:Int)(wM:List Int)(wN:Int)(qs:Int):Option ((aB×Bool×PUnit)×PUnit):=aL Dk [1,1,1,0,1,0,0,1,1,0,0,1,1,0,1,0] (Tryz.f113.body.getD .skip) DC (V.dead::(V.d none 0 a8 x1::V.box none 0 aA x2::V.dead::(V.box none aA.depth aA x4::V.dead::(V.box none aA.depth aA x6::V.dead::(V.box none 0 aH x8::V.d none (ak.depth+1) (Ty.slice 3 ak) x9::dd 18 (V.d none 0 (Ty.slice 66 aH) df::V.d none 0 (Ty.int IntKind.i64) kN::V.d none 0 (Ty.int IntKind.i64) jX::dd 4 (V.d none 0 a8 wM::V.d none 0 (Ty.int IntKind.i64) wN::V.d none 0 (Ty.int IntKind.i64) qs::dd 40 ([]))))))))
def xm(x1:List Int)(x2:Int×List aa)(x4:Int×List aa)(x6:Int×List aa)(df:List aa)(kN:Int)(jX:Int):Option ((aB×Bool×PUnit)×PUnit):=aL Dk [1,1,1,0,1,0] (Tryz.f113.body.getD .skip) DC (V.dead::(V.d none 0 a8 x1::V.box none 0 aA x2::V.dead::(V.box none aA.depth aA x4::V.dead::(V.box none aA.depth aA x6::dd 21 (V.d none 0 (Ty.slice 66 aH) df::V.d none 0 (Ty.int IntKind.i64) kN::V.d none 0 (Ty.int IntKind.i64) jX::dd 47 ([]))))))
def tQ(a0:Int×List aa)(a1:List Int):Option ((aB×Bool×PUnit)×PUnit):=Mn.ao (a0,a1,())
def aiF:List (Nat×List Nat):=[(1000005,[1,1,1,0,1,0]),(1000009,[1,1,1,0,1,0,0,1,1,0,0,1,1,0,1,0])]
theorem I2:okB aiF (Tryz.f113.body.getD .skip) []=true:=by kernel_rfl
theorem PQ(x1:List Int)(x2:Int×List aa)(x4:Int×List aa)(x6:Int×List aa)(x8:aa)(x9:List Int)(df:List aa)(kN:Int)(jX:Int)(wM:List Int)(wN:Int)(qs:Int):tu x1 x2 x4 x6 x8 x9 df kN jX wM wN qs =
 bif decide (qs<wN)then
 (ab wM qs).bind λy =>
 (tV y).bind λay =>
  bif !ay.fst.fst then some (((0,[]),false,()),())
  else
  (ab x9 y).bind λbp =>
   (ab x9 y).bind λbS =>
   (ab x8.fst qs).bind λcU =>
    (ab x9 y).bind λeV =>
    (ab x9 y).bind λfN =>
     (ab x9 y).bind λnE =>
     (some (x9.set y.toNat (IntKind.i64.wrap (bS+cU)))).bind λy =>
      tu x1 x2 x4 x6 x8 y df kN jX wM wN (IntKind.i64.wrap (qs+1))
else
 (lW x9 x8.snd.fst x8.snd.snd).bind λy =>
 bif !y.fst.snd.fst then some (((0,[]),false,()),())
 else
  bif decide ((List.length x6.snd+1)*40<=140737488355328)then
  xm x1 x2 x4 (x6.fst,x6.snd++[y.fst.fst]) df kN (IntKind.i64.wrap (jX+1))
  else none:=(aQ I2 [1,1,1,0,1,0,0,1,1,0,0,1,1,0,1,0] (by kernel_rfl) _).trans (by kernel_rfl)
theorem PO(x1:List Int)(x2:Int×List aa)(x4:Int×List aa)(x6:Int×List aa)(df:List aa)(kN:Int)(jX:Int):xm x1 x2 x4 x6 df kN jX =
 bif decide (jX<kN)then
 (ab df jX).bind λy =>
 tu x1 x2 x4 x6 y (List.replicate (Int.toNat 4) (0:Int)) df kN jX x1 (↑x1.length:Int) 0
else some ((x6,true,()),()):=(aQ I2 [1,1,1,0,1,0] (by kernel_rfl) _).trans (by kernel_rfl)
theorem acB(a0:Int×List aa)(a1:List Int):tQ a0 a1 =
 (kP a0).bind λy =>
 bif !y.fst.fst then some (((0,[]),false,()),())
 else
 bif (↑a1.length:Int) != a0.fst then some (((0,[]),false,()),())
 else xm a1 a0 (0,[]) (4,[]) a0.snd (↑(List.length a0.snd):Int) 0:=(Eq.trans (by kernel_rfl:tQ a0 a1=ax Dk (Tryz.f113.body.getD .skip) DC (aU 78 [(aA,Mode.ro),(a8,Mode.ro)] (a0,a1,()))) (all_eq I2 _)).trans (by kernel_rfl)
def Lb:Env:=Ep.env C z6.1 Tryz.f79
def OL:=Ep.out C
def qK(x0:List Rel)(x3:Int×aa×ByteArray×ByteArray×List Int×Int×Int×Int)(x6:List ah)(x7:Int)(cM:List Rel)(dz:List Rw)(eT:Int)(gu:Int):Option ((List ah×Bool×PUnit)×PUnit):=aL Lb [1,1,0,1,0] (Tryz.f79.body.getD .skip) OL (V.d none 0 bt x0::dd 2 (V.box none 0 da x3::dd 2 (V.d none 1 (Ty.slice 81 fx) x6::V.d none 0 ak x7::dd 9 (V.d none 0 bt cM::dd 3 (V.d none 0 (Ty.slice 105 nB) dz::V.d none 0 (Ty.int IntKind.i64) eT::V.d none 0 (Ty.int IntKind.i64) gu::dd 38 ([]))))))
def FF(a0:List Rel)(a1:Int×aa×ByteArray×ByteArray×List Int×Int×Int×Int):Option ((List ah×Bool×PUnit)×PUnit):=MU.ao (a0,a1,())
def aiU:List (Nat×List Nat):=[(1000003,[1,1,0,1,0])]
theorem VB:okB aiU (Tryz.f79.body.getD .skip) []=true:=by kernel_rfl
theorem Qd(x0:List Rel)(x3:Int×aa×ByteArray×ByteArray×List Int×Int×Int×Int)(x6:List ah)(x7:Int)(cM:List Rel)(dz:List Rw)(eT:Int)(gu:Int):qK x0 x3 x6 x7 cM dz eT gu =
 bif decide (gu<eT)then
 (ab dz gu).bind λy =>
 bif !ByteArray.toList x3.snd.snd.snd.fst==(ByteArray.mk #[]).toList then
  bif !ByteArray.toList y.fst==ByteArray.toList x3.snd.snd.snd.fst then
  qK x0 x3 x6 x7 cM dz eT (IntKind.i64.wrap (gu+1))
  else
  (tQ y.snd x3.snd.snd.snd.snd.fst).bind λy =>
   bif !y.fst.snd.fst then some (([],false,()),())
   else
   (oH x6 y.fst.fst [[x7,gu]]).bind λy =>
    bif !y.fst.snd.fst then some (([],false,()),())
    else qK x0 x3 y.fst.fst x7 cM dz eT (IntKind.i64.wrap (gu+1))
 else
  (tQ y.snd x3.snd.snd.snd.snd.fst).bind λy =>
  bif !y.fst.snd.fst then some (([],false,()),())
  else
   (oH x6 y.fst.fst [[x7,gu]]).bind λy =>
   bif !y.fst.snd.fst then some (([],false,()),())
   else qK x0 x3 y.fst.fst x7 cM dz eT (IntKind.i64.wrap (gu+1))
else some ((x6,true,()),()):=(aQ VB [1,1,0,1,0] (by kernel_rfl) _).trans (by kernel_rfl)
theorem adh(a0:List Rel)(a1:Int×aa×ByteArray×ByteArray×List Int×Int×Int×Int):FF a0 a1 =
 (qU a0 a1.snd.snd.fst).bind λy =>
 (ab a0 y.fst.fst).bind λay =>
 qK a0 a1 [] y.fst.fst a0 ay.snd.snd (↑(List.length ay.snd.snd):Int) 0:=(Eq.trans (by kernel_rfl:FF a0 a1=ax Lb (Tryz.f79.body.getD .skip) OL (aU 62 [(bt,Mode.ro),(da,Mode.ro)] (a0,a1,()))) (all_eq VB _)).trans (by kernel_rfl)
def Dm:Env:=Eg.env C An.1 Tryz.f115
def DE:=Eg.out C
def tC(x0:List (List (List Int)))(x3:List (List Int))(x5:List (List Int))(x9:List (List (List Int)))(aY:Int)(bU:Int)(x15:List (List Int))(x16:Int)(cM:Int):Option ((List (List Int)×PUnit)×PUnit):=aL Dm [1,1,0,1,0,0,1,1,0,0,1,1,0] (Tryz.f115.body.getD .skip) DE (V.d none 0 ql x0::dd 2 (V.d none (a8.depth+1) (Ty.slice 58 a8) x3::V.dead::(V.d none 0 dy x5::dd 3 (V.d none 0 ql x9::V.d none 0 (Ty.int IntKind.i64) aY::V.d none 0 (Ty.int IntKind.i64) bU::dd 3 (V.d none 0 dy x15::V.d none 0 (Ty.int IntKind.i64) x16::V.d none 0 (Ty.int IntKind.i64) cM::dd 11 ([]))))))
def tA(x0:List (List (List Int)))(x3:List (List Int))(x9:List (List (List Int)))(aY:Int)(bU:Int):Option ((List (List Int)×PUnit)×PUnit):=aL Dm [1,1,0,1,0] (Tryz.f115.body.getD .skip) DE (V.d none 0 ql x0::dd 2 (V.d none (a8.depth+1) (Ty.slice 58 a8) x3::dd 5 (V.d none 0 ql x9::V.d none 0 (Ty.int IntKind.i64) aY::V.d none 0 (Ty.int IntKind.i64) bU::dd 17 ([]))))
def oJ(a0:List (List (List Int))):Option ((List (List Int)×PUnit)×PUnit):=My.ao (a0,())
def aiL:List (Nat×List Nat):=[(1000003,[1,1,0,1,0]),(1000006,[1,1,0,1,0,0,1,1,0,0,1,1,0])]
theorem I4:okB aiL (Tryz.f115.body.getD .skip) []=true:=by kernel_rfl
theorem xt(x0:List (List (List Int)))(x3:List (List Int))(x5:List (List Int))(x9:List (List (List Int)))(aY:Int)(bU:Int)(x15:List (List Int))(x16:Int)(cM:Int):tC x0 x3 x5 x9 aY bU x15 x16 cM =
 bif decide (cM<x16)then
 (ab x15 cM).bind λy =>
 (yH y).bind λy =>
  bif decide ((x3.length+1)*24<=140737488355328)then
  tC x0 (x3++[y.fst.fst]) x5 x9 aY bU x15 x16 (IntKind.i64.wrap (cM+1))
  else none
else tA x0 x3 x9 aY (IntKind.i64.wrap (bU+1)):=(aQ I4 [1,1,0,1,0,0,1,1,0,0,1,1,0] (by kernel_rfl) _).trans (by kernel_rfl)
theorem tB(x0:List (List (List Int)))(x3:List (List Int))(x9:List (List (List Int)))(aY:Int)(bU:Int):tA x0 x3 x9 aY bU =
 bif decide (bU<aY)then (ab x9 bU).bind λy=>tC x0 x3 y x9 aY bU y (↑y.length:Int) 0
else some ((x3,()),()):=(aQ I4 [1,1,0,1,0] (by kernel_rfl) _).trans (by kernel_rfl)
theorem RF(a0:List (List (List Int))):oJ a0 =
 tA a0 [] a0 (↑a0.length:Int) 0:=(Eq.trans (by kernel_rfl:oJ a0=ax Dm (Tryz.f115.body.getD .skip) DE (aU 29 [(ql,Mode.ro)] (a0,()))) (all_eq I4 _)).trans (by kernel_rfl)
def Dl:Env:=Ec.env C Ad.1 Tryz.f80
def DD:=Ec.out C
def xo(x0:List ah)(x1:List ah)(x6:List ah)(x8:aB×List (List Int))(x14:List ah)(x15:Int)(x16:Int)(fz:List ah)(dz:Int)(eT:Int):Option ((List ah×Bool×PUnit)×PUnit):=aL Dl [1,1,0,1,0,0,1,1,0,0,1,1,0] (Tryz.f80.body.getD .skip) DD (V.d none 0 bD x0::V.d none 0 bD x1::dd 4 (V.d none 1 (Ty.slice 81 fx) x6::V.dead::(V.box none 0 fx x8::dd 5 (V.d none 0 bD x14::V.d none 0 (Ty.int IntKind.i64) x15::V.d none 0 (Ty.int IntKind.i64) x16::dd 3 (V.d none 0 bD fz::V.d none 0 (Ty.int IntKind.i64) dz::V.d none 0 (Ty.int IntKind.i64) eT::dd 30 ([]))))))
def tw(x0:List ah)(x1:List ah)(x6:List ah)(x14:List ah)(x15:Int)(x16:Int):Option ((List ah×Bool×PUnit)×PUnit):=aL Dl [1,1,0,1,0] (Tryz.f80.body.getD .skip) DD (V.d none 0 bD x0::V.d none 0 bD x1::dd 4 (V.d none 1 (Ty.slice 81 fx) x6::dd 7 (V.d none 0 bD x14::V.d none 0 (Ty.int IntKind.i64) x15::V.d none 0 (Ty.int IntKind.i64) x16::dd 36 ([]))))
def Ft(a0:List ah)(a1:List ah):Option ((List ah×Bool×PUnit)×PUnit):=Ms.ao (a0,a1,())
def aiH:List (Nat×List Nat):=[(1000003,[1,1,0,1,0]),(1000006,[1,1,0,1,0,0,1,1,0,0,1,1,0])]
theorem I3:okB aiH (Tryz.f80.body.getD .skip) []=true:=by kernel_rfl
theorem PV(x0:List ah)(x1:List ah)(x6:List ah)(x8:aB×List (List Int))(x14:List ah)(x15:Int)(x16:Int)(fz:List ah)(dz:Int)(eT:Int):xo x0 x1 x6 x8 x14 x15 x16 fz dz eT =
 bif decide (eT<dz)then
 (ab fz eT).bind λy =>
 (yB x8.fst y.fst).bind λay =>
  bif !ay.fst.snd.fst then some (([],false,()),())
  else
  (oJ [x8.snd,y.snd]).bind λy =>
   (oH x6 ay.fst.fst y.fst.fst).bind λy =>
   bif !y.fst.snd.fst then some (([],false,()),())
   else xo x0 x1 y.fst.fst x8 x14 x15 x16 fz dz (IntKind.i64.wrap (eT+1))
else tw x0 x1 x6 x14 x15 (IntKind.i64.wrap (x16+1)):=(aQ I3 [1,1,0,1,0,0,1,1,0,0,1,1,0] (by kernel_rfl) _).trans (by kernel_rfl)
theorem PU(x0:List ah)(x1:List ah)(x6:List ah)(x14:List ah)(x15:Int)(x16:Int):tw x0 x1 x6 x14 x15 x16 =
 bif decide (x16<x15)then
 (ab x14 x16).bind λy=>xo x0 x1 x6 y x14 x15 x16 x1 (↑x1.length:Int) 0
else some ((x6,true,()),()):=(aQ I3 [1,1,0,1,0] (by kernel_rfl) _).trans (by kernel_rfl)
theorem acJ(a0:List ah)(a1:List ah):Ft a0 a1 =
 tw a0 a1 [] a0 (↑a0.length:Int) 0:=(Eq.trans (by kernel_rfl:Ft a0 a1=ax Dl (Tryz.f80.body.getD .skip) DD (aU 53 [(bD,Mode.ro),(bD,Mode.ro)] (a0,a1,()))) (all_eq I3 _)).trans (by kernel_rfl)
def K4:Env:=Ef.env C Ab.1 Tryz.f117
def OE:=Ef.out C
def qG(x1:Int×List aa)(x2:Int×List aa)(x3:Int×List aa)(x14:List aa)(x15:Int)(x16:Int):Option ((aB×PUnit)×PUnit):=aL K4 [1,1,0,1,0] (Tryz.f117.body.getD .skip) OE (V.dead::(V.box none 0 aA x1::V.box none aA.depth aA x2::V.box none aA.depth aA x3::dd 10 (V.d none 0 (Ty.slice 66 aH) x14::V.d none 0 (Ty.int IntKind.i64) x15::V.d none 0 (Ty.int IntKind.i64) x16::dd 12 ([]))))
def tT(a0:Int×List aa):Option ((aB×PUnit)×PUnit):=Mw.ao (a0,())
def aiK:List (Nat×List Nat):=[(1000003,[1,1,0,1,0])]
theorem Vu:okB aiK (Tryz.f117.body.getD .skip) []=true:=by kernel_rfl
theorem xr(x1:Int×List aa)(x2:Int×List aa)(x3:Int×List aa)(x14:List aa)(x15:Int)(x16:Int):qG x1 x2 x3 x14 x15 x16 =
 bif decide (x16<x15)then
 (ab x14 x16).bind λy =>
 (tS y).bind λy =>
  bif decide ((List.length x3.snd+1)*40<=140737488355328)then
  qG x1 x2 (x3.fst,x3.snd++[y.fst.fst]) x14 x15 (IntKind.i64.wrap (x16+1))
  else none
else some ((x3,()),()):=(aQ Vu [1,1,0,1,0] (by kernel_rfl) _).trans (by kernel_rfl)
theorem RC(a0:Int×List aa):tT a0 =
 bif
 decide (0<=0)&&decide (0<=(↑(List.length a0.snd):Int)) &&
  decide ((↑(List.length a0.snd):Int)*(↑40:Int)<=140737488355328) &&
  decide ((↑(List.length a0.snd):Int)<=9223372036854775807)then
 qG a0 (0,[]) (a0.fst,List.replicate (Int.toNat 0) ([],0,false)) a0.snd (↑(List.length a0.snd):Int) 0
else none:=(Eq.trans (by kernel_rfl:tT a0=ax K4 (Tryz.f117.body.getD .skip) OE (aU 29 [(aA,Mode.ro)] (a0,()))) (all_eq Vu _)).trans (by kernel_rfl)
def Fu(a0:aB×List (List Int)):Option ((ah×PUnit)×PUnit):=Mz.ao (a0,())
theorem acO(a0:aB×List (List Int)):Fu a0 =
 (tT a0.fst).bind λy=>(oJ [a0.snd]).bind λay=>some (((y.fst.fst,ay.fst.fst),()),()):=by kernel_rfl
def K5:Env:=Eh.env C Ae.1 Tryz.f37
def OF:=Eh.out C
def xu(x0:List ah)(x3:List ah)(x7:List ah)(x8:Int)(x9:Int):Option ((List ah×PUnit)×PUnit):=aL K5 [1,1,0,1,0] (Tryz.f37.body.getD .skip) OF (V.d none 0 bD x0::dd 2 (V.d none (fx.depth+1) (Ty.slice 81 fx) x3::dd 3 (V.d none 0 bD x7::V.d none 0 (Ty.int IntKind.i64) x8::V.d none 0 (Ty.int IntKind.i64) x9::dd 10 ([]))))
def qX(a0:List ah):Option ((List ah×PUnit)×PUnit):=MA.ao (a0,())
def aiM:List (Nat×List Nat):=[(1000003,[1,1,0,1,0])]
theorem Vv:okB aiM (Tryz.f37.body.getD .skip) []=true:=by kernel_rfl
theorem PY(x0:List ah)(x3:List ah)(x7:List ah)(x8:Int)(x9:Int):xu x0 x3 x7 x8 x9 =
 bif decide (x9<x8)then
 (ab x7 x9).bind λy =>
 (Fu y).bind λy =>
  bif decide ((x3.length+1)*56<=140737488355328)then
  xu x0 (x3++[y.fst.fst]) x7 x8 (IntKind.i64.wrap (x9+1))
  else none
else some ((x3,()),()):=(aQ Vv [1,1,0,1,0] (by kernel_rfl) _).trans (by kernel_rfl)
theorem acQ(a0:List ah):qX a0 =
 xu a0 [] a0 (↑a0.length:Int) 0:=(Eq.trans (by kernel_rfl:qX a0=ax K5 (Tryz.f37.body.getD .skip) OF (aU 20 [(bD,Mode.ro)] (a0,()))) (all_eq Vv _)).trans (by kernel_rfl)
def K7:Env:=Ej.env C Af.1 Tryz.f81
def OH:=Ej.out C
def xw(x0:List ah)(x1:Int)(x6:List ah)(fy:List ah)(fh:Int)(x14:Int):Option ((List ah×Bool×PUnit)×PUnit):=aL K7 [1,1,0,1,0] (Tryz.f81.body.getD .skip) OH (V.d none 0 bD x0::V.d none 0 ak x1::dd 4 (V.d none 1 (Ty.slice 81 fx) x6::dd 5 (V.d none 0 bD fy::V.d none 0 (Ty.int IntKind.i64) fh::V.d none 0 (Ty.int IntKind.i64) x14::dd 26 ([]))))
def Fw(a0:List ah)(a1:Int):Option ((List ah×Bool×PUnit)×PUnit):=MD.ao (a0,a1,())
def aiO:List (Nat×List Nat):=[(1000003,[1,1,0,1,0])]
theorem Vx:okB aiO (Tryz.f81.body.getD .skip) []=true:=by kernel_rfl
theorem P2(x0:List ah)(x1:Int)(x6:List ah)(fy:List ah)(fh:Int)(x14:Int):xw x0 x1 x6 fy fh x14 =
 bif decide (x14<fh)then
 (ab fy x14).bind λy =>
 (tP y.fst x1).bind λay =>
  bif !ay.fst.snd.fst then some (([],false,()),())
  else
  (oJ [y.snd]).bind λy =>
   (oH x6 ay.fst.fst y.fst.fst).bind λy =>
   bif !y.fst.snd.fst then some (([],false,()),())
   else xw x0 x1 y.fst.fst fy fh (IntKind.i64.wrap (x14+1))
else some ((x6,true,()),()):=(aQ Vx [1,1,0,1,0] (by kernel_rfl) _).trans (by kernel_rfl)
theorem acT(a0:List ah)(a1:Int):Fw a0 a1 =
 xw a0 a1 [] a0 (↑a0.length:Int) 0:=(Eq.trans (by kernel_rfl:Fw a0 a1=ax K7 (Tryz.f81.body.getD .skip) OH (aU 41 [(bD,Mode.ro),(ak,Mode.ro)] (a0,a1,()))) (all_eq Vx _)).trans (by kernel_rfl)
def yN(a0:List Rel)(a1:Int×aa×ByteArray×ByteArray×List Int×Int×Int×Int)(a2:List (List ah)):Option ((List ah×Bool×PUnit) ×
 List (List ah)×PUnit):=MQ.ao (a0,a1,a2,())
theorem ac9(a0:List Rel)(a1:Int×aa×ByteArray×ByteArray×List Int×Int×Int×Int)(a2:List (List ah)):yN a0 a1 a2 =
 bif a1.fst==0 then (Rx a1.snd.fst).bind λy=>some ((y.fst.fst,y.fst.snd.fst,()),a2,())
else
 bif a1.fst==1 then (FF a0 a1).bind λy=>some ((y.fst.fst,y.fst.snd.fst,()),a2,())
 else
 bif a1.fst==3 then
  (ab a2 a1.snd.snd.snd.snd.snd.snd.fst).bind λy =>
  (ab a2 a1.snd.snd.snd.snd.snd.snd.fst).bind λy =>
   (ab a2 a1.snd.snd.snd.snd.snd.snd.snd).bind λay =>
   (ab a2 a1.snd.snd.snd.snd.snd.snd.snd).bind λbp =>
    (Ft y bp).bind λy=>some ((y.fst.fst,y.fst.snd.fst,()),a2,())
 else
  bif a1.fst==4 then
  (ab a2 a1.snd.snd.snd.snd.snd.snd.fst).bind λy =>
   (ab a2 a1.snd.snd.snd.snd.snd.snd.fst).bind λy =>
   (qX y).bind λy =>
    (ab a2 a1.snd.snd.snd.snd.snd.snd.snd).bind λay =>
    (ab a2 a1.snd.snd.snd.snd.snd.snd.snd).bind λbp =>
     (qX bp).bind λbS =>
     bif decide ((List.length y.fst.fst+List.length bS.fst.fst)*56<=140737488355328)then
      some ((y.fst.fst++bS.fst.fst,decide ((↑(y.fst.fst++bS.fst.fst).length:Int)<=24),()),a2,())
     else none
  else
  (ab a2 a1.snd.snd.snd.snd.snd.snd.fst).bind λy =>
   (ab a2 a1.snd.snd.snd.snd.snd.snd.fst).bind λy =>
   (Fw y a1.snd.snd.snd.snd.snd.fst).bind λy=>some ((y.fst.fst,y.fst.snd.fst,()),a2,()):=by kernel_rfl
def K1:Env:=Eb.env C Ak.1 Tryz.f11
def OB:=Eb.out C
def xn(x0:List Rel)(x1:List av)(x6:List (List ah))(x16:List av)(cM:Int)(je:Int):Option ((List ah×Bool×PUnit)×PUnit):=aL K1 [1,1,1,0,1,0] (Tryz.f11.body.getD .skip) OB (V.d none 0 bt x0::V.d none 0 cn x1::dd 4 (V.d none 1 (Ty.slice 26 bD) x6::dd 9 (V.d none 0 cn x16::V.d none 0 (Ty.int IntKind.i64) cM::V.d none 0 (Ty.int IntKind.i64) je::dd 24 ([]))))
def qV(a0:List Rel)(a1:List av):Option ((List ah×Bool×PUnit)×PUnit):=Mo.ao (a0,a1,())
def aiG:List (Nat×List Nat):=[(1000005,[1,1,1,0,1,0])]
theorem Vr:okB aiG (Tryz.f11.body.getD .skip) []=true:=by kernel_rfl
theorem PR(x0:List Rel)(x1:List av)(x6:List (List ah))(x16:List av)(cM:Int)(je:Int):xn x0 x1 x6 x16 cM je =
 bif decide (je<cM)then
 (ab x16 je).bind λy =>
 (yN x0 y x6).bind λy =>
  bif !y.fst.snd.fst then some (([],false,()),())
  else
  bif decide ((List.length y.snd.fst+1)*24<=140737488355328)then
   xn x0 x1 (y.snd.fst++[y.fst.fst]) x16 cM (IntKind.i64.wrap (je+1))
  else none
else
 (ab x6 (IntKind.i64.wrap ((↑x6.length:Int) - 1))).bind λy =>
 (ab x6 (IntKind.i64.wrap ((↑x6.length:Int) - 1))).bind λy =>
  (qX y).bind λy=>some ((y.fst.fst,true,()),()):=(aQ Vr [1,1,1,0,1,0] (by kernel_rfl) _).trans (by kernel_rfl)
theorem acD(a0:List Rel)(a1:List av):qV a0 a1 =
 (yy a0 a1).bind λy =>
 bif !y.fst.fst then some (([],false,()),())else xn a0 a1 [] a1 (↑a1.length:Int) 0:=(Eq.trans (by kernel_rfl:qV a0 a1=ax K1 (Tryz.f11.body.getD .skip) OB (aU 43 [(bt,Mode.ro),(cn,Mode.ro)] (a0,a1,()))) (all_eq Vr _)).trans (by kernel_rfl)
def Lx:Env:=EV.env C z7.1 Tryz.f87
def O7:=EV.out C
def xR(x0:List Int)(x1:List Int)(x5:Int):Option ((Bool×PUnit)×PUnit):=aL Lx [1,1,0,1,0] (Tryz.f87.body.getD .skip) O7 (V.d none 0 a8 x0::V.d none 0 a8 x1::dd 3 (V.d none 0 (Ty.int IntKind.i64) x5::dd 20 ([])))
def rh(a0:List Int)(a1:List Int):Option ((Bool×PUnit)×PUnit):=NH.ao (a0,a1,())
def ajn:List (Nat×List Nat):=[(1000004,[1,1,0,1,0])]
theorem VY:okB ajn (Tryz.f87.body.getD .skip) []=true:=by kernel_rfl
theorem QW(x0:List Int)(x1:List Int)(x5:Int):xR x0 x1 x5 =
 bif decide (x5<(↑x0.length:Int))then
 (ab x0 x5).bind λy =>
 (ab x1 x5).bind λay =>
  bif y != ay then some ((false,()),())else xR x0 x1 (IntKind.i64.wrap (x5+1))
else some ((true,()),()):=(aQ VY [1,1,0,1,0] (by kernel_rfl) _).trans (by kernel_rfl)
theorem aei(a0:List Int)(a1:List Int):rh a0 a1 =
 bif (↑a0.length:Int) != (↑a1.length:Int)then some ((false,()),())else xR a0 a1 0:=(Eq.trans (by kernel_rfl:rh a0 a1=ax Lx (Tryz.f87.body.getD .skip) O7 (aU 26 [(a8,Mode.ro),(a8,Mode.ro)] (a0,a1,()))) (all_eq VY _)).trans (by kernel_rfl)
def zb(a0:aa)(a1:aa):Option ((Bool×PUnit)×PUnit):=ND.ao (a0,a1,())
theorem aee(a0:aa)(a1:aa):zb a0 a1 =
 (rh a0.fst a1.fst).bind λy =>
 bif !y.fst.fst then some ((false,()),())
 else
 bif a0.snd.fst != a1.snd.fst then some ((false,()),())
 else bif !a0.snd.snd==a1.snd.snd then some ((false,()),())else some ((true,()),()):=by kernel_rfl
def Lw:Env:=EU.env C AV.1 Tryz.f118
def O6:=EU.out C
def xP(x0:List aa)(x1:List aa)(x5:Int):Option ((Bool×PUnit)×PUnit):=aL Lw [1,1,0,1,0] (Tryz.f118.body.getD .skip) O6 (V.d none 0 cS x0::V.d none 0 cS x1::dd 3 (V.d none 0 (Ty.int IntKind.i64) x5::dd 21 ([])))
def zc(a0:List aa)(a1:List aa):Option ((Bool×PUnit)×PUnit):=NF.ao (a0,a1,())
def ajm:List (Nat×List Nat):=[(1000004,[1,1,0,1,0])]
theorem VW:okB ajm (Tryz.f118.body.getD .skip) []=true:=by kernel_rfl
theorem QU(x0:List aa)(x1:List aa)(x5:Int):xP x0 x1 x5 =
 bif decide (x5<(↑x0.length:Int))then
 (ab x0 x5).bind λy =>
 (ab x1 x5).bind λay =>
  (zb y ay).bind λy =>
  bif !y.fst.fst then some ((false,()),())else xP x0 x1 (IntKind.i64.wrap (x5+1))
else some ((true,()),()):=(aQ VW [1,1,0,1,0] (by kernel_rfl) _).trans (by kernel_rfl)
theorem aec(a0:List aa)(a1:List aa):zc a0 a1 =
 bif (↑a0.length:Int) != (↑a1.length:Int)then some ((false,()),())else xP a0 a1 0:=(Eq.trans (by kernel_rfl:zc a0 a1=ax Lw (Tryz.f118.body.getD .skip) O6 (aU 27 [(cS,Mode.ro),(cS,Mode.ro)] (a0,a1,()))) (all_eq VW _)).trans (by kernel_rfl)
def zd(a0:Int×List aa)(a1:Int×List aa):Option ((Bool×PUnit)×PUnit):=NG.ao (a0,a1,())
theorem aef(a0:Int×List aa)(a1:Int×List aa):zd a0 a1 =
 bif a0.fst != a1.fst then some ((false,()),())
else (zc a0.snd a1.snd).bind λy=>bif !y.fst.fst then some ((false,()),())else some ((true,()),()):=by kernel_rfl
def Ly:Env:=EW.env C AW.1 Tryz.f84
def O8:=EW.out C
def xQ(x0:List (List Int))(x1:List (List Int))(x5:Int):Option ((Bool×PUnit)×PUnit):=aL Ly [1,1,0,1,0] (Tryz.f84.body.getD .skip) O8 (V.d none 0 dy x0::V.d none 0 dy x1::dd 3 (V.d none 0 (Ty.int IntKind.i64) x5::dd 21 ([])))
def ze(a0:List (List Int))(a1:List (List Int)):Option ((Bool×PUnit)×PUnit):=NI.ao (a0,a1,())
def ajo:List (Nat×List Nat):=[(1000004,[1,1,0,1,0])]
theorem VX:okB ajo (Tryz.f84.body.getD .skip) []=true:=by kernel_rfl
theorem QV(x0:List (List Int))(x1:List (List Int))(x5:Int):xQ x0 x1 x5 =
 bif decide (x5<(↑x0.length:Int))then
 (ab x0 x5).bind λy =>
 (ab x1 x5).bind λay =>
  (rh y ay).bind λy =>
  bif !y.fst.fst then some ((false,()),())else xQ x0 x1 (IntKind.i64.wrap (x5+1))
else some ((true,()),()):=(aQ VX [1,1,0,1,0] (by kernel_rfl) _).trans (by kernel_rfl)
theorem aeg(a0:List (List Int))(a1:List (List Int)):ze a0 a1 =
 bif (↑a0.length:Int) != (↑a1.length:Int)then some ((false,()),())else xQ a0 a1 0:=(Eq.trans (by kernel_rfl:ze a0 a1=ax Ly (Tryz.f84.body.getD .skip) O8 (aU 27 [(dy,Mode.ro),(dy,Mode.ro)] (a0,a1,()))) (all_eq VX _)).trans (by kernel_rfl)
def FU(a0:aB×List (List Int))(a1:aB×List (List Int)):Option ((Bool×PUnit)×PUnit):=NP.ao (a0,a1,())
theorem aew(a0:aB×List (List Int))(a1:aB×List (List Int)):FU a0 a1 =
 (zd a0.fst a1.fst).bind λy =>
 bif !y.fst.fst then some ((false,()),())
 else (ze a0.snd a1.snd).bind λy=>bif !y.fst.fst then some ((false,()),())else some ((true,()),()):=by kernel_rfl
def LC:Env:=E0.env C A2.1 Tryz.f12
def Pc:=E0.out C
def xV(x0:List ah)(x1:List ah)(x5:Int):Option ((Bool×PUnit)×PUnit):=aL LC [1,1,0,1,0] (Tryz.f12.body.getD .skip) Pc (V.d none 0 bD x0::V.d none 0 bD x1::dd 3 (V.d none 0 (Ty.int IntKind.i64) x5::dd 21 ([])))
def rk(a0:List ah)(a1:List ah):Option ((Bool×PUnit)×PUnit):=NQ.ao (a0,a1,())
def ajs:List (Nat×List Nat):=[(1000004,[1,1,0,1,0])]
theorem V3:okB ajs (Tryz.f12.body.getD .skip) []=true:=by kernel_rfl
theorem Q0(x0:List ah)(x1:List ah)(x5:Int):xV x0 x1 x5 =
 bif decide (x5<(↑x0.length:Int))then
 (ab x0 x5).bind λy =>
 (ab x1 x5).bind λay =>
  (FU y ay).bind λy =>
  bif !y.fst.fst then some ((false,()),())else xV x0 x1 (IntKind.i64.wrap (x5+1))
else some ((true,()),()):=(aQ V3 [1,1,0,1,0] (by kernel_rfl) _).trans (by kernel_rfl)
theorem aev(a0:List ah)(a1:List ah):rk a0 a1 =
 bif (↑a0.length:Int) != (↑a1.length:Int)then some ((false,()),())else xV a0 a1 0:=(Eq.trans (by kernel_rfl:rk a0 a1=ax LC (Tryz.f12.body.getD .skip) Pc (aU 27 [(bD,Mode.ro),(bD,Mode.ro)] (a0,a1,()))) (all_eq V3 _)).trans (by kernel_rfl)
def FR(a0:ByteArray×Int×List aa)(a1:ByteArray×Int×List aa):Option ((Bool×PUnit)×PUnit):=NN.ao (a0,a1,())
theorem aet(a0:ByteArray×Int×List aa)(a1:ByteArray×Int×List aa):FR a0 a1 =
 bif !ByteArray.toList a0.fst==ByteArray.toList a1.fst then some ((false,()),())
else (zd a0.snd a1.snd).bind λy=>bif !y.fst.fst then some ((false,()),())else some ((true,()),()):=by kernel_rfl
def LB:Env:=EZ.env C A1.1 Tryz.f85
def Pb:=EZ.out C
def xU(x0:List Rw)(x1:List Rw)(x5:Int):Option ((Bool×PUnit)×PUnit):=aL LB [1,1,0,1,0] (Tryz.f85.body.getD .skip) Pb (V.d none 0 jb x0::V.d none 0 jb x1::dd 3 (V.d none 0 (Ty.int IntKind.i64) x5::dd 21 ([])))
def zi(a0:List Rw)(a1:List Rw):Option ((Bool×PUnit)×PUnit):=NO.ao (a0,a1,())
def ajr:List (Nat×List Nat):=[(1000004,[1,1,0,1,0])]
theorem V2:okB ajr (Tryz.f85.body.getD .skip) []=true:=by kernel_rfl
theorem QZ(x0:List Rw)(x1:List Rw)(x5:Int):xU x0 x1 x5 =
 bif decide (x5<(↑x0.length:Int))then
 (ab x0 x5).bind λy =>
 (ab x1 x5).bind λay =>
  (FR y ay).bind λy =>
  bif !y.fst.fst then some ((false,()),())else xU x0 x1 (IntKind.i64.wrap (x5+1))
else some ((true,()),()):=(aQ V2 [1,1,0,1,0] (by kernel_rfl) _).trans (by kernel_rfl)
theorem aer(a0:List Rw)(a1:List Rw):zi a0 a1 =
 bif (↑a0.length:Int) != (↑a1.length:Int)then some ((false,()),())else xU a0 a1 0:=(Eq.trans (by kernel_rfl:zi a0 a1=ax LB (Tryz.f85.body.getD .skip) Pb (aU 27 [(jb,Mode.ro),(jb,Mode.ro)] (a0,a1,()))) (all_eq V2 _)).trans (by kernel_rfl)
def FQ(a0:ByteArray×Int×List Rw)(a1:ByteArray×Int×List Rw):Option ((Bool×PUnit)×PUnit):=NL.ao (a0,a1,())
theorem aep(a0:ByteArray×Int×List Rw)(a1:ByteArray×Int×List Rw):FQ a0 a1 =
 bif !ByteArray.toList a0.fst==ByteArray.toList a1.fst then some ((false,()),())
else
 bif a0.snd.fst != a1.snd.fst then some ((false,()),())
 else
 (zi a0.snd.snd a1.snd.snd).bind λy=>bif !y.fst.fst then some ((false,()),())else some ((true,()),()):=by kernel_rfl
def LA:Env:=EY.env C AZ.1 Tryz.f13
def Pa:=EY.out C
def xT(x0:List Rel)(x1:List Rel)(x5:Int):Option ((Bool×PUnit)×PUnit):=aL LA [1,1,0,1,0] (Tryz.f13.body.getD .skip) Pa (V.d none 0 bt x0::V.d none 0 bt x1::dd 3 (V.d none 0 (Ty.int IntKind.i64) x5::dd 21 ([])))
def zh(a0:List Rel)(a1:List Rel):Option ((Bool×PUnit)×PUnit):=NM.ao (a0,a1,())
def ajq:List (Nat×List Nat):=[(1000004,[1,1,0,1,0])]
theorem V1:okB ajq (Tryz.f13.body.getD .skip) []=true:=by kernel_rfl
theorem QY(x0:List Rel)(x1:List Rel)(x5:Int):xT x0 x1 x5 =
 bif decide (x5<(↑x0.length:Int))then
 (ab x0 x5).bind λy =>
 (ab x1 x5).bind λay =>
  (FQ y ay).bind λy =>
  bif !y.fst.fst then some ((false,()),())else xT x0 x1 (IntKind.i64.wrap (x5+1))
else some ((true,()),()):=(aQ V1 [1,1,0,1,0] (by kernel_rfl) _).trans (by kernel_rfl)
theorem aen(a0:List Rel)(a1:List Rel):zh a0 a1 =
 bif (↑a0.length:Int) != (↑a1.length:Int)then some ((false,()),())else xT a0 a1 0:=(Eq.trans (by kernel_rfl:zh a0 a1=ax LA (Tryz.f13.body.getD .skip) Pa (aU 27 [(bt,Mode.ro),(bt,Mode.ro)] (a0,a1,()))) (all_eq V1 _)).trans (by kernel_rfl)
def FP(a0:Int×aa×ByteArray×ByteArray×List Int×Int×Int×Int)(a1:Int×aa×ByteArray×ByteArray×List Int×Int×Int×Int):Option ((Bool×PUnit)×PUnit):=NJ.ao (a0,a1,())
theorem ael(a0:Int×aa×ByteArray×ByteArray×List Int×Int×Int×Int)(a1:Int×aa×ByteArray×ByteArray×List Int×Int×Int×Int):FP a0 a1 =
 bif a0.fst != a1.fst then some ((false,()),())
else
 (zb a0.snd.fst a1.snd.fst).bind λy =>
 bif !y.fst.fst then some ((false,()),())
 else
  bif !ByteArray.toList a0.snd.snd.fst==ByteArray.toList a1.snd.snd.fst then some ((false,()),())
  else
  bif !ByteArray.toList a0.snd.snd.snd.fst==ByteArray.toList a1.snd.snd.snd.fst then some ((false,()),())
  else
   (rh a0.snd.snd.snd.snd.fst a1.snd.snd.snd.snd.fst).bind λy =>
   bif !y.fst.fst then some ((false,()),())
   else
    bif a0.snd.snd.snd.snd.snd.fst != a1.snd.snd.snd.snd.snd.fst then some ((false,()),())
    else
    bif a0.snd.snd.snd.snd.snd.snd.fst != a1.snd.snd.snd.snd.snd.snd.fst then some ((false,()),())
    else
     bif a0.snd.snd.snd.snd.snd.snd.snd != a1.snd.snd.snd.snd.snd.snd.snd then some ((false,()),())
     else some ((true,()),()):=by kernel_rfl
def Lz:Env:=EX.env C AX.1 Tryz.f14
def O9:=EX.out C
def xS(x0:List av)(x1:List av)(x5:Int):Option ((Bool×PUnit)×PUnit):=aL Lz [1,1,0,1,0] (Tryz.f14.body.getD .skip) O9 (V.d none 0 cn x0::V.d none 0 cn x1::dd 3 (V.d none 0 (Ty.int IntKind.i64) x5::dd 21 ([])))
def zg(a0:List av)(a1:List av):Option ((Bool×PUnit)×PUnit):=NK.ao (a0,a1,())
def ajp:List (Nat×List Nat):=[(1000004,[1,1,0,1,0])]
theorem VZ:okB ajp (Tryz.f14.body.getD .skip) []=true:=by kernel_rfl
theorem QX(x0:List av)(x1:List av)(x5:Int):xS x0 x1 x5 =
 bif decide (x5<(↑x0.length:Int))then
 (ab x0 x5).bind λy =>
 (ab x1 x5).bind λay =>
  (FP y ay).bind λy =>
  bif !y.fst.fst then some ((false,()),())else xS x0 x1 (IntKind.i64.wrap (x5+1))
else some ((true,()),()):=(aQ VZ [1,1,0,1,0] (by kernel_rfl) _).trans (by kernel_rfl)
theorem aej(a0:List av)(a1:List av):zg a0 a1 =
 bif (↑a0.length:Int) != (↑a1.length:Int)then some ((false,()),())else xS a0 a1 0:=(Eq.trans (by kernel_rfl:zg a0 a1=ax Lz (Tryz.f14.body.getD .skip) O9 (aU 27 [(cn,Mode.ro),(cn,Mode.ro)] (a0,a1,()))) (all_eq VZ _)).trans (by kernel_rfl)
def LP:Env:=Fc.env C AY.1 Tryz.f41
def Pp:=Fc.out C
def yh(x0:Int)(x3:ByteArray):Option ((ByteArray×PUnit)×PUnit):=aL LP [1,1,1,0,0] (Tryz.f41.body.getD .skip) Pp (V.d none 0 ak x0::dd 2 (V.d none 0 Ty.str x3::dd 16 ([])))
def lZ(a0:Int):Option ((ByteArray×PUnit)×PUnit):=N2.ao (a0,())
def ajE:List (Nat×List Nat):=[(1000004,[1,1,1,0,0])]
theorem Wg:okB ajE (Tryz.f41.body.getD .skip) []=true:=by kernel_rfl
theorem Rc(x0:Int)(x3:ByteArray):yh x0 x3 =
 bif decide (x0>0)then
 bif decide ((strOf [IntKind.u8.wrap (IntKind.i64.wrap (48+x0.tmod 10))]).size+x3.size<=140737488355328)then
 yh (IntKind.i64.wrap (x0.tdiv 10)) (strOf [IntKind.u8.wrap (IntKind.i64.wrap (48+x0.tmod 10))]++x3)
 else none
else
 bif decide ((ByteArray.mk #[109]).size+x3.size<=140737488355328)then some ((ByteArray.mk #[109]++x3,()),())
 else none:=(aQ Wg [1,1,1,0,0] (by kernel_rfl) _).trans (by kernel_rfl)
theorem aeR(a0:Int):lZ a0 =
 bif decide (a0<=0)then some ((ByteArray.mk #[109,48],()),())else yh a0 (ByteArray.mk #[]):=(Eq.trans (by kernel_rfl:lZ a0=ax LP (Tryz.f41.body.getD .skip) Pp (aU 20 [(ak,Mode.ro)] (a0,()))) (all_eq Wg _)).trans (by kernel_rfl)
def LJ:Env:=E6.env C Be.1 Tryz.f43
def Pj:=E6.out C
def yc(x0:List Int)(x1:Int)(x5:Int):Option ((Int×PUnit)×List Int×PUnit):=aL LJ [1,0,1,0] (Tryz.f43.body.getD .skip) Pj (V.d none 1 a8 x0::V.d none 0 ak x1::dd 3 (V.d none 0 (Ty.int IntKind.i64) x5::dd 13 ([])))
def oQ(a0:List Int)(a1:Int):Option ((Int×PUnit)×List Int×PUnit):=NW.ao (a0,a1,())
def ajy:List (Nat×List Nat):=[(1000002,[1,0,1,0])]
theorem Wa:okB ajy (Tryz.f43.body.getD .skip) []=true:=by kernel_rfl
theorem Q7(x0:List Int)(x1:Int)(x5:Int):yc x0 x1 x5 =
 bif decide (x5<(↑x0.length:Int))then
 (ab x0 x5).bind λy =>
 (ab x0 x5).bind λy =>
  (ab x0 x5).bind λy =>
  (some (x0.set x5.toNat x1)).bind λy=>yc y (IntKind.i64.wrap (x1+1)) (IntKind.i64.wrap (x5+1))
else some ((x1,()),x0,()):=(aQ Wa [1,0,1,0] (by kernel_rfl) _).trans (by kernel_rfl)
theorem aeI(a0:List Int)(a1:Int):oQ a0 a1 =
 yc a0 a1 0:=(Eq.trans (by kernel_rfl:oQ a0 a1=ax LJ (Tryz.f43.body.getD .skip) Pj (aU 19 [(a8,Mode.mut 1),(ak,Mode.ro)] (a0,a1,()))) (all_eq Wa _)).trans (by kernel_rfl)
def LI:Env:=E5.env C A7.1 Tryz.f44
def Ph:=E5.out C
def ya(x0:List aa)(x1:Int)(x5:Int):Option ((Int×PUnit)×List aa×PUnit):=aL LI [1,0,1,0] (Tryz.f44.body.getD .skip) Ph (V.d none 2 cS x0::V.d none 0 ak x1::dd 3 (V.d none 0 (Ty.int IntKind.i64) x5::dd 30 ([])))
def ui(a0:List aa)(a1:Int):Option ((Int×PUnit)×List aa×PUnit):=NV.ao (a0,a1,())
def ajx:List (Nat×List Nat):=[(1000002,[1,0,1,0])]
theorem V8:okB ajx (Tryz.f44.body.getD .skip) []=true:=by kernel_rfl
theorem Q5(x0:List aa)(x1:Int)(x5:Int):ya x0 x1 x5 =
 bif decide (x5<(↑x0.length:Int))then
 (ab x0 x5).bind λy =>
 (ab x0 x5).bind λy =>
  (ab x0 x5).bind λy =>
  (oQ y.fst x1).bind λy =>
   (ab x0 x5).bind λay =>
   (some (x0.set x5.toNat (y.snd.fst,ay.snd))).bind λbp =>
    (ab bp x5).bind λbS =>
    (ab bp x5).bind λcU =>
     (ab bp x5).bind λeV =>
     (some (bp.set x5.toNat (eV.fst,y.fst.fst,eV.snd.snd))).bind λfN =>
      (ab fN x5).bind λnE =>
      (ab fN x5).bind λjh =>
       (ab fN x5).bind λji =>
       (some (fN.set x5.toNat (ji.fst,ji.snd.fst,(IntKind.i64.wrap (y.fst.fst+1)).tmod 3==0))).bind
        λjg =>
        ya jg (IntKind.i64.wrap (IntKind.i64.wrap (y.fst.fst+1)+1)) (IntKind.i64.wrap (x5+1))
else some ((x1,()),x0,()):=(aQ V8 [1,0,1,0] (by kernel_rfl) _).trans (by kernel_rfl)
theorem aeF(a0:List aa)(a1:Int):ui a0 a1 =
 ya a0 a1 0:=(Eq.trans (by kernel_rfl:ui a0 a1=ax LI (Tryz.f44.body.getD .skip) Ph (aU 36 [(cS,Mode.mut 2),(ak,Mode.ro)] (a0,a1,()))) (all_eq V8 _)).trans (by kernel_rfl)
def LN:Env:=Fa.env C A6.1 Tryz.f42
def Pn:=Fa.out C
def yf(x0:List Rw)(x1:Int)(x5:Int):Option ((Int×PUnit)×List Rw×PUnit):=aL LN [1,0,1,0] (Tryz.f42.body.getD .skip) Pn (V.d none 3 jb x0::V.d none 0 ak x1::dd 3 (V.d none 0 (Ty.int IntKind.i64) x5::dd 31 ([])))
def zp(a0:List Rw)(a1:Int):Option ((Int×PUnit)×List Rw×PUnit):=N0.ao (a0,a1,())
def ajC:List (Nat×List Nat):=[(1000002,[1,0,1,0])]
theorem We:okB ajC (Tryz.f42.body.getD .skip) []=true:=by kernel_rfl
theorem Ra(x0:List Rw)(x1:Int)(x5:Int):yf x0 x1 x5 =
 bif decide (x5<(↑x0.length:Int))then
 (lZ x1).bind λy =>
 (ab x0 x5).bind λay =>
  (ab x0 x5).bind λbp =>
  (ab x0 x5).bind λbS =>
   (some (x0.set x5.toNat (y.fst.fst,bS.snd))).bind λy =>
   (ab y x5).bind λcU =>
    (ab y x5).bind λeV =>
    (ab y x5).bind λfN =>
     (some (y.set x5.toNat (fN.fst,IntKind.i64.wrap (x1+1),fN.snd.snd))).bind λy =>
     (ab y x5).bind λnE =>
      (ab y x5).bind λjh =>
      (ab y x5).bind λji =>
       (ui ji.snd.snd (IntKind.i64.wrap (IntKind.i64.wrap (x1+1)+1))).bind λjg =>
       (ab y x5).bind λjY =>
        (some (y.set x5.toNat (jY.fst,jY.snd.fst,jg.snd.fst))).bind λy =>
        yf y jg.fst.fst (IntKind.i64.wrap (x5+1))
else some ((x1,()),x0,()):=(aQ We [1,0,1,0] (by kernel_rfl) _).trans (by kernel_rfl)
theorem aeN(a0:List Rw)(a1:Int):zp a0 a1 =
 yf a0 a1 0:=(Eq.trans (by kernel_rfl:zp a0 a1=ax LN (Tryz.f42.body.getD .skip) Pn (aU 37 [(jb,Mode.mut 3),(ak,Mode.ro)] (a0,a1,()))) (all_eq We _)).trans (by kernel_rfl)
def LM:Env:=E9.env C Bb.1 Tryz.f15
def Pm:=E9.out C
def ye(x0:List Rel)(x1:Int)(x5:Int):Option ((Int×PUnit)×List Rel×PUnit):=aL LM [1,0,1,0] (Tryz.f15.body.getD .skip) Pm (V.d none 4 bt x0::V.d none 0 ak x1::dd 3 (V.d none 0 (Ty.int IntKind.i64) x5::dd 29 ([])))
def zo(a0:List Rel)(a1:Int):Option ((Int×PUnit)×List Rel×PUnit):=NZ.ao (a0,a1,())
def ajB:List (Nat×List Nat):=[(1000002,[1,0,1,0])]
theorem Wc:okB ajB (Tryz.f15.body.getD .skip) []=true:=by kernel_rfl
theorem Q9(x0:List Rel)(x1:Int)(x5:Int):ye x0 x1 x5 =
 bif decide (x5<(↑x0.length:Int))then
 (lZ x1).bind λy =>
 (ab x0 x5).bind λay =>
  (ab x0 x5).bind λbp =>
  (ab x0 x5).bind λbS =>
   (some (x0.set x5.toNat (y.fst.fst,bS.snd))).bind λy =>
   (ab y x5).bind λcU =>
    (ab y x5).bind λeV =>
    (ab y x5).bind λfN =>
     (some (y.set x5.toNat (fN.fst,IntKind.i64.wrap (x1+1),fN.snd.snd))).bind λy =>
     (ab y x5).bind λnE =>
      (ab y x5).bind λjh =>
      (ab y x5).bind λji =>
       (zp ji.snd.snd (IntKind.i64.wrap (IntKind.i64.wrap (x1+1)+1))).bind λjg =>
       (ab y x5).bind λjY =>
        (some (y.set x5.toNat (jY.fst,jY.snd.fst,jg.snd.fst))).bind λy =>
        ye y jg.fst.fst (IntKind.i64.wrap (x5+1))
else some ((x1,()),x0,()):=(aQ Wc [1,0,1,0] (by kernel_rfl) _).trans (by kernel_rfl)
theorem aeL(a0:List Rel)(a1:Int):zo a0 a1 =
 ye a0 a1 0:=(Eq.trans (by kernel_rfl:zo a0 a1=ax LM (Tryz.f15.body.getD .skip) Pm (aU 35 [(bt,Mode.mut 4),(ak,Mode.ro)] (a0,a1,()))) (all_eq Wc _)).trans (by kernel_rfl)
def LL:Env:=E8.env C Ba.1 Tryz.f16
def Pl:=E8.out C
def yd(x0:List av)(x1:Int)(x5:Int):Option ((Int×PUnit)×List av×PUnit):=aL LL [1,0,1,0] (Tryz.f16.body.getD .skip) Pl (V.d none 2 cn x0::V.d none 0 ak x1::dd 3 (V.d none 0 (Ty.int IntKind.i64) x5::dd 84 ([])))
def zn(a0:List av)(a1:Int):Option ((Int×PUnit)×List av×PUnit):=NY.ao (a0,a1,())
def ajA:List (Nat×List Nat):=[(1000002,[1,0,1,0])]
theorem Wb:okB ajA (Tryz.f16.body.getD .skip) []=true:=by kernel_rfl
theorem Q8(x0:List av)(x1:Int)(x5:Int):yd x0 x1 x5 =
 bif decide (x5<(↑x0.length:Int))then
 (ab x0 x5).bind λy =>
 (ab x0 x5).bind λy =>
  (ab x0 x5).bind λy =>
  (some (x0.set x5.toNat (x1,y.snd))).bind λy =>
   (ab y x5).bind λay =>
   (ab y x5).bind λbp =>
    (ab y x5).bind λbS =>
    (oQ bS.snd.fst.fst (IntKind.i64.wrap (x1+1))).bind λcU =>
     (ab y x5).bind λeV =>
     (some (y.set x5.toNat (eV.fst,(cU.snd.fst,eV.snd.fst.snd),eV.snd.snd))).bind λy =>
      (ab y x5).bind λfN =>
      (ab y x5).bind λnE =>
       (ab y x5).bind λjh =>
       (some (y.set x5.toNat (jh.fst,(jh.snd.fst.fst,cU.fst.fst,jh.snd.fst.snd.snd),jh.snd.snd))).bind
        λy =>
        (ab y x5).bind λji =>
        (ab y x5).bind λjg =>
         (ab y x5).bind λjY =>
         (some
           (y.set x5.toNat
           (jY.fst,
            (jY.snd.fst.fst,jY.snd.fst.snd.fst,(IntKind.i64.wrap (cU.fst.fst+1)).tmod 3==0),
            jY.snd.snd))).bind
          λy =>
          (lZ (IntKind.i64.wrap (IntKind.i64.wrap (cU.fst.fst+1)+1))).bind λKD =>
          (ab y x5).bind λwQ =>
           (ab y x5).bind λKE =>
           (ab y x5).bind λwR =>
            (some (y.set x5.toNat (wR.fst,wR.snd.fst,KD.fst.fst,wR.snd.snd.snd))).bind λy =>
            (lZ
              (IntKind.i64.wrap (IntKind.i64.wrap (IntKind.i64.wrap (cU.fst.fst+1)+1)+1))).bind
             λKF =>
             (ab y x5).bind λKG =>
             (ab y x5).bind λYy =>
              (ab y x5).bind λDg =>
              (some
                (y.set x5.toNat
                (Dg.fst,Dg.snd.fst,Dg.snd.snd.fst,KF.fst.fst,Dg.snd.snd.snd.snd))).bind
               λy =>
               (ab y x5).bind λapT =>
               (ab y x5).bind λapU =>
                (ab y x5).bind λapc =>
                (oQ apc.snd.snd.snd.snd.fst
                  (IntKind.i64.wrap
                  (IntKind.i64.wrap (IntKind.i64.wrap (IntKind.i64.wrap (cU.fst.fst+1)+1)+1) +
                   1))).bind
                 λwS =>
                 (ab y x5).bind λwT =>
                 (some
                   (y.set x5.toNat
                   (wT.fst,wT.snd.fst,wT.snd.snd.fst,wT.snd.snd.snd.fst,wS.snd.fst,
                    wT.snd.snd.snd.snd.snd))).bind
                  λy =>
                  (ab y x5).bind λapV =>
                  (ab y x5).bind λapW =>
                   (ab y x5).bind λtd =>
                   (some
                     (y.set x5.toNat
                     (td.fst,td.snd.fst,td.snd.snd.fst,td.snd.snd.snd.fst,
                      td.snd.snd.snd.snd.fst,wS.fst.fst,td.snd.snd.snd.snd.snd.snd))).bind
                    λy =>
                    (ab y x5).bind λapX =>
                    (ab y x5).bind λapY =>
                     (ab y x5).bind λqv =>
                     (some
                       (y.set x5.toNat
                       (qv.fst,qv.snd.fst,qv.snd.snd.fst,qv.snd.snd.snd.fst,
                        qv.snd.snd.snd.snd.fst,qv.snd.snd.snd.snd.snd.fst,
                        IntKind.i64.wrap (wS.fst.fst+1),
                        qv.snd.snd.snd.snd.snd.snd.snd))).bind
                      λy =>
                      (ab y x5).bind λapZ =>
                      (ab y x5).bind λap0 =>
                       (ab y x5).bind λqw =>
                       (some
                         (y.set x5.toNat
                         (qw.fst,qw.snd.fst,qw.snd.snd.fst,qw.snd.snd.snd.fst,
                          qw.snd.snd.snd.snd.fst,qw.snd.snd.snd.snd.snd.fst,
                          qw.snd.snd.snd.snd.snd.snd.fst,
                          IntKind.i64.wrap (IntKind.i64.wrap (wS.fst.fst+1)+1)))).bind
                        λy =>
                        yd y
                        (IntKind.i64.wrap
                         (IntKind.i64.wrap (IntKind.i64.wrap (wS.fst.fst+1)+1)+1))
                        (IntKind.i64.wrap (x5+1))
else some ((x1,()),x0,()):=(aQ Wb [1,0,1,0] (by kernel_rfl) _).trans (by kernel_rfl)
theorem aeJ(a0:List av)(a1:Int):zn a0 a1 =
 yd a0 a1 0:=(Eq.trans (by kernel_rfl:zn a0 a1=ax LL (Tryz.f16.body.getD .skip) Pl (aU 90 [(cn,Mode.mut 2),(ak,Mode.ro)] (a0,a1,()))) (all_eq Wb _)).trans (by kernel_rfl)
def LK:Env:=E7.env C A9.1 Tryz.f45
def Pk:=E7.out C
def yb(x0:List (List Int))(x1:Int)(x5:Int):Option ((Int×PUnit)×List (List Int)×PUnit):=aL LK [1,0,1,0] (Tryz.f45.body.getD .skip) Pk (V.d none 2 dy x0::V.d none 0 ak x1::dd 3 (V.d none 0 (Ty.int IntKind.i64) x5::dd 13 ([])))
def zl(a0:List (List Int))(a1:Int):Option ((Int×PUnit)×List (List Int)×PUnit):=NX.ao (a0,a1,())
def ajz:List (Nat×List Nat):=[(1000002,[1,0,1,0])]
theorem V9:okB ajz (Tryz.f45.body.getD .skip) []=true:=by kernel_rfl
theorem Q6(x0:List (List Int))(x1:Int)(x5:Int):yb x0 x1 x5 =
 bif decide (x5<(↑x0.length:Int))then
 (ab x0 x5).bind λy =>
 (ab x0 x5).bind λy =>
  (ab x0 x5).bind λy =>
  (oQ y x1).bind λy =>
   (ab x0 x5).bind λay =>
   (some (x0.set x5.toNat y.snd.fst)).bind λbp=>yb bp y.fst.fst (IntKind.i64.wrap (x5+1))
else some ((x1,()),x0,()):=(aQ V9 [1,0,1,0] (by kernel_rfl) _).trans (by kernel_rfl)
theorem aeG(a0:List (List Int))(a1:Int):zl a0 a1 =
 yb a0 a1 0:=(Eq.trans (by kernel_rfl:zl a0 a1=ax LK (Tryz.f45.body.getD .skip) Pk (aU 19 [(dy,Mode.mut 2),(ak,Mode.ro)] (a0,a1,()))) (all_eq V9 _)).trans (by kernel_rfl)
def LO:Env:=Fb.env C A8.1 Tryz.f17
def Po:=Fb.out C
def yg(x0:List ah)(x1:Int)(x5:Int):Option ((Int×PUnit)×List ah×PUnit):=aL LO [1,0,1,0] (Tryz.f17.body.getD .skip) Po (V.d none 3 bD x0::V.d none 0 ak x1::dd 3 (V.d none 0 (Ty.int IntKind.i64) x5::dd 30 ([])))
def zq(a0:List ah)(a1:Int):Option ((Int×PUnit)×List ah×PUnit):=N1.ao (a0,a1,())
def ajD:List (Nat×List Nat):=[(1000002,[1,0,1,0])]
theorem Wf:okB ajD (Tryz.f17.body.getD .skip) []=true:=by kernel_rfl
theorem Rb(x0:List ah)(x1:Int)(x5:Int):yg x0 x1 x5 =
 bif decide (x5<(↑x0.length:Int))then
 (ab x0 x5).bind λy =>
 (ab x0 x5).bind λy =>
  (ab x0 x5).bind λy =>
  (some (x0.set x5.toNat ((x1,y.fst.snd),y.snd))).bind λy =>
   (ab y x5).bind λay =>
   (ab y x5).bind λbp =>
    (ab y x5).bind λbS =>
    (ui bS.fst.snd (IntKind.i64.wrap (x1+1))).bind λcU =>
     (ab y x5).bind λeV =>
     (some (y.set x5.toNat ((eV.fst.fst,cU.snd.fst),eV.snd))).bind λy =>
      (ab y x5).bind λfN =>
      (ab y x5).bind λnE =>
       (ab y x5).bind λjh =>
       (zl jh.snd cU.fst.fst).bind λji =>
        (ab y x5).bind λjg =>
        (some (y.set x5.toNat (jg.fst,ji.snd.fst))).bind λy =>
         yg y ji.fst.fst (IntKind.i64.wrap (x5+1))
else some ((x1,()),x0,()):=(aQ Wf [1,0,1,0] (by kernel_rfl) _).trans (by kernel_rfl)
theorem aeP(a0:List ah)(a1:Int):zq a0 a1 =
 yg a0 a1 0:=(Eq.trans (by kernel_rfl:zq a0 a1=ax LO (Tryz.f17.body.getD .skip) Po (aU 36 [(bD,Mode.mut 3),(ak,Mode.ro)] (a0,a1,()))) (all_eq Wf _)).trans (by kernel_rfl)
def LF:Env:=E2.env C Bc.1 Tryz.f88
def Pe:=E2.out C
def xY(x0:List Int)(x1:Int)(x5:Int):Option ((Int×PUnit)×PUnit):=aL LF [1,0,1,0] (Tryz.f88.body.getD .skip) Pe (V.d none 0 a8 x0::V.d none 0 ak x1::dd 3 (V.d none 0 (Ty.int IntKind.i64) x5::dd 15 ([])))
def ug(a0:List Int)(a1:Int):Option ((Int×PUnit)×PUnit):=NS.ao (a0,a1,())
def aju:List (Nat×List Nat):=[(1000002,[1,0,1,0])]
theorem V6:okB aju (Tryz.f88.body.getD .skip) []=true:=by kernel_rfl
theorem Q3(x0:List Int)(x1:Int)(x5:Int):xY x0 x1 x5 =
 bif decide (x5<(↑x0.length:Int))then
 (ab x0 x5).bind λy =>
 bif y != x1 then some ((-1,()),())else xY x0 (IntKind.i64.wrap (x1+1)) (IntKind.i64.wrap (x5+1))
else some ((x1,()),()):=(aQ V6 [1,0,1,0] (by kernel_rfl) _).trans (by kernel_rfl)
theorem aeC(a0:List Int)(a1:Int):ug a0 a1 =
 xY a0 a1 0:=(Eq.trans (by kernel_rfl:ug a0 a1=ax LF (Tryz.f88.body.getD .skip) Pe (aU 21 [(a8,Mode.ro),(ak,Mode.ro)] (a0,a1,()))) (all_eq V6 _)).trans (by kernel_rfl)
def LD:Env:=E1.env C A4.1 Tryz.f46
def Pd:=E1.out C
def xW(x0:List aa)(x1:Int)(x5:Int):Option ((Int×PUnit)×PUnit):=aL LD [1,0,1,0] (Tryz.f46.body.getD .skip) Pd (V.d none 0 cS x0::V.d none 0 ak x1::dd 3 (V.d none 0 (Ty.int IntKind.i64) x5::dd 36 ([])))
def zj(a0:List aa)(a1:Int):Option ((Int×PUnit)×PUnit):=NR.ao (a0,a1,())
def ajt:List (Nat×List Nat):=[(1000002,[1,0,1,0])]
theorem V4:okB ajt (Tryz.f46.body.getD .skip) []=true:=by kernel_rfl
theorem Q1(x0:List aa)(x1:Int)(x5:Int):xW x0 x1 x5 =
 bif decide (x5<(↑x0.length:Int))then
 (ab x0 x5).bind λy =>
 (ug y.fst x1).bind λy =>
  bif decide (y.fst.fst<0)then some ((-1,()),())
  else
  (ab x0 x5).bind λay =>
   bif ay.snd.fst != y.fst.fst then some ((-1,()),())
   else
   (ab x0 x5).bind λbp =>
    bif !bp.snd.snd==((IntKind.i64.wrap (y.fst.fst+1)).tmod 3==0)then some ((-1,()),())
    else xW x0 (IntKind.i64.wrap (IntKind.i64.wrap (y.fst.fst+1)+1)) (IntKind.i64.wrap (x5+1))
else some ((x1,()),()):=(aQ V4 [1,0,1,0] (by kernel_rfl) _).trans (by kernel_rfl)
theorem aey(a0:List aa)(a1:Int):zj a0 a1 =
 xW a0 a1 0:=(Eq.trans (by kernel_rfl:zj a0 a1=ax LD (Tryz.f46.body.getD .skip) Pd (aU 42 [(cS,Mode.ro),(ak,Mode.ro)] (a0,a1,()))) (all_eq V4 _)).trans (by kernel_rfl)
def LG:Env:=E3.env C A3.1 Tryz.f47
def Pf:=E3.out C
def xX(x0:List (List Int))(x1:Int)(x5:Int):Option ((Int×PUnit)×PUnit):=aL LG [1,0,1,0] (Tryz.f47.body.getD .skip) Pf (V.d none 0 dy x0::V.d none 0 ak x1::dd 3 (V.d none 0 (Ty.int IntKind.i64) x5::dd 15 ([])))
def zk(a0:List (List Int))(a1:Int):Option ((Int×PUnit)×PUnit):=NT.ao (a0,a1,())
def ajv:List (Nat×List Nat):=[(1000002,[1,0,1,0])]
theorem V5:okB ajv (Tryz.f47.body.getD .skip) []=true:=by kernel_rfl
theorem Q2(x0:List (List Int))(x1:Int)(x5:Int):xX x0 x1 x5 =
 bif decide (x5<(↑x0.length:Int))then
 (ab x0 x5).bind λy =>
 (ug y x1).bind λy =>
  bif decide (y.fst.fst<0)then some ((-1,()),())else xX x0 y.fst.fst (IntKind.i64.wrap (x5+1))
else some ((x1,()),()):=(aQ V5 [1,0,1,0] (by kernel_rfl) _).trans (by kernel_rfl)
theorem aeA(a0:List (List Int))(a1:Int):zk a0 a1 =
 xX a0 a1 0:=(Eq.trans (by kernel_rfl:zk a0 a1=ax LG (Tryz.f47.body.getD .skip) Pf (aU 21 [(dy,Mode.ro),(ak,Mode.ro)] (a0,a1,()))) (all_eq V5 _)).trans (by kernel_rfl)
def LH:Env:=E4.env C A5.1 Tryz.f18
def Pg:=E4.out C
def xZ(x0:List ah)(x1:Int)(x5:Int):Option ((Int×PUnit)×PUnit):=aL LH [1,0,1,0] (Tryz.f18.body.getD .skip) Pg (V.d none 0 bD x0::V.d none 0 ak x1::dd 3 (V.d none 0 (Ty.int IntKind.i64) x5::dd 36 ([])))
def uh(a0:List ah)(a1:Int):Option ((Int×PUnit)×PUnit):=NU.ao (a0,a1,())
def ajw:List (Nat×List Nat):=[(1000002,[1,0,1,0])]
theorem V7:okB ajw (Tryz.f18.body.getD .skip) []=true:=by kernel_rfl
theorem Q4(x0:List ah)(x1:Int)(x5:Int):xZ x0 x1 x5 =
 bif decide (x5<(↑x0.length:Int))then
 (ab x0 x5).bind λy =>
 bif y.fst.fst != x1 then some ((-1,()),())
 else
  (ab x0 x5).bind λy =>
  (zj y.fst.snd (IntKind.i64.wrap (x1+1))).bind λy =>
   bif decide (y.fst.fst<0)then some ((-1,()),())
   else
   (ab x0 x5).bind λay =>
    (zk ay.snd y.fst.fst).bind λy =>
    bif decide (y.fst.fst<0)then some ((-1,()),())
    else xZ x0 y.fst.fst (IntKind.i64.wrap (x5+1))
else some ((x1,()),()):=(aQ V7 [1,0,1,0] (by kernel_rfl) _).trans (by kernel_rfl)
theorem aeD(a0:List ah)(a1:Int):uh a0 a1 =
 xZ a0 a1 0:=(Eq.trans (by kernel_rfl:uh a0 a1=ax LH (Tryz.f18.body.getD .skip) Pg (aU 42 [(bD,Mode.ro),(ak,Mode.ro)] (a0,a1,()))) (all_eq V7 _)).trans (by kernel_rfl)
def FN(a0:List Rel)(a1:List av):Option ((Bool×PUnit)×PUnit):=Du.ao (a0,a1,())
theorem aeb(a0:List Rel)(a1:List av):FN a0 a1 =
 (zD a0 1048576).bind λy =>
 bif decide (y.fst.fst<0)then some ((true,()),())
 else
 (zw a1 y.fst.fst).bind λy =>
  bif decide (y.fst.fst<0)then some ((true,()),())
  else
  (oS a0).bind λy =>
   (oR a1).bind λay =>
   (ua y.fst.fst ay.fst.fst).bind λy =>
    (oS a0).bind λbp =>
    (oR a1).bind λbS =>
     (qV bp.fst.fst bS.fst.fst).bind λcU =>
     (rk cU.fst.fst y.fst.fst).bind λeV =>
      bif !eV.fst.fst then some ((false,()),())
      else
      bif !cU.fst.snd.fst==y.fst.snd.fst then some ((false,()),())
      else
       (oS a0).bind λfN =>
       (zh bp.fst.fst fN.fst.fst).bind λnE =>
        bif !nE.fst.fst then some ((false,()),())
        else
        (oR a1).bind λjh =>
         (zg bS.fst.fst jh.fst.fst).bind λji =>
         bif !ji.fst.fst then some ((false,()),())
         else
          (zo bp.fst.fst 1).bind λjg =>
          (zn bS.fst.fst jg.fst.fst).bind λjY =>
           bif decide (jY.fst.fst<0)then some ((false,()),())
           else
           (rk cU.fst.fst y.fst.fst).bind λKD =>
            bif !KD.fst.fst then some ((false,()),())
            else
            bif !cU.fst.snd.fst==y.fst.snd.fst then some ((false,()),())
            else
             (zq cU.fst.fst 1).bind λwQ =>
             (uh wQ.snd.fst 1).bind λKE =>
              bif decide (KE.fst.fst<0)then some ((false,()),())
              else
              bif KE.fst.fst != wQ.fst.fst then some ((false,()),())
              else
               (oS a0).bind λwR =>
               (oR a1).bind λKF =>
                (qV wR.fst.fst KF.fst.fst).bind λKG =>
                (rk KG.fst.fst y.fst.fst).bind λYy =>
                 bif !Yy.fst.fst then some ((false,()),())
                 else
                 bif !KG.fst.snd.fst==y.fst.snd.fst then some ((false,()),())
                 else
                  (uh wQ.snd.fst 1).bind λy =>
                  bif decide (y.fst.fst<0)then some ((false,()),())
                  else
                   bif y.fst.fst != wQ.fst.fst then some ((false,()),())
                   else some ((true,()),()):=by kernel_rfl
end
end Go.Proofs.YthfgcmoipebheaaGreat.P.It
