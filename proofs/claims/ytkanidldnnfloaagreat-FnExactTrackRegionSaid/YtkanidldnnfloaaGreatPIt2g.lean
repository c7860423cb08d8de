/- A part of the proof: It2g. No conditions. -/
import Derived.Test.YtkanidldnnfloaaGreatPG8
import Derived.Test.YtkanidldnnfloaaGreatPShG
import Derived.Test.YtkanidldnnfloaaGreatPG7
import Derived.Test.YtkanidldnnfloaaGreatChecked
import Derived.KernelRfl
set_option linter.unusedVariables false
set_option maxRecDepth 100000
namespace Go.Proofs.YtkanidldnnfloaaGreat.P.It
open Am
instance noGlob:Glob:=⟨fun _ _=>True,fun _ _=>trivial⟩
abbrev ty1:Ty:=(.raw 1)
abbrev ty2:Ty:=(.int .i64)
abbrev ty3:Ty:=(.int .i64)
abbrev ty4:Ty := .bool
abbrev ty5:Ty:=(.int .u8)
abbrev ty9:Ty := .str
abbrev ty12:Ty:=(.int .u64)
abbrev ty20:Ty:=(.raw 2)
abbrev ty21:Ty:=(.int .i32)
abbrev ty23:Ty:=(.raw 1)
abbrev ty28:Ty:=(.raw 1)
abbrev ty30:Ty:=(.raw 1)
abbrev ty31:Ty:=(.raw 1)
abbrev ty32:Ty:=(.raw 1)
abbrev ty33:Ty:=(.raw 1)
abbrev ty34:Ty:=(.raw 1)
abbrev ty35:Ty:=(.raw 1)
abbrev ty41:Ty:=(.raw 1)
abbrev ty42:Ty:=(.raw 1)
abbrev ty48:Ty:=(.raw 1)
abbrev ty50:Ty:=(.raw 1)
abbrev ty51:Ty:=(.raw 1)
abbrev ty52:Ty:=(.raw 1)
abbrev ty53:Ty:=(.raw 1)
abbrev ty54:Ty:=(.raw 1)
abbrev ty55:Ty:=(.raw 1)
abbrev ty56:Ty:=(.raw 1)
abbrev ty58:Ty:=(.raw 1)
abbrev ty59:Ty:=(.slice 3 ty3)
abbrev ty61:Ty:=(.raw 1)
abbrev ty63:Ty:=(.raw 1)
abbrev ty64:Ty:=(.raw 1)
abbrev ty65:Ty:=(.raw 1)
abbrev ty66:Ty:=(.raw 1)
abbrev ty67:Ty:=(.raw 1)
abbrev ty68:Ty:=(.raw 1)
abbrev ty69:Ty:=(.raw 1)
abbrev ty71:Ty:=(.raw 1)
abbrev ty72:Ty:=(.agg (.pair ty3 ty3))
abbrev ty73:Ty:=(.agg (.pair ty3 ty3))
abbrev ty74:Ty:=(.agg (.pair ty73 ty73))
abbrev ty75:Ty:=(.agg (.pair ty73 ty73))
abbrev ty77:Ty:=(.raw 1)
abbrev ty79:Ty:=(.raw 1)
abbrev ty80:Ty:=(.agg (.pair ty73 (.pair ty73 ty73)))
abbrev ty81:Ty:=(.agg (.pair ty73 (.pair ty73 ty73)))
abbrev ty84:Ty:=(.agg (.pair ty59 (.pair ty3 ty4)))
abbrev ty85:Ty:=(.agg (.pair ty59 (.pair ty3 ty4)))
abbrev ty86:Ty:=(.slice 75 ty75)
abbrev ty88:Ty:=(.raw 1)
abbrev ty89:Ty:=(.raw 1)
abbrev ty90:Ty:=(.raw 1)
abbrev ty91:Ty:=(.agg (.pair ty3 ty3))
abbrev ty92:Ty:=(.agg (.pair ty91 (.pair ty91 ty91)))
abbrev ty93:Ty:=(.agg (.pair ty91 (.pair ty91 ty91)))
abbrev ty96:Ty:=(.raw 1)
abbrev ty97:Ty:=(.agg (.pair ty73 ty73))
abbrev ty98:Ty:=(.agg (.pair ty73 ty73))
abbrev ty99:Ty:=(.agg (.pair ty73 (.pair ty73 (.pair ty98 ty98))))
abbrev ty100:Ty:=(.agg (.pair ty73 (.pair ty73 (.pair ty98 ty98))))
abbrev ty101:Ty:=(.raw 1)
abbrev ty103:Ty:=(.raw 1)
abbrev ty104:Ty:=(.raw 1)
abbrev ty105:Ty:=(.raw 1)
abbrev ty106:Ty:=(.raw 1)
abbrev ty107:Ty:=(.raw 1)
abbrev ty111:Ty:=(.raw 1)
abbrev ty112:Ty:=(.raw 1)
abbrev ty113:Ty:=(.raw 1)
abbrev ty114:Ty:=(.raw 1)
abbrev ty118:Ty:=(.raw 1)
abbrev ty119:Ty:=(.raw 1)
abbrev ty120:Ty:=(.slice 59 ty59)
abbrev ty123:Ty:=(.raw 1)
abbrev ty124:Ty:=(.raw 1)
abbrev ty125:Ty:=(.raw 1)
abbrev ty126:Ty:=(.raw 1)
abbrev ty127:Ty:=(.raw 1)
abbrev ty128:Ty:=(.raw 1)
abbrev ty129:Ty:=(.raw 1)
abbrev ty130:Ty:=(.raw 1)
abbrev ty131:Ty:=(.raw 1)
abbrev ty132:Ty:=(.raw 1)
abbrev ty133:Ty:=(.raw 1)
abbrev ty134:Ty:=(.raw 1)
abbrev ty135:Ty:=(.raw 1)
abbrev ty136:Ty:=(.raw 1)
abbrev ty137:Ty:=(.raw 1)
abbrev ty138:Ty:=(.raw 1)
abbrev ty139:Ty:=(.raw 1)
abbrev ty141:Ty:=(.raw 1)
abbrev ty142:Ty:=(.raw 1)
abbrev ty143:Ty:=(.raw 1)
abbrev ty144:Ty:=(.raw 1)
abbrev ty145:Ty:=(.raw 1)
abbrev ty146:Ty:=(.raw 1)
abbrev ty147:Ty:=(.raw 1)
abbrev ty148:Ty:=(.raw 1)
abbrev ty149:Ty:=(.raw 1)
abbrev ty150:Ty:=(.raw 1)
abbrev ty151:Ty:=(.raw 1)
abbrev ty152:Ty:=(.raw 1)
abbrev ty154:Ty:=(.raw 1)
abbrev ty155:Ty:=(.raw 1)
abbrev ty156:Ty:=(.raw 1)
abbrev ty157:Ty:=(.raw 1)
abbrev ty158:Ty:=(.raw 1)
abbrev ty159:Ty:=(.raw 1)
abbrev ty160:Ty:=(.raw 1)
abbrev ty161:Ty:=(.agg (.pair ty59 (.pair ty3 ty4)))
abbrev ty162:Ty:=(.agg (.pair ty3 (.pair ty161 (.pair ty9 (.pair ty9 (.pair ty59 (.pair ty3 (.pair ty3 ty3))))))))
abbrev ty163:Ty:=(.agg (.pair ty3 (.pair ty161 (.pair ty9 (.pair ty9 (.pair ty59 (.pair ty3 (.pair ty3 ty3))))))))
abbrev ty164:Ty:=(.raw 1)
abbrev ty165:Ty:=(.slice 161 ty161)
abbrev ty166:Ty:=(.agg (.pair ty3 ty165))
abbrev ty167:Ty:=(.agg (.pair ty3 ty165))
abbrev ty168:Ty:=(.agg (.pair ty167 ty120))
abbrev ty169:Ty:=(.agg (.pair ty167 ty120))
abbrev ty170:Ty:=(.raw 1)
abbrev ty171:Ty:=(.raw 1)
abbrev ty172:Ty:=(.agg (.pair ty3 (.pair ty85 (.pair ty9 (.pair ty9 (.pair ty59 (.pair ty3 (.pair ty3 ty3))))))))
abbrev ty173:Ty:=(.agg (.pair ty3 (.pair ty85 (.pair ty9 (.pair ty9 (.pair ty59 (.pair ty3 (.pair ty3 ty3))))))))
abbrev ty174:Ty:=(.raw 1)
abbrev ty175:Ty:=(.raw 1)
abbrev ty176:Ty:=(.raw 1)
abbrev ty177:Ty:=(.raw 1)
abbrev ty178:Ty:=(.raw 1)
abbrev ty179:Ty:=(.raw 1)
abbrev ty180:Ty:=(.raw 1)
abbrev ty181:Ty:=(.raw 1)
abbrev ty182:Ty:=(.slice 5 ty5)
abbrev ty185:Ty:=(.raw 1)
abbrev ty186:Ty:=(.raw 1)
abbrev ty187:Ty:=(.raw 1)
abbrev ty188:Ty:=(.raw 1)
abbrev ty189:Ty:=(.raw 1)
abbrev ty190:Ty:=(.raw 1)
abbrev ty191:Ty:=(.raw 1)
abbrev ty192:Ty:=(.raw 1)
abbrev ty193:Ty:=(.raw 1)
abbrev ty194:Ty:=(.raw 1)
abbrev ty195:Ty:=(.raw 1)
abbrev ty196:Ty:=(.raw 1)
abbrev ty197:Ty:=(.raw 1)
abbrev ty198:Ty:=(.raw 1)
abbrev ty199:Ty:=(.int .u64)
abbrev ty200:Ty:=(.raw 1)
abbrev ty201:Ty:=(.raw 1)
abbrev ty202:Ty:=(.raw 1)
abbrev ty203:Ty:=(.agg (.pair ty9 ty167))
abbrev ty204:Ty:=(.agg (.pair ty9 ty167))
abbrev ty205:Ty:=(.raw 1)
abbrev ty206:Ty:=(.raw 1)
abbrev ty207:Ty:=(.raw 1)
abbrev ty208:Ty:=(.raw 1)
abbrev ty209:Ty:=(.raw 1)
abbrev ty210:Ty:=(.slice 120 ty120)
abbrev ty211:Ty:=(.raw 1)
abbrev ty213:Ty:=(.raw 1)
abbrev ty214:Ty:=(.raw 1)
abbrev ty215:Ty:=(.raw 1)
abbrev ty216:Ty:=(.raw 1)
abbrev ty217:Ty:=(.int .i64)
abbrev ty219:Ty:=(.raw 1)
abbrev ty220:Ty:=(.raw 1)
abbrev ty221:Ty:=(.raw 1)
abbrev ty223:Ty:=(.raw 1)
abbrev ty224:Ty:=(.raw 1)
abbrev ty225:Ty:=(.int .u32)
abbrev ty226:Ty:=(.raw 1)
abbrev ty227:Ty:=(.int .u64)
abbrev ty228:Ty:=(.raw 1)
abbrev ty229:Ty:=(.raw 1)
abbrev ty230:Ty:=(.raw 1)
abbrev ty231:Ty:=(.raw 1)
abbrev ty232:Ty:=(.raw 1)
abbrev ty233:Ty:=(.int .u64)
abbrev ty234:Ty:=(.raw 1)
abbrev ty235:Ty:=(.raw 1)
abbrev ty236:Ty:=(.raw 1)
abbrev ty237:Ty:=(.raw 0)
abbrev ty238:Ty:=(.raw 1)
abbrev ty239:Ty:=(.raw 1)
abbrev ty240:Ty:=(.raw 1)
abbrev ty241:Ty:=(.raw 1)
abbrev ty242:Ty:=(.raw 1)
abbrev ty243:Ty:=(.raw 0)
abbrev ty245:Ty:=(.raw 1)
abbrev ty246:Ty:=(.raw 1)
abbrev ty252:Ty:=(.raw 1)
abbrev ty255:Ty:=(.raw 1)
abbrev ty256:Ty:=(.raw 0)
abbrev ty22:Ty:=(.slice 93 ty93)
abbrev ty29:Ty:=(.slice 81 ty81)
abbrev ty37:Ty:=(.slice 163 ty163)
abbrev ty38:Ty:=(.slice 169 ty169)
abbrev ty39:Ty:=(.agg (.pair ty37 ty38))
abbrev ty40:Ty:=(.agg (.pair ty37 ty38))
abbrev ty43:Ty:=(.slice 173 ty173)
abbrev ty57:Ty:=(.slice 91 ty91)
abbrev ty62:Ty:=(.slice 73 ty73)
abbrev ty70:Ty:=(.slice 29 ty29)
abbrev ty78:Ty:=(.slice 85 ty85)
abbrev ty82:Ty:=(.agg (.pair ty3 ty78))
abbrev ty83:Ty:=(.agg (.pair ty3 ty78))
abbrev ty94:Ty:=(.slice 100 ty100)
abbrev ty108:Ty:=(.slice 204 ty204)
abbrev ty109:Ty:=(.agg (.pair ty9 (.pair ty3 ty108)))
abbrev ty110:Ty:=(.agg (.pair ty9 (.pair ty3 ty108)))
abbrev ty121:Ty:=(.agg (.pair ty83 ty120))
abbrev ty122:Ty:=(.agg (.pair ty83 ty120))
abbrev ty183:Ty:=(.agg (.pair ty9 ty83))
abbrev ty184:Ty:=(.agg (.pair ty9 ty83))
abbrev ty24:Ty:=(.slice 83 ty83)
abbrev ty25:Ty:=(.agg (.pair ty3 ty24))
abbrev ty26:Ty:=(.agg (.pair ty3 ty24))
abbrev ty36:Ty:=(.slice 110 ty110)
abbrev ty44:Ty:=(.slice 122 ty122)
abbrev ty45:Ty:=(.agg (.pair ty43 ty44))
abbrev ty46:Ty:=(.agg (.pair ty43 ty44))
abbrev ty115:Ty:=(.slice 184 ty184)
abbrev ty116:Ty:=(.agg (.pair ty9 (.pair ty3 ty115)))
abbrev ty117:Ty:=(.agg (.pair ty9 (.pair ty3 ty115)))
abbrev ty49:Ty:=(.slice 117 ty117)
def tys:Tys:=[(1,ty1,8),(2,ty2,8),(3,ty3,8),(4,ty4,1),(5,ty5,1),(9,ty9,16),(12,ty12,8),(20,ty20,16),(21,ty21,4),(23,ty23,8),(28,ty28,8),(30,ty30,8),(31,ty31,8),(32,ty32,8),(33,ty33,8),(34,ty34,8),(35,ty35,8),(41,ty41,8),(42,ty42,8),(48,ty48,8),(50,ty50,8),(51,ty51,8),(52,ty52,8),(53,ty53,8),(54,ty54,8),(55,ty55,8),(56,ty56,8),(58,ty58,8),(59,ty59,24),(61,ty61,8),(63,ty63,8),(64,ty64,8),(65,ty65,8),(66,ty66,8),(67,ty67,8),(68,ty68,8),(69,ty69,8),(71,ty71,8),(72,ty72,16),(73,ty73,16),(74,ty74,32),(75,ty75,32),(77,ty77,8),(79,ty79,8),(80,ty80,48),(81,ty81,48),(84,ty84,40),(85,ty85,40),(86,ty86,24),(88,ty88,8),(89,ty89,8),(90,ty90,8),(91,ty91,16),(92,ty92,48),(93,ty93,48),(96,ty96,8),(97,ty97,32),(98,ty98,32),(99,ty99,96),(100,ty100,96),(101,ty101,8),(103,ty103,8),(104,ty104,8),(105,ty105,8),(106,ty106,8),(107,ty107,8),(111,ty111,8),(112,ty112,8),(113,ty113,8),(114,ty114,8),(118,ty118,8),(119,ty119,8),(120,ty120,24),(123,ty123,8),(124,ty124,8),(125,ty125,8),(126,ty126,8),(127,ty127,8),(128,ty128,8),(129,ty129,8),(130,ty130,8),(131,ty131,8),(132,ty132,8),(133,ty133,8),(134,ty134,8),(135,ty135,8),(136,ty136,8),(137,ty137,8),(138,ty138,8),(139,ty139,8),(141,ty141,8),(142,ty142,8),(143,ty143,8),(144,ty144,8),(145,ty145,8),(146,ty146,8),(147,ty147,8),(148,ty148,8),(149,ty149,8),(150,ty150,8),(151,ty151,8),(152,ty152,8),(154,ty154,8),(155,ty155,8),(156,ty156,8),(157,ty157,8),(158,ty158,8),(159,ty159,8),(160,ty160,8),(161,ty161,40),(162,ty162,128),(163,ty163,128),(164,ty164,8),(165,ty165,24),(166,ty166,32),(167,ty167,32),(168,ty168,56),(169,ty169,56),(170,ty170,8),(171,ty171,8),(172,ty172,128),(173,ty173,128),(174,ty174,8),(175,ty175,8),(176,ty176,8),(177,ty177,8),(178,ty178,8),(179,ty179,8),(180,ty180,8),(181,ty181,8),(182,ty182,24),(185,ty185,8),(186,ty186,8),(187,ty187,8),(188,ty188,8),(189,ty189,8),(190,ty190,8),(191,ty191,8),(192,ty192,8),(193,ty193,8),(194,ty194,8),(195,ty195,8),(196,ty196,8),(197,ty197,8),(198,ty198,8),(199,ty199,8),(200,ty200,8),(201,ty201,8),(202,ty202,8),(203,ty203,48),(204,ty204,48),(205,ty205,8),(206,ty206,8),(207,ty207,8),(208,ty208,8),(209,ty209,8),(210,ty210,24),(211,ty211,8),(213,ty213,8),(214,ty214,8),(215,ty215,8),(216,ty216,8),(217,ty217,8),(219,ty219,8),(220,ty220,8),(221,ty221,8),(223,ty223,8),(224,ty224,8),(225,ty225,4),(226,ty226,8),(227,ty227,8),(228,ty228,8),(229,ty229,8),(230,ty230,8),(231,ty231,8),(232,ty232,8),(233,ty233,8),(234,ty234,8),(235,ty235,8),(236,ty236,8),(237,ty237,8),(238,ty238,8),(239,ty239,8),(240,ty240,8),(241,ty241,8),(242,ty242,8),(243,ty243,8),(245,ty245,8),(246,ty246,8),(252,ty252,8),(255,ty255,8),(256,ty256,8),(22,ty22,24),(29,ty29,24),(37,ty37,24),(38,ty38,24),(39,ty39,48),(40,ty40,48),(43,ty43,24),(57,ty57,24),(62,ty62,24),(70,ty70,24),(78,ty78,24),(82,ty82,32),(83,ty83,32),(94,ty94,24),(108,ty108,24),(109,ty109,48),(110,ty110,48),(121,ty121,56),(122,ty122,56),(183,ty183,48),(184,ty184,48),(24,ty24,24),(25,ty25,32),(26,ty26,32),(36,ty36,24),(44,ty44,24),(45,ty45,48),(46,ty46,48),(115,ty115,24),(116,ty116,48),(117,ty117,48),(49,ty49,24)]
noncomputable abbrev C:Ctx:=mkCtx tys
theorem mix:Tryz.prog.follows .mixedOrders=true:=by kernel_rfl
theorem C_ok:CtxOk Tryz.prog C:=ctx_ok (by kernel_rfl)
def tab0:Tab:=fun _=>none
theorem tab0_ok:TabOk Tryz.prog tab0:=fun _ _ h=>by cases h
theorem tab_cons {tab:Tab} {f:FuncId} {F:Am.Fn} (h:TabOk Tryz.prog tab) (hF:FnOk Tryz.prog f F):TabOk Tryz.prog (fun g=>bif g == f then some F else tab g):=by
 intro g G hg
 dsimp only at hg
 cases hc:g == f with
 | true =>
  rw [hc] at hg
  simp only [cond_true,Option.some.injEq] at hg
  rw [beq_iff_eq] at hc
  subst hc hg
  exact hF
 | false =>
  rw [hc] at hg
  exact h g G hg
def fuel:Nat:=2000
theorem fuel_eq:fuel=1999+1:=rfl
abbrev Rat:=Int×Int
abbrev Atm:=List Int×Int×Bool
abbrev Cel:=Int×List Atm
abbrev Reg:=Int×List Cel
abbrev Rw:=ByteArray×Cel
abbrev Rel:=ByteArray×Int×List Rw
abbrev Nod:=Int×Atm×ByteArray×ByteArray×List Int×Int×Int×Int
abbrev Sup:=Cel×List (List Int)
abbrev Viw:=List Nod×List Sup
abbrev Opn:=Int×ByteArray×ByteArray×Cel×List Int
abbrev Sto:=List (List Nod)×List (List Rel)
noncomputable def Fw_szStopS:Am.Fn:=mkFn C tab0 [0,1,2,3] 12 (fun _=>none) ⟨fun _ _=>none,fun s=>Nat.testBit 0 s,fun _=>[]⟩ [(ty22,.ro),(ty3,.ro)] [(ty3,0)] [.tmp 4] (Tryz.f6.body.getD .skip)
theorem Fw_szStopS_ok:FnOk Tryz.prog 6 Fw_szStopS:=by
 unfold Fw_szStopS
 exact mkFn_ok (fn:=Tryz.f6) mix C_ok tab0_ok Tryz.func6 (by kernel_rfl) (by kernel_rfl) (by kernel_rfl) (by kernel_rfl) (by decide)
noncomputable def tab_w_szStopS:Tab:=fun f=>bif f == 6 then some Fw_szStopS else tab0 f
theorem tab_w_szStopS_ok:TabOk Tryz.prog tab_w_szStopS:=tab_cons tab0_ok Fw_szStopS_ok
noncomputable def Fw_toRatio:Am.Fn:=mkFn C tab_w_szStopS [0,1,2,3,4,7] 11 (fun _=>none) ⟨fun _ _=>none,fun s=>Nat.testBit 0 s,fun _=>[]⟩ [(ty91,.ro)] [(ty73,0)] [.cell 2 73] (Tryz.f79.body.getD .skip)
theorem Fw_toRatio_ok:FnOk Tryz.prog 79 Fw_toRatio:=by
 unfold Fw_toRatio
 exact mkFn_ok (fn:=Tryz.f79) mix C_ok tab_w_szStopS_ok Tryz.func79 (by kernel_rfl) (by kernel_rfl) (by kernel_rfl) (by kernel_rfl) (by decide)
noncomputable def tab_w_toRatio:Tab:=fun f=>bif f == 79 then some Fw_toRatio else tab_w_szStopS f
theorem tab_w_toRatio_ok:TabOk Tryz.prog tab_w_toRatio:=tab_cons tab_w_szStopS_ok Fw_toRatio_ok
noncomputable def Fw_toStop:Am.Fn:=mkFn C tab_w_toRatio [0,1,2,3,4,8,12] 17 (fun _=>none) ⟨fun _ _=>none,fun s=>Nat.testBit 0 s,fun _=>[]⟩ [(ty93,.ro)] [(ty81,0)] [.cell 2 81] (Tryz.f41.body.getD .skip)
theorem Fw_toStop_ok:FnOk Tryz.prog 41 Fw_toStop:=by
 unfold Fw_toStop
 exact mkFn_ok (fn:=Tryz.f41) mix C_ok tab_w_toRatio_ok Tryz.func41 (by kernel_rfl) (by kernel_rfl) (by kernel_rfl) (by kernel_rfl) (by decide)
noncomputable def tab_w_toStop:Tab:=fun f=>bif f == 41 then some Fw_toStop else tab_w_toRatio f
theorem tab_w_toStop_ok:TabOk Tryz.prog tab_w_toStop:=tab_cons tab_w_toRatio_ok Fw_toStop_ok
noncomputable def Fw_toStopS:Am.Fn:=mkFn C tab_w_toStop [0,1,3,4,14,16,18] 23 (fun k=>bif k == 1000003 then some 25 else none) ⟨fun _ _=>none,fun s=>Nat.testBit 0 s,fun _=>[]⟩ [(ty22,.ro)] [(ty29,1)] [.tmp 2] (Tryz.f8.body.getD .skip)
theorem Fw_toStopS_ok:FnOk Tryz.prog 8 Fw_toStopS:=by
 unfold Fw_toStopS
 exact mkFn_ok (fn:=Tryz.f8) mix C_ok tab_w_toStop_ok Tryz.func8 (by kernel_rfl) (by kernel_rfl) (by kernel_rfl) (by kernel_rfl) (by decide)
noncomputable def tab_w_toStopS:Tab:=fun f=>bif f == 8 then some Fw_toStopS else tab_w_toStop f
theorem tab_w_toStopS_ok:TabOk Tryz.prog tab_w_toStopS:=tab_cons tab_w_toStop_ok Fw_toStopS_ok
noncomputable def Fs_l1In:Am.Fn:=mkFn C tab_w_toStopS [0,1,2,3,4,5] 15 (fun _=>none) ⟨fun _ _=>none,fun s=>Nat.testBit 0 s,fun _=>[]⟩ [(ty3,.ro),(ty3,.ro),(ty3,.ro)] [(ty4,0)] [.tmp 6] (Tryz.f54.body.getD .skip)
theorem Fs_l1In_ok:FnOk Tryz.prog 54 Fs_l1In:=by
 unfold Fs_l1In
 exact mkFn_ok (fn:=Tryz.f54) mix C_ok tab_w_toStopS_ok Tryz.func54 (by kernel_rfl) (by kernel_rfl) (by kernel_rfl) (by kernel_rfl) (by decide)
noncomputable def tab_s_l1In:Tab:=fun f=>bif f == 54 then some Fs_l1In else tab_w_toStopS f
theorem tab_s_l1In_ok:TabOk Tryz.prog tab_s_l1In:=tab_cons tab_w_toStopS_ok Fs_l1In_ok
noncomputable def Fs_IsNumber:Am.Fn:=mkFn C tab_s_l1In [0,1] 5 (fun _=>none) ⟨fun _ _=>none,fun s=>Nat.testBit 0 s,fun _=>[]⟩ [(ty3,.ro)] [(ty4,0)] [.tmp 2] (Tryz.f128.body.getD .skip)
theorem Fs_IsNumber_ok:FnOk Tryz.prog 128 Fs_IsNumber:=by
 unfold Fs_IsNumber
 exact mkFn_ok (fn:=Tryz.f128) mix C_ok tab_s_l1In_ok Tryz.func128 (by kernel_rfl) (by kernel_rfl) (by kernel_rfl) (by kernel_rfl) (by decide)
noncomputable def tab_s_IsNumber:Tab:=fun f=>bif f == 128 then some Fs_IsNumber else tab_s_l1In f
theorem tab_s_IsNumber_ok:TabOk Tryz.prog tab_s_IsNumber:=tab_cons tab_s_l1In_ok Fs_IsNumber_ok
noncomputable def Fs_l1Abs:Am.Fn:=mkFn C tab_s_IsNumber [0,1] 7 (fun _=>none) ⟨fun _ _=>none,fun s=>Nat.testBit 0 s,fun _=>[]⟩ [(ty3,.ro)] [(ty3,0)] [.tmp 2] (Tryz.f131.body.getD .skip)
theorem Fs_l1Abs_ok:FnOk Tryz.prog 131 Fs_l1Abs:=by
 unfold Fs_l1Abs
 exact mkFn_ok (fn:=Tryz.f131) mix C_ok tab_s_IsNumber_ok Tryz.func131 (by kernel_rfl) (by kernel_rfl) (by kernel_rfl) (by kernel_rfl) (by decide)
noncomputable def tab_s_l1Abs:Tab:=fun f=>bif f == 131 then some Fs_l1Abs else tab_s_IsNumber f
theorem tab_s_l1Abs_ok:TabOk Tryz.prog tab_s_l1Abs:=tab_cons tab_s_IsNumber_ok Fs_l1Abs_ok
noncomputable def Fs_GcdOf:Am.Fn:=mkFn C tab_s_l1Abs [0,1,2,3] 21 (fun k=>bif k == 1000003 then some 3 else none) ⟨fun _ _=>none,fun s=>Nat.testBit 0 s,fun _=>[]⟩ [(ty3,.ro),(ty3,.ro)] [(ty3,0)] [.tmp 4] (Tryz.f129.body.getD .skip)
theorem Fs_GcdOf_ok:FnOk Tryz.prog 129 Fs_GcdOf:=by
 unfold Fs_GcdOf
 exact mkFn_ok (fn:=Tryz.f129) mix C_ok tab_s_l1Abs_ok Tryz.func129 (by kernel_rfl) (by kernel_rfl) (by kernel_rfl) (by kernel_rfl) (by decide)
noncomputable def tab_s_GcdOf:Tab:=fun f=>bif f == 129 then some Fs_GcdOf else tab_s_l1Abs f
theorem tab_s_GcdOf_ok:TabOk Tryz.prog tab_s_GcdOf:=tab_cons tab_s_l1Abs_ok Fs_GcdOf_ok
noncomputable def Fs_IsRatio:Am.Fn:=mkFn C tab_s_GcdOf [0,1,3,7,12,14] 19 (fun _=>none) ⟨fun _ _=>none,fun s=>Nat.testBit 0 s,fun _=>[]⟩ [(ty73,.ro)] [(ty4,0)] [.tmp 2] (Tryz.f84.body.getD .skip)
theorem Fs_IsRatio_ok:FnOk Tryz.prog 84 Fs_IsRatio:=by
 unfold Fs_IsRatio
 exact mkFn_ok (fn:=Tryz.f84) mix C_ok tab_s_GcdOf_ok Tryz.func84 (by kernel_rfl) (by kernel_rfl) (by kernel_rfl) (by kernel_rfl) (by decide)
noncomputable def tab_s_IsRatio:Tab:=fun f=>bif f == 84 then some Fs_IsRatio else tab_s_GcdOf f
theorem tab_s_IsRatio_ok:TabOk Tryz.prog tab_s_IsRatio:=tab_cons tab_s_GcdOf_ok Fs_IsRatio_ok
noncomputable def Fs_l1Less:Am.Fn:=mkFn C tab_s_IsRatio [0,1,2,3,5,7,10,12] 16 (fun _=>none) ⟨fun _ _=>none,fun s=>Nat.testBit 0 s,fun _=>[]⟩ [(ty73,.ro),(ty73,.ro)] [(ty4,0)] [.tmp 4] (Tryz.f85.body.getD .skip)
theorem Fs_l1Less_ok:FnOk Tryz.prog 85 Fs_l1Less:=by
 unfold Fs_l1Less
 exact mkFn_ok (fn:=Tryz.f85) mix C_ok tab_s_IsRatio_ok Tryz.func85 (by kernel_rfl) (by kernel_rfl) (by kernel_rfl) (by kernel_rfl) (by decide)
noncomputable def tab_s_l1Less:Tab:=fun f=>bif f == 85 then some Fs_l1Less else tab_s_IsRatio f
theorem tab_s_l1Less_ok:TabOk Tryz.prog tab_s_l1Less:=tab_cons tab_s_IsRatio_ok Fs_l1Less_ok
noncomputable def Fs_IsTrack:Am.Fn:=mkFn C tab_s_l1Less [0,1,3,10,12,13,18,20,21,27,29,30,39,42,43,45,47,48] 57 (fun k=>bif k == 1000002 then some 9 else none) ⟨fun _ _=>none,fun s=>Nat.testBit 0 s,fun _=>[]⟩ [(ty29,.ro)] [(ty4,0)] [.tmp 2] (Tryz.f35.body.getD .skip)
theorem Fs_IsTrack_ok:FnOk Tryz.prog 35 Fs_IsTrack:=by
 unfold Fs_IsTrack
 exact mkFn_ok (fn:=Tryz.f35) mix C_ok tab_s_l1Less_ok Tryz.func35 (by kernel_rfl) (by kernel_rfl) (by kernel_rfl) (by kernel_rfl) (by decide)
noncomputable def tab_s_IsTrack:Tab:=fun f=>bif f == 35 then some Fs_IsTrack else tab_s_l1Less f
theorem tab_s_IsTrack_ok:TabOk Tryz.prog tab_s_IsTrack:=tab_cons tab_s_l1Less_ok Fs_IsTrack_ok
noncomputable def Fs_l8Legs:Am.Fn:=mkFn C tab_s_IsTrack [0,1,3,4,8,9,11,12,24,27,29,31] 37 (fun k=>bif k == 1000005 then some 25 else none) ⟨fun _ _=>none,fun s=>Nat.testBit 0 s,fun _=>[]⟩ [(ty29,.ro)] [(ty70,2)] [.tmp 2] (Tryz.f36.body.getD .skip)
theorem Fs_l8Legs_ok:FnOk Tryz.prog 36 Fs_l8Legs:=by
 unfold Fs_l8Legs
 exact mkFn_ok (fn:=Tryz.f36) mix C_ok tab_s_IsTrack_ok Tryz.func36 (by kernel_rfl) (by kernel_rfl) (by kernel_rfl) (by kernel_rfl) (by decide)
noncomputable def tab_s_l8Legs:Tab:=fun f=>bif f == 36 then some Fs_l8Legs else tab_s_IsTrack f
theorem tab_s_l8Legs_ok:TabOk Tryz.prog tab_s_l8Legs:=tab_cons tab_s_IsTrack_ok Fs_l8Legs_ok
noncomputable def Fs_l1Whole:Am.Fn:=mkFn C tab_s_l8Legs [0,1,2] 5 (fun _=>none) ⟨fun _ _=>none,fun s=>Nat.testBit 0 s,fun _=>[]⟩ [(ty3,.ro)] [(ty73,0)] [.cell 2 73] (Tryz.f86.body.getD .skip)
theorem Fs_l1Whole_ok:FnOk Tryz.prog 86 Fs_l1Whole:=by
 unfold Fs_l1Whole
 exact mkFn_ok (fn:=Tryz.f86) mix C_ok tab_s_l8Legs_ok Tryz.func86 (by kernel_rfl) (by kernel_rfl) (by kernel_rfl) (by kernel_rfl) (by decide)
noncomputable def tab_s_l1Whole:Tab:=fun f=>bif f == 86 then some Fs_l1Whole else tab_s_l8Legs f
theorem tab_s_l1Whole_ok:TabOk Tryz.prog tab_s_l1Whole:=tab_cons tab_s_l8Legs_ok Fs_l1Whole_ok
noncomputable def Fs_NegateRatio:Am.Fn:=mkFn C tab_s_l1Whole [0,1,2,7,10] 13 (fun _=>none) ⟨fun _ _=>none,fun s=>Nat.testBit 0 s,fun _=>[]⟩ [(ty73,.ro)] [(ty73,0)] [.cell 2 73] (Tryz.f167.body.getD .skip)
theorem Fs_NegateRatio_ok:FnOk Tryz.prog 167 Fs_NegateRatio:=by
 unfold Fs_NegateRatio
 exact mkFn_ok (fn:=Tryz.f167) mix C_ok tab_s_l1Whole_ok Tryz.func167 (by kernel_rfl) (by kernel_rfl) (by kernel_rfl) (by kernel_rfl) (by decide)
noncomputable def tab_s_NegateRatio:Tab:=fun f=>bif f == 167 then some Fs_NegateRatio else tab_s_l1Whole f
theorem tab_s_NegateRatio_ok:TabOk Tryz.prog tab_s_NegateRatio:=tab_cons tab_s_l1Whole_ok Fs_NegateRatio_ok
noncomputable def Fs_l2Make:Am.Fn:=mkFn C tab_s_NegateRatio [0,1,2,3,4,5,6,7,8] 40 (fun k=>bif k == 1000007 then some 115 else none) ⟨fun _ _=>none,fun s=>Nat.testBit 0 s,fun _=>[]⟩ [(ty3,.ro),(ty3,.ro)] [(ty73,0)] [.cell 4 73] (Tryz.f192.body.getD .skip)
theorem Fs_l2Make_ok:FnOk Tryz.prog 192 Fs_l2Make:=by
 unfold Fs_l2Make
 exact mkFn_ok (fn:=Tryz.f192) mix C_ok tab_s_NegateRatio_ok Tryz.func192 (by kernel_rfl) (by kernel_rfl) (by kernel_rfl) (by kernel_rfl) (by decide)
noncomputable def tab_s_l2Make:Tab:=fun f=>bif f == 192 then some Fs_l2Make else tab_s_NegateRatio f
theorem tab_s_l2Make_ok:TabOk Tryz.prog tab_s_l2Make:=tab_cons tab_s_NegateRatio_ok Fs_l2Make_ok
noncomputable def Fs_AddRatios:Am.Fn:=mkFn C tab_s_l2Make [0,1,2,3,4,14,16,19,21,25,27] 31 (fun _=>none) ⟨fun _ _=>none,fun s=>Nat.testBit 0 s,fun _=>[]⟩ [(ty73,.ro),(ty73,.ro)] [(ty73,0)] [.cell 4 73] (Tryz.f166.body.getD .skip)
theorem Fs_AddRatios_ok:FnOk Tryz.prog 166 Fs_AddRatios:=by
 unfold Fs_AddRatios
 exact mkFn_ok (fn:=Tryz.f166) mix C_ok tab_s_l2Make_ok Tryz.func166 (by kernel_rfl) (by kernel_rfl) (by kernel_rfl) (by kernel_rfl) (by decide)
noncomputable def tab_s_AddRatios:Tab:=fun f=>bif f == 166 then some Fs_AddRatios else tab_s_l2Make f
theorem tab_s_AddRatios_ok:TabOk Tryz.prog tab_s_AddRatios:=tab_cons tab_s_l2Make_ok Fs_AddRatios_ok
noncomputable def Fs_DivideRatios:Am.Fn:=mkFn C tab_s_AddRatios [0,1,2,3,4,14,19,21,24,26] 30 (fun _=>none) ⟨fun _ _=>none,fun s=>Nat.testBit 0 s,fun _=>[]⟩ [(ty73,.ro),(ty73,.ro)] [(ty73,0)] [.cell 4 73] (Tryz.f165.body.getD .skip)
theorem Fs_DivideRatios_ok:FnOk Tryz.prog 165 Fs_DivideRatios:=by
 unfold Fs_DivideRatios
 exact mkFn_ok (fn:=Tryz.f165) mix C_ok tab_s_AddRatios_ok Tryz.func165 (by kernel_rfl) (by kernel_rfl) (by kernel_rfl) (by kernel_rfl) (by decide)
noncomputable def tab_s_DivideRatios:Tab:=fun f=>bif f == 165 then some Fs_DivideRatios else tab_s_AddRatios f
theorem tab_s_DivideRatios_ok:TabOk Tryz.prog tab_s_DivideRatios:=tab_cons tab_s_AddRatios_ok Fs_DivideRatios_ok
noncomputable def Fs_MultiplyRatios:Am.Fn:=mkFn C tab_s_DivideRatios [0,1,2,3,4,14,16,19,21] 25 (fun _=>none) ⟨fun _ _=>none,fun s=>Nat.testBit 0 s,fun _=>[]⟩ [(ty73,.ro),(ty73,.ro)] [(ty73,0)] [.cell 4 73] (Tryz.f168.body.getD .skip)
theorem Fs_MultiplyRatios_ok:FnOk Tryz.prog 168 Fs_MultiplyRatios:=by
 unfold Fs_MultiplyRatios
 exact mkFn_ok (fn:=Tryz.f168) mix C_ok tab_s_DivideRatios_ok Tryz.func168 (by kernel_rfl) (by kernel_rfl) (by kernel_rfl) (by kernel_rfl) (by decide)
noncomputable def tab_s_MultiplyRatios:Tab:=fun f=>bif f == 168 then some Fs_MultiplyRatios else tab_s_DivideRatios f
theorem tab_s_MultiplyRatios_ok:TabOk Tryz.prog tab_s_MultiplyRatios:=tab_cons tab_s_DivideRatios_ok Fs_MultiplyRatios_ok
noncomputable def Fs_l8Through:Am.Fn:=mkFn C tab_s_MultiplyRatios [0,1,2,3,4,5,6,7,8,9] 27 (fun _=>none) ⟨fun _ _=>none,fun s=>Nat.testBit 0 s,fun _=>[]⟩ [(ty73,.ro),(ty73,.ro),(ty73,.ro),(ty73,.ro)] [(ty75,0)] [.cell 8 75] (Tryz.f130.body.getD .skip)
theorem Fs_l8Through_ok:FnOk Tryz.prog 130 Fs_l8Through:=by
 unfold Fs_l8Through
 exact mkFn_ok (fn:=Tryz.f130) mix C_ok tab_s_MultiplyRatios_ok Tryz.func130 (by kernel_rfl) (by kernel_rfl) (by kernel_rfl) (by kernel_rfl) (by decide)
noncomputable def tab_s_l8Through:Tab:=fun f=>bif f == 130 then some Fs_l8Through else tab_s_MultiplyRatios f
theorem tab_s_l8Through_ok:TabOk Tryz.prog tab_s_l8Through:=tab_cons tab_s_MultiplyRatios_ok Fs_l8Through_ok
noncomputable def Fs_l8Leg:Am.Fn:=mkFn C tab_s_l8Through [0,1,2,3,4,5,7,8,9,11,13,15,18,20,22,24,29,33,38,43] 47 (fun _=>none) ⟨fun _ _=>none,fun s=>Nat.testBit 0 s,fun _=>[]⟩ [(ty81,.ro),(ty81,.ro)] [(ty75,0),(ty75,0),(ty4,0)] [.cell 4 75,.cell 5 75,.tmp 6] (Tryz.f87.body.getD .skip)
theorem Fs_l8Leg_ok:FnOk Tryz.prog 87 Fs_l8Leg:=by
 unfold Fs_l8Leg
 exact mkFn_ok (fn:=Tryz.f87) mix C_ok tab_s_l8Through_ok Tryz.func87 (by kernel_rfl) (by kernel_rfl) (by kernel_rfl) (by kernel_rfl) (by decide)
noncomputable def tab_s_l8Leg:Tab:=fun f=>bif f == 87 then some Fs_l8Leg else tab_s_l8Through f
theorem tab_s_l8Leg_ok:TabOk Tryz.prog tab_s_l8Leg:=tab_cons tab_s_l8Through_ok Fs_l8Leg_ok
noncomputable def Fs_l8Lines:Am.Fn:=mkFn C tab_s_l8Leg [0,1,2,3,5,6,7,8,9,10,12,13,14,18,19,20,24,25,26,29,30,31,33,34] 43 (fun _=>none) ⟨fun d i=>bif d == 29 then (bif i == 0 then some 37 else bif i == 1 then some 38 else bif i == 2 then some 39 else none) else none,fun s=>Nat.testBit 0 s,fun _=>[]⟩ [(ty29,.ro)] [(ty75,0),(ty75,0),(ty4,0)] [.cell 2 75,.cell 3 75,.tmp 4] (Tryz.f37.body.getD .skip)
theorem Fs_l8Lines_ok:FnOk Tryz.prog 37 Fs_l8Lines:=by
 unfold Fs_l8Lines
 exact mkFn_ok (fn:=Tryz.f37) mix C_ok tab_s_l8Leg_ok Tryz.func37 (by kernel_rfl) (by kernel_rfl) (by kernel_rfl) (by kernel_rfl) (by decide)
noncomputable def tab_s_l8Lines:Tab:=fun f=>bif f == 37 then some Fs_l8Lines else tab_s_l8Leg f
theorem tab_s_l8Lines_ok:TabOk Tryz.prog tab_s_l8Lines:=tab_cons tab_s_l8Leg_ok Fs_l8Lines_ok
noncomputable def Fs_l2Gcd:Am.Fn:=mkFn C tab_s_l8Lines [0,1,2,3,5,6,7,16,18] 28 (fun k=>bif k == 1000003 then some 97 else bif k == 1000006 then some 225 else none) ⟨fun _ _=>none,fun s=>Nat.testBit 0 s,fun _=>[]⟩ [(ty59,.ro),(ty3,.ro)] [(ty3,0)] [.tmp 4] (Tryz.f88.body.getD .skip)
theorem Fs_l2Gcd_ok:FnOk Tryz.prog 88 Fs_l2Gcd:=by
 unfold Fs_l2Gcd
 exact mkFn_ok (fn:=Tryz.f88) mix C_ok tab_s_l8Lines_ok Tryz.func88 (by kernel_rfl) (by kernel_rfl) (by kernel_rfl) (by kernel_rfl) (by decide)
noncomputable def tab_s_l2Gcd:Tab:=fun f=>bif f == 88 then some Fs_l2Gcd else tab_s_l8Lines f
theorem tab_s_l2Gcd_ok:TabOk Tryz.prog tab_s_l2Gcd:=tab_cons tab_s_l8Lines_ok Fs_l2Gcd_ok
noncomputable def Fs_IsAtom:Am.Fn:=mkFn C tab_s_l2Gcd [0,1,3,4,9,15,21,22,24,28,30] 34 (fun k=>bif k == 1 then some 6 else bif k == 4 then some 14 else bif k == 1000004 then some 10 else none) ⟨fun _ _=>none,fun s=>Nat.testBit 2 s,fun r=>bif r == 1 then [5,16,22,24,29] else []⟩ [(ty85,.ro)] [(ty4,0)] [.tmp 2] (Tryz.f89.body.getD .skip)
theorem Fs_IsAtom_ok:FnOk Tryz.prog 89 Fs_IsAtom:=by
 unfold Fs_IsAtom
 exact mkFn_ok (fn:=Tryz.f89) mix C_ok tab_s_l2Gcd_ok Tryz.func89 (by kernel_rfl) (by kernel_rfl) (by kernel_rfl) (by kernel_rfl) (by decide)
noncomputable def tab_s_IsAtom:Tab:=fun f=>bif f == 89 then some Fs_IsAtom else tab_s_l2Gcd f
theorem tab_s_IsAtom_ok:TabOk Tryz.prog tab_s_IsAtom:=tab_cons tab_s_l2Gcd_ok Fs_IsAtom_ok
noncomputable def Fs_l2Atom:Am.Fn:=mkFn C tab_s_IsAtom [0,1,2,3,4,5,6,8,9,10,26,28,30] 42 (fun k=>bif k == 1 then some 199 else bif k == 2 then some 455 else bif k == 4 then some 1985 else bif k == 6 then some 1985 else bif k == 8 then some 192 else bif k == 9 then some 704 else bif k == 1000004 then some 1857 else none) ⟨fun _ _=>none,fun s=>Nat.testBit 576 s,fun r=>bif r == 6 then [] else bif r == 9 then [27,37,41] else []⟩ [(ty59,.ro),(ty3,.ro),(ty4,.ro)] [(ty85,1),(ty4,0)] [.cell 6 85,.tmp 7] (Tryz.f39.body.getD .skip)
theorem Fs_l2Atom_ok:FnOk Tryz.prog 39 Fs_l2Atom:=by
 unfold Fs_l2Atom
 exact mkFn_ok (fn:=Tryz.f39) mix C_ok tab_s_IsAtom_ok Tryz.func39 (by kernel_rfl) (by kernel_rfl) (by kernel_rfl) (by kernel_rfl) (by decide)
noncomputable def tab_s_l2Atom:Tab:=fun f=>bif f == 39 then some Fs_l2Atom else tab_s_IsAtom f
theorem tab_s_l2Atom_ok:TabOk Tryz.prog tab_s_l2Atom:=tab_cons tab_s_IsAtom_ok Fs_l2Atom_ok
noncomputable def Fs_l8Ends:Am.Fn:=mkFn C tab_s_l2Atom [0,1,2,3,5,6,7,8,9,10,14,19,20,23] 32 (fun k=>bif k == 1 then some 28 else bif k == 2 then some 56 else bif k == 3 then some 176 else none) ⟨fun d i=>bif d == 9 then (bif i == 0 then some 17 else bif i == 1 then some 18 else none) else bif d == 19 then (bif i == 0 then some 27 else bif i == 1 then some 28 else none) else none,fun s=>Nat.testBit 160 s,fun r=>bif r == 5 then [29] else bif r == 7 then [30] else []⟩ [(ty73,.ro),(ty73,.ro)] [(ty78,2)] [.tmp 4] (Tryz.f38.body.getD .skip)
theorem Fs_l8Ends_ok:FnOk Tryz.prog 38 Fs_l8Ends:=by
 unfold Fs_l8Ends
 exact mkFn_ok (fn:=Tryz.f38) mix C_ok tab_s_l2Atom_ok Tryz.func38 (by kernel_rfl) (by kernel_rfl) (by kernel_rfl) (by kernel_rfl) (by decide)
noncomputable def tab_s_l8Ends:Tab:=fun f=>bif f == 38 then some Fs_l8Ends else tab_s_l2Atom f
theorem tab_s_l8Ends_ok:TabOk Tryz.prog tab_s_l8Ends:=tab_cons tab_s_l2Atom_ok Fs_l8Ends_ok
noncomputable def Fs_l2Constant:Am.Fn:=mkFn C tab_s_l8Ends [0,1,3,5,11,12,14] 17 (fun k=>bif k == 2 then some 14 else bif k == 1000002 then some 10 else none) ⟨fun _ _=>none,fun s=>Nat.testBit 2 s,fun r=>bif r == 1 then [6,12,14] else []⟩ [(ty85,.ro)] [(ty4,0)] [.tmp 2] (Tryz.f90.body.getD .skip)
theorem Fs_l2Constant_ok:FnOk Tryz.prog 90 Fs_l2Constant:=by
 unfold Fs_l2Constant
 exact mkFn_ok (fn:=Tryz.f90) mix C_ok tab_s_l8Ends_ok Tryz.func90 (by kernel_rfl) (by kernel_rfl) (by kernel_rfl) (by kernel_rfl) (by decide)
noncomputable def tab_s_l2Constant:Tab:=fun f=>bif f == 90 then some Fs_l2Constant else tab_s_l8Ends f
theorem tab_s_l2Constant_ok:TabOk Tryz.prog tab_s_l2Constant:=tab_cons tab_s_l8Ends_ok Fs_l2Constant_ok
noncomputable def Fs_l2Truth:Am.Fn:=mkFn C tab_s_l2Constant [0,1,3,7,11] 16 (fun _=>none) ⟨fun _ _=>none,fun s=>Nat.testBit 2 s,fun r=>bif r == 1 then [] else []⟩ [(ty85,.ro)] [(ty4,0)] [.tmp 2] (Tryz.f91.body.getD .skip)
theorem Fs_l2Truth_ok:FnOk Tryz.prog 91 Fs_l2Truth:=by
 unfold Fs_l2Truth
 exact mkFn_ok (fn:=Tryz.f91) mix C_ok tab_s_l2Constant_ok Tryz.func91 (by kernel_rfl) (by kernel_rfl) (by kernel_rfl) (by kernel_rfl) (by decide)
noncomputable def tab_s_l2Truth:Tab:=fun f=>bif f == 91 then some Fs_l2Truth else tab_s_l2Constant f
theorem tab_s_l2Truth_ok:TabOk Tryz.prog tab_s_l2Truth:=tab_cons tab_s_l2Constant_ok Fs_l2Truth_ok
noncomputable def Fs_l3None:Am.Fn:=mkFn C tab_s_l2Truth [0,1,2] 9 (fun k=>bif k == 1 then some 5 else none) ⟨fun _ _=>none,fun s=>Nat.testBit 4 s,fun r=>bif r == 2 then [] else []⟩ [(ty3,.ro)] [(ty83,0)] [.cell 2 83] (Tryz.f92.body.getD .skip)
theorem Fs_l3None_ok:FnOk Tryz.prog 92 Fs_l3None:=by
 unfold Fs_l3None
 exact mkFn_ok (fn:=Tryz.f92) mix C_ok tab_s_l2Truth_ok Tryz.func92 (by kernel_rfl) (by kernel_rfl) (by kernel_rfl) (by kernel_rfl) (by decide)
noncomputable def tab_s_l3None:Tab:=fun f=>bif f == 92 then some Fs_l3None else tab_s_l2Truth f
theorem tab_s_l3None_ok:TabOk Tryz.prog tab_s_l3None:=tab_cons tab_s_l2Truth_ok Fs_l3None_ok
noncomputable def Fs_l3Atom:Am.Fn:=mkFn C tab_s_l3None [0,1,2,4,7,9] 12 (fun k=>bif k == 1 then some 6 else none) ⟨fun _ _=>none,fun s=>Nat.testBit 6 s,fun r=>bif r == 1 then [5] else bif r == 2 then [] else []⟩ [(ty85,.ro)] [(ty85,0)] [.cell 2 85] (Tryz.f94.body.getD .skip)
theorem Fs_l3Atom_ok:FnOk Tryz.prog 94 Fs_l3Atom:=by
 unfold Fs_l3Atom
 exact mkFn_ok (fn:=Tryz.f94) mix C_ok tab_s_l3None_ok Tryz.func94 (by kernel_rfl) (by kernel_rfl) (by kernel_rfl) (by kernel_rfl) (by decide)
noncomputable def tab_s_l3Atom:Tab:=fun f=>bif f == 94 then some Fs_l3Atom else tab_s_l3None f
theorem tab_s_l3Atom_ok:TabOk Tryz.prog tab_s_l3Atom:=tab_cons tab_s_l3None_ok Fs_l3Atom_ok
noncomputable def Fs_l2Steep:Am.Fn:=mkFn C tab_s_l3Atom [0,1,3] 6 (fun _=>none) ⟨fun _ _=>none,fun s=>Nat.testBit 2 s,fun r=>bif r == 1 then [4] else []⟩ [(ty85,.ro)] [(ty3,0)] [.tmp 2] (Tryz.f169.body.getD .skip)
theorem Fs_l2Steep_ok:FnOk Tryz.prog 169 Fs_l2Steep:=by
 unfold Fs_l2Steep
 exact mkFn_ok (fn:=Tryz.f169) mix C_ok tab_s_l3Atom_ok Tryz.func169 (by kernel_rfl) (by kernel_rfl) (by kernel_rfl) (by kernel_rfl) (by decide)
noncomputable def tab_s_l2Steep:Tab:=fun f=>bif f == 169 then some Fs_l2Steep else tab_s_l3Atom f
theorem tab_s_l2Steep_ok:TabOk Tryz.prog tab_s_l2Steep:=tab_cons tab_s_l3Atom_ok Fs_l2Steep_ok
noncomputable def Fs_l2Way:Am.Fn:=mkFn C tab_s_l2Steep [0,1,2,3,5,6,7,8,9,17,23,30,31,33,37,38,40] 50 (fun k=>bif k == 1 then some 28 else bif k == 2 then some 60 else bif k == 4 then some 252 else bif k == 1000004 then some 236 else none) ⟨fun _ _=>none,fun s=>Nat.testBit 12 s,fun r=>bif r == 2 then [10,18,31,33] else bif r == 3 then [13,24,38,40] else []⟩ [(ty85,.ro),(ty85,.ro)] [(ty3,0)] [.tmp 4] (Tryz.f132.body.getD .skip)
theorem Fs_l2Way_ok:FnOk Tryz.prog 132 Fs_l2Way:=by
 unfold Fs_l2Way
 exact mkFn_ok (fn:=Tryz.f132) mix C_ok tab_s_l2Steep_ok Tryz.func132 (by kernel_rfl) (by kernel_rfl) (by kernel_rfl) (by kernel_rfl) (by decide)
noncomputable def tab_s_l2Way:Tab:=fun f=>bif f == 132 then some Fs_l2Way else tab_s_l2Steep f
theorem tab_s_l2Way_ok:TabOk Tryz.prog tab_s_l2Way:=tab_cons tab_s_l2Steep_ok Fs_l2Way_ok
noncomputable def Fs_l2Stronger:Am.Fn:=mkFn C tab_s_l2Way [0,1,2,3,5,6,7,13,27,30] 36 (fun k=>bif k == 1 then some 28 else bif k == 2 then some 60 else none) ⟨fun _ _=>none,fun s=>Nat.testBit 12 s,fun r=>bif r == 2 then [15] else bif r == 3 then [9] else []⟩ [(ty85,.ro),(ty85,.ro)] [(ty4,0)] [.tmp 4] (Tryz.f133.body.getD .skip)
theorem Fs_l2Stronger_ok:FnOk Tryz.prog 133 Fs_l2Stronger:=by
 unfold Fs_l2Stronger
 exact mkFn_ok (fn:=Tryz.f133) mix C_ok tab_s_l2Way_ok Tryz.func133 (by kernel_rfl) (by kernel_rfl) (by kernel_rfl) (by kernel_rfl) (by decide)
noncomputable def tab_s_l2Stronger:Tab:=fun f=>bif f == 133 then some Fs_l2Stronger else tab_s_l2Way f
theorem tab_s_l2Stronger_ok:TabOk Tryz.prog tab_s_l2Stronger:=tab_cons tab_s_l2Way_ok Fs_l2Stronger_ok
noncomputable def Fs_l3Put:Am.Fn:=mkFn C tab_s_l2Stronger [0,1,2,3,5,6,12,14,27,29,35,37,45,51,58] 62 (fun k=>bif k == 2 then some 121 else bif k == 4 then some 121 else bif k == 7 then some 121 else bif k == 8 then some 121 else bif k == 10 then some 121 else bif k == 1000002 then some 85720688574901385675874003924800144844912384936442688595500031069628084089994889799455870305255668650207573833404251746014971622855385123487876620597588598431476542198593847883368596840498969135023633457224371799868655530139190140473324351568616503316569571821492337341283438653220995094697645344555049 else none) ⟨fun _ _=>none,fun s=>Nat.testBit 8 s,fun r=>bif r == 3 then [16,31,39,47,55] else []⟩ [(ty78,.ro),(ty85,.ro)] [(ty78,0)] [.tmp 4] (Tryz.f93.body.getD .skip)
theorem Fs_l3Put_ok:FnOk Tryz.prog 93 Fs_l3Put:=by
 unfold Fs_l3Put
 exact mkFn_ok (fn:=Tryz.f93) mix C_ok tab_s_l2Stronger_ok Tryz.func93 (by kernel_rfl) (by kernel_rfl) (by kernel_rfl) (by kernel_rfl) (by decide)
noncomputable def tab_s_l3Put:Tab:=fun f=>bif f == 93 then some Fs_l3Put else tab_s_l2Stronger f
theorem tab_s_l3Put_ok:TabOk Tryz.prog tab_s_l3Put:=tab_cons tab_s_l2Stronger_ok Fs_l3Put_ok
noncomputable def Fs_l3Normal:Am.Fn:=mkFn C tab_s_l3Put [0,1,2,3,4,5,6,15,17,20,22,28,30,32] 38 (fun k=>bif k == 1 then some 19 else bif k == 3 then some 115 else bif k == 7 then some 17 else bif k == 8 then some 115 else bif k == 9 then some 48 else bif k == 1000003 then some 514324131449408314055244023548800869069474309618656131573000186417768504539969338796735221831534011901245443000425510476089829737132310740927259723585531590588859253191563087300211581042993814810141800743346230799211933180835140842839946109411699019899417430928954024047700631919325970568185872067330163 else none) ⟨fun _ _=>none,fun s=>Nat.testBit 48 s,fun r=>bif r == 4 then [] else bif r == 5 then [29,37] else []⟩ [(ty3,.ro),(ty78,.ro)] [(ty83,0)] [.cell 4 83] (Tryz.f40.body.getD .skip)
theorem Fs_l3Normal_ok:FnOk Tryz.prog 40 Fs_l3Normal:=by
 unfold Fs_l3Normal
 exact mkFn_ok (fn:=Tryz.f40) mix C_ok tab_s_l3Put_ok Tryz.func40 (by kernel_rfl) (by kernel_rfl) (by kernel_rfl) (by kernel_rfl) (by decide)
noncomputable def tab_s_l3Normal:Tab:=fun f=>bif f == 40 then some Fs_l3Normal else tab_s_l3Put f
theorem tab_s_l3Normal_ok:TabOk Tryz.prog tab_s_l3Normal:=tab_cons tab_s_l3Put_ok Fs_l3Normal_ok
noncomputable def Fs_TrackRegion:Am.Fn:=mkFn C tab_s_l3Normal [0,1,2,4,5,6,7,8,9,10,11,12,13,14,15,16,17,18,19,33,34,36,42,44,45,46,47,49,51,52,53,54,62,64,66,67,68,69,72,74,75,91,93,100,101,104,105,109,114,115,118,119,123,126,127,130,131,140,146,148] 155 (fun k=>bif k == 2 then some 12 else bif k == 3 then some 13 else bif k == 6 then some 124 else bif k == 8 then some 124 else bif k == 10 then some 2044 else bif k == 14 then some 8188 else bif k == 15 then some 3068 else bif k == 20 then some 12 else bif k == 21 then some 27260 else bif k == 25 then some 125564 else bif k == 26 then some 256636 else bif k == 27 then some 256636 else bif k == 29 then some 12 else bif k == 30 then some 387708 else bif k == 31 then some 21944496275174754733023745004748837080297570543729328280448007953824789527038691788660702798145451174453138901351488446979832735450978591612896414872982681198457994802840025058142360791167736098566050165049439180766375815715632675961171034001565824849041810386302038359368560295224574744242597208206084220 else bif k == 32 then some 28 else bif k == 1000006 then some 2296261390548509048465666402355363968044635404177390400955285473651532522784740627713318972633012539836891929277974925546894237921726110662851862712333306370782599782906245600013775582964800897428578539801269724895632309272927767278946340520809327079418099931163247976178892592112466232990723284439406653626883378179689170112047589696158281178018695530008580054334132516610440162644725625835225357666344131979907928362540435597168080843197063665030817788678041838411099155671793440783201639144332611655107608511674520310566975728388641090178305515677652503508710576016456855416359309075243697022980587636 else bif k == 1000012 then some 237433427782715835611349906003544634295815300791942167458776517975568462855942180905557181770253496619134625487342607301548864201106479842538882604455263878738920817552505795041424395278560412794115021015451289554208380778820731136643051609851684420011831532882279840736897494024429008491240787611034647985019741303779860189585720774582766273807133117802887177618149302217519512817464629711362301982699983246722479792686681040747179559186576382964186559349309526091707652696463441776983049487523992045138126720107145400112625290315385488724436790321069268862800673560101638850051552558380198272176192757748 else bif k == 1000017 then some 237433427782715835611349906003544634295815300791942167458776517975568462855942180905557181770253496619134625487342607301548864201106479842538882604455263878738920817552505795041424395278560412794115021015451289554208380778820731136643051609851684420011831532882279840736897494024429008491240787611034647985019741303779860189585720774582766273807133117802887177618149302217519512817464629711362301982699983246722479792686681040747179559186576382964186559349309526091707652696463441776983049487523992045138126720107145400112625290315385488724436790321069268862800673560101638850051552558380198272176192776820 else bif k == 1000023 then some 237433427782715835611349906003544634295815300791942167458776517975568462855942180905557181770253496619134625487342607301548864201106479842538882604455263878738920817552505795041424395278560412794115021015451289554208380778820731136643051609851684420011831532882279840736897494024429008491240787611034647985019741303779860189585720774582766273807133117802887177618149302217519512817464629711362301982699983246722479792686681040747179559186576382964186559349309526091707652696463441776983049487523992045138126720107145400112625290315385488724436790321069268862800673560101638850051552558380198272176192875124 else none) ⟨fun d i=>bif d == 33 then (bif i == 0 then some 39 else bif i == 1 then some 40 else bif i == 2 then some 41 else none) else bif d == 123 then (bif i == 0 then some 135 else bif i == 1 then some 136 else none) else none,fun s=>Nat.testBit 264212 s,fun r=>bif r == 2 then [] else bif r == 4 then [147,154] else bif r == 11 then [63,141,149] else bif r == 18 then [142] else []⟩ [(ty29,.ro)] [(ty26,0),(ty4,0)] [.cell 2 26,.tmp 3] (Tryz.f7.body.getD .skip)
theorem Fs_TrackRegion_ok:FnOk Tryz.prog 7 Fs_TrackRegion:=by
 unfold Fs_TrackRegion
 exact mkFn_ok (fn:=Tryz.f7) mix C_ok tab_s_l3Normal_ok Tryz.func7 (by kernel_rfl) (by kernel_rfl) (by kernel_rfl) (by kernel_rfl) (by decide)
noncomputable def tab_s_TrackRegion:Tab:=fun f=>bif f == 7 then some Fs_TrackRegion else tab_s_l3Normal f
theorem tab_s_TrackRegion_ok:TabOk Tryz.prog tab_s_TrackRegion:=tab_cons tab_s_l3Normal_ok Fs_TrackRegion_ok
noncomputable def Fi_IsNumber:Am.Fn:=mkFn C tab_s_TrackRegion [0,1] 9 (fun _=>none) ⟨fun _ _=>none,fun s=>Nat.testBit 0 s,fun _=>[]⟩ [(ty3,.ro)] [(ty4,0)] [.tmp 2] (Tryz.f162.body.getD .skip)
theorem Fi_IsNumber_ok:FnOk Tryz.prog 162 Fi_IsNumber:=by
 unfold Fi_IsNumber
 exact mkFn_ok (fn:=Tryz.f162) mix C_ok tab_s_TrackRegion_ok Tryz.func162 (by kernel_rfl) (by kernel_rfl) (by kernel_rfl) (by kernel_rfl) (by decide)
noncomputable def tab_i_IsNumber:Tab:=fun f=>bif f == 162 then some Fi_IsNumber else tab_s_TrackRegion f
theorem tab_i_IsNumber_ok:TabOk Tryz.prog tab_i_IsNumber:=tab_cons tab_s_TrackRegion_ok Fi_IsNumber_ok
noncomputable def Fi_absolute:Am.Fn:=mkFn C tab_i_IsNumber [0,1] 8 (fun _=>none) ⟨fun _ _=>none,fun s=>Nat.testBit 0 s,fun _=>[]⟩ [(ty3,.ro)] [(ty3,0)] [.tmp 2] (Tryz.f173.body.getD .skip)
theorem Fi_absolute_ok:FnOk Tryz.prog 173 Fi_absolute:=by
 unfold Fi_absolute
 exact mkFn_ok (fn:=Tryz.f173) mix C_ok tab_i_IsNumber_ok Tryz.func173 (by kernel_rfl) (by kernel_rfl) (by kernel_rfl) (by kernel_rfl) (by decide)
noncomputable def tab_i_absolute:Tab:=fun f=>bif f == 173 then some Fi_absolute else tab_i_IsNumber f
theorem tab_i_absolute_ok:TabOk Tryz.prog tab_i_absolute:=tab_cons tab_i_IsNumber_ok Fi_absolute_ok
noncomputable def Fi_commonDivisor:Am.Fn:=mkFn C tab_i_absolute [0,1,2,3] 16 (fun k=>bif k == 1000002 then some 3 else none) ⟨fun _ _=>none,fun s=>Nat.testBit 0 s,fun _=>[]⟩ [(ty3,.ro),(ty3,.ro)] [(ty3,0)] [.tmp 4] (Tryz.f137.body.getD .skip)
theorem Fi_commonDivisor_ok:FnOk Tryz.prog 137 Fi_commonDivisor:=by
 unfold Fi_commonDivisor
 exact mkFn_ok (fn:=Tryz.f137) mix C_ok tab_i_absolute_ok Tryz.func137 (by kernel_rfl) (by kernel_rfl) (by kernel_rfl) (by kernel_rfl) (by decide)
noncomputable def tab_i_commonDivisor:Tab:=fun f=>bif f == 137 then some Fi_commonDivisor else tab_i_absolute f
theorem tab_i_commonDivisor_ok:TabOk Tryz.prog tab_i_commonDivisor:=tab_cons tab_i_absolute_ok Fi_commonDivisor_ok
noncomputable def Fi_GcdOf:Am.Fn:=mkFn C tab_i_commonDivisor [0,1,2,3] 16 (fun _=>none) ⟨fun _ _=>none,fun s=>Nat.testBit 0 s,fun _=>[]⟩ [(ty3,.ro),(ty3,.ro)] [(ty3,0)] [.tmp 4] (Tryz.f163.body.getD .skip)
theorem Fi_GcdOf_ok:FnOk Tryz.prog 163 Fi_GcdOf:=by
 unfold Fi_GcdOf
 exact mkFn_ok (fn:=Tryz.f163) mix C_ok tab_i_commonDivisor_ok Tryz.func163 (by kernel_rfl) (by kernel_rfl) (by kernel_rfl) (by kernel_rfl) (by decide)
noncomputable def tab_i_GcdOf:Tab:=fun f=>bif f == 163 then some Fi_GcdOf else tab_i_commonDivisor f
theorem tab_i_GcdOf_ok:TabOk Tryz.prog tab_i_GcdOf:=tab_cons tab_i_commonDivisor_ok Fi_GcdOf_ok
noncomputable def Fi_IsRatio:Am.Fn:=mkFn C tab_i_GcdOf [0,1,3,7,12,17,19] 24 (fun _=>none) ⟨fun _ _=>none,fun s=>Nat.testBit 0 s,fun _=>[]⟩ [(ty73,.ro)] [(ty4,0)] [.tmp 2] (Tryz.f126.body.getD .skip)
theorem Fi_IsRatio_ok:FnOk Tryz.prog 126 Fi_IsRatio:=by
 unfold Fi_IsRatio
 exact mkFn_ok (fn:=Tryz.f126) mix C_ok tab_i_GcdOf_ok Tryz.func126 (by kernel_rfl) (by kernel_rfl) (by kernel_rfl) (by kernel_rfl) (by decide)
noncomputable def tab_i_IsRatio:Tab:=fun f=>bif f == 126 then some Fi_IsRatio else tab_i_GcdOf f
theorem tab_i_IsRatio_ok:TabOk Tryz.prog tab_i_IsRatio:=tab_cons tab_i_GcdOf_ok Fi_IsRatio_ok
noncomputable def Fi_CompareRatios:Am.Fn:=mkFn C tab_i_IsRatio [0,1,2,3,5,6,15,17,20,22] 31 (fun _=>none) ⟨fun _ _=>none,fun s=>Nat.testBit 0 s,fun _=>[]⟩ [(ty73,.ro),(ty73,.ro)] [(ty3,0)] [.tmp 4] (Tryz.f134.body.getD .skip)
theorem Fi_CompareRatios_ok:FnOk Tryz.prog 134 Fi_CompareRatios:=by
 unfold Fi_CompareRatios
 exact mkFn_ok (fn:=Tryz.f134) mix C_ok tab_i_IsRatio_ok Tryz.func134 (by kernel_rfl) (by kernel_rfl) (by kernel_rfl) (by kernel_rfl) (by decide)
noncomputable def tab_i_CompareRatios:Tab:=fun f=>bif f == 134 then some Fi_CompareRatios else tab_i_IsRatio f
theorem tab_i_CompareRatios_ok:TabOk Tryz.prog tab_i_CompareRatios:=tab_cons tab_i_IsRatio_ok Fi_CompareRatios_ok
noncomputable def Fi_IsTrack:Am.Fn:=mkFn C tab_i_CompareRatios [0,1,3,4,13,18,20,25,31,39,42,43,45] 51 (fun k=>bif k == 1000004 then some 57345 else none) ⟨fun _ _=>none,fun s=>Nat.testBit 0 s,fun _=>[]⟩ [(ty29,.ro)] [(ty4,0)] [.tmp 2] (Tryz.f95.body.getD .skip)
theorem Fi_IsTrack_ok:FnOk Tryz.prog 95 Fi_IsTrack:=by
 unfold Fi_IsTrack
 exact mkFn_ok (fn:=Tryz.f95) mix C_ok tab_i_CompareRatios_ok Tryz.func95 (by kernel_rfl) (by kernel_rfl) (by kernel_rfl) (by kernel_rfl) (by decide)
noncomputable def tab_i_IsTrack:Tab:=fun f=>bif f == 95 then some Fi_IsTrack else tab_i_CompareRatios f
theorem tab_i_IsTrack_ok:TabOk Tryz.prog tab_i_IsTrack:=tab_cons tab_i_CompareRatios_ok Fi_IsTrack_ok
noncomputable def Fi_NegateRatio:Am.Fn:=mkFn C tab_i_IsTrack [0,1,2,7,10] 13 (fun _=>none) ⟨fun _ _=>none,fun s=>Nat.testBit 0 s,fun _=>[]⟩ [(ty73,.ro)] [(ty73,0)] [.cell 2 73] (Tryz.f194.body.getD .skip)
theorem Fi_NegateRatio_ok:FnOk Tryz.prog 194 Fi_NegateRatio:=by
 unfold Fi_NegateRatio
 exact mkFn_ok (fn:=Tryz.f194) mix C_ok tab_i_IsTrack_ok Tryz.func194 (by kernel_rfl) (by kernel_rfl) (by kernel_rfl) (by kernel_rfl) (by decide)
noncomputable def tab_i_NegateRatio:Tab:=fun f=>bif f == 194 then some Fi_NegateRatio else tab_i_IsTrack f
theorem tab_i_NegateRatio_ok:TabOk Tryz.prog tab_i_NegateRatio:=tab_cons tab_i_IsTrack_ok Fi_NegateRatio_ok
noncomputable def Fi_reducedRatio:Am.Fn:=mkFn C tab_i_NegateRatio [0,1,2,3,4,5,6] 31 (fun _=>none) ⟨fun _ _=>none,fun s=>Nat.testBit 0 s,fun _=>[]⟩ [(ty3,.ro),(ty3,.ro)] [(ty73,0)] [.cell 4 73] (Tryz.f193.body.getD .skip)
theorem Fi_reducedRatio_ok:FnOk Tryz.prog 193 Fi_reducedRatio:=by
 unfold Fi_reducedRatio
 exact mkFn_ok (fn:=Tryz.f193) mix C_ok tab_i_NegateRatio_ok Tryz.func193 (by kernel_rfl) (by kernel_rfl) (by kernel_rfl) (by kernel_rfl) (by decide)
noncomputable def tab_i_reducedRatio:Tab:=fun f=>bif f == 193 then some Fi_reducedRatio else tab_i_NegateRatio f
theorem tab_i_reducedRatio_ok:TabOk Tryz.prog tab_i_reducedRatio:=tab_cons tab_i_NegateRatio_ok Fi_reducedRatio_ok
noncomputable def Fi_AddRatios:Am.Fn:=mkFn C tab_i_reducedRatio [0,1,2,3,4,14,16,19,21,25,27] 31 (fun _=>none) ⟨fun _ _=>none,fun s=>Nat.testBit 0 s,fun _=>[]⟩ [(ty73,.ro),(ty73,.ro)] [(ty73,0)] [.cell 4 73] (Tryz.f191.body.getD .skip)
theorem Fi_AddRatios_ok:FnOk Tryz.prog 191 Fi_AddRatios:=by
 unfold Fi_AddRatios
 exact mkFn_ok (fn:=Tryz.f191) mix C_ok tab_i_reducedRatio_ok Tryz.func191 (by kernel_rfl) (by kernel_rfl) (by kernel_rfl) (by kernel_rfl) (by decide)
noncomputable def tab_i_AddRatios:Tab:=fun f=>bif f == 191 then some Fi_AddRatios else tab_i_reducedRatio f
theorem tab_i_AddRatios_ok:TabOk Tryz.prog tab_i_AddRatios:=tab_cons tab_i_reducedRatio_ok Fi_AddRatios_ok
noncomputable def Fi_subtractRatios:Am.Fn:=mkFn C tab_i_AddRatios [0,1,2,3,4] 9 (fun _=>none) ⟨fun _ _=>none,fun s=>Nat.testBit 0 s,fun _=>[]⟩ [(ty73,.ro),(ty73,.ro)] [(ty73,0)] [.cell 4 73] (Tryz.f171.body.getD .skip)
theorem Fi_subtractRatios_ok:FnOk Tryz.prog 171 Fi_subtractRatios:=by
 unfold Fi_subtractRatios
 exact mkFn_ok (fn:=Tryz.f171) mix C_ok tab_i_AddRatios_ok Tryz.func171 (by kernel_rfl) (by kernel_rfl) (by kernel_rfl) (by kernel_rfl) (by decide)
noncomputable def tab_i_subtractRatios:Tab:=fun f=>bif f == 171 then some Fi_subtractRatios else tab_i_AddRatios f
theorem tab_i_subtractRatios_ok:TabOk Tryz.prog tab_i_subtractRatios:=tab_cons tab_i_AddRatios_ok Fi_subtractRatios_ok
noncomputable def Fi_DivideRatios:Am.Fn:=mkFn C tab_i_subtractRatios [0,1,2,3,4,14,19,21,24,26] 30 (fun _=>none) ⟨fun _ _=>none,fun s=>Nat.testBit 0 s,fun _=>[]⟩ [(ty73,.ro),(ty73,.ro)] [(ty73,0)] [.cell 4 73] (Tryz.f170.body.getD .skip)
theorem Fi_DivideRatios_ok:FnOk Tryz.prog 170 Fi_DivideRatios:=by
 unfold Fi_DivideRatios
 exact mkFn_ok (fn:=Tryz.f170) mix C_ok tab_i_subtractRatios_ok Tryz.func170 (by kernel_rfl) (by kernel_rfl) (by kernel_rfl) (by kernel_rfl) (by decide)
noncomputable def tab_i_DivideRatios:Tab:=fun f=>bif f == 170 then some Fi_DivideRatios else tab_i_subtractRatios f
theorem tab_i_DivideRatios_ok:TabOk Tryz.prog tab_i_DivideRatios:=tab_cons tab_i_subtractRatios_ok Fi_DivideRatios_ok
noncomputable def Fi_MultiplyRatios:Am.Fn:=mkFn C tab_i_DivideRatios [0,1,2,3,4,14,16,19,21] 25 (fun _=>none) ⟨fun _ _=>none,fun s=>Nat.testBit 0 s,fun _=>[]⟩ [(ty73,.ro),(ty73,.ro)] [(ty73,0)] [.cell 4 73] (Tryz.f172.body.getD .skip)
theorem Fi_MultiplyRatios_ok:FnOk Tryz.prog 172 Fi_MultiplyRatios:=by
 unfold Fi_MultiplyRatios
 exact mkFn_ok (fn:=Tryz.f172) mix C_ok tab_i_DivideRatios_ok Tryz.func172 (by kernel_rfl) (by kernel_rfl) (by kernel_rfl) (by kernel_rfl) (by decide)
noncomputable def tab_i_MultiplyRatios:Tab:=fun f=>bif f == 172 then some Fi_MultiplyRatios else tab_i_DivideRatios f
theorem tab_i_MultiplyRatios_ok:TabOk Tryz.prog tab_i_MultiplyRatios:=tab_cons tab_i_DivideRatios_ok Fi_MultiplyRatios_ok
noncomputable def Fi_lineBetween:Am.Fn:=mkFn C tab_i_MultiplyRatios [0,1,2,3,4,5,6,7,8,9] 24 (fun _=>none) ⟨fun _ _=>none,fun s=>Nat.testBit 0 s,fun _=>[]⟩ [(ty73,.ro),(ty73,.ro),(ty73,.ro),(ty73,.ro)] [(ty98,0)] [.cell 8 98] (Tryz.f135.body.getD .skip)
theorem Fi_lineBetween_ok:FnOk Tryz.prog 135 Fi_lineBetween:=by
 unfold Fi_lineBetween
 exact mkFn_ok (fn:=Tryz.f135) mix C_ok tab_i_MultiplyRatios_ok Tryz.func135 (by kernel_rfl) (by kernel_rfl) (by kernel_rfl) (by kernel_rfl) (by decide)
noncomputable def tab_i_lineBetween:Tab:=fun f=>bif f == 135 then some Fi_lineBetween else tab_i_MultiplyRatios f
theorem tab_i_lineBetween_ok:TabOk Tryz.prog tab_i_lineBetween:=tab_cons tab_i_MultiplyRatios_ok Fi_lineBetween_ok
noncomputable def Fi_line_valid:Am.Fn:=mkFn C tab_i_lineBetween [0,1,3,7] 11 (fun _=>none) ⟨fun _ _=>none,fun s=>Nat.testBit 0 s,fun _=>[]⟩ [(ty98,.ro)] [(ty4,0)] [.tmp 2] (Tryz.f136.body.getD .skip)
theorem Fi_line_valid_ok:FnOk Tryz.prog 136 Fi_line_valid:=by
 unfold Fi_line_valid
 exact mkFn_ok (fn:=Tryz.f136) mix C_ok tab_i_lineBetween_ok Tryz.func136 (by kernel_rfl) (by kernel_rfl) (by kernel_rfl) (by kernel_rfl) (by decide)
noncomputable def tab_i_line_valid:Tab:=fun f=>bif f == 136 then some Fi_line_valid else tab_i_lineBetween f
theorem tab_i_line_valid_ok:TabOk Tryz.prog tab_i_line_valid:=tab_cons tab_i_lineBetween_ok Fi_line_valid_ok
noncomputable def Fi_legBetween:Am.Fn:=mkFn C tab_i_line_valid [0,1,2,3,4,6,7,9,11,13,15,17,20,22,24,26,31,35] 39 (fun _=>none) ⟨fun _ _=>none,fun s=>Nat.testBit 0 s,fun _=>[]⟩ [(ty81,.ro),(ty81,.ro)] [(ty100,0),(ty4,0)] [.cell 4 100,.tmp 5] (Tryz.f96.body.getD .skip)
theorem Fi_legBetween_ok:FnOk Tryz.prog 96 Fi_legBetween:=by
 unfold Fi_legBetween
 exact mkFn_ok (fn:=Tryz.f96) mix C_ok tab_i_line_valid_ok Tryz.func96 (by kernel_rfl) (by kernel_rfl) (by kernel_rfl) (by kernel_rfl) (by decide)
noncomputable def tab_i_legBetween:Tab:=fun f=>bif f == 96 then some Fi_legBetween else tab_i_line_valid f
theorem tab_i_legBetween_ok:TabOk Tryz.prog tab_i_legBetween:=tab_cons tab_i_line_valid_ok Fi_legBetween_ok
noncomputable def Fi_legsOf:Am.Fn:=mkFn C tab_i_legBetween [0,1,4,5,6,7,8,9,16,17,20,22,25,29,41,42,45,47,49] 61 (fun k=>bif k == 1000008 then some 193 else none) ⟨fun d i=>bif d == 41 then (bif i == 0 then some 52 else bif i == 1 then some 53 else none) else none,fun s=>Nat.testBit 0 s,fun _=>[]⟩ [(ty29,.ro)] [(ty94,1),(ty4,0)] [.tmp 2,.tmp 3] (Tryz.f42.body.getD .skip)
theorem Fi_legsOf_ok:FnOk Tryz.prog 42 Fi_legsOf:=by
 unfold Fi_legsOf
 exact mkFn_ok (fn:=Tryz.f42) mix C_ok tab_i_legBetween_ok Tryz.func42 (by kernel_rfl) (by kernel_rfl) (by kernel_rfl) (by kernel_rfl) (by decide)
noncomputable def tab_i_legsOf:Tab:=fun f=>bif f == 42 then some Fi_legsOf else tab_i_legBetween f
theorem tab_i_legsOf_ok:TabOk Tryz.prog tab_i_legsOf:=tab_cons tab_i_legBetween_ok Fi_legsOf_ok
noncomputable def Fi_leg_during:Am.Fn:=mkFn C tab_i_legsOf [0,1,2,3,5,6,11,12,13,14,17,18,23,24,28,29] 34 (fun _=>none) ⟨fun _ _=>none,fun s=>Nat.testBit 13559683508538489953618012803355014403221403281771594721411405624228334430489992120557655612640430653184217908009411143945363568454718016480253233829757432649380970673779078305140287965932643878659855828412607080245098676675793027451286451451666630408171526935254406732950296390924611165487908881571149346358486939286852155349908777684465426015189441004143870571091600709935770166960978688772796225751061680514501657230112493847354983226460431552553006067100806620826207650338288875596080245311059820862203575134080848455072149293209385559445826955745941066295507054873664617750931738870607112349495766769000689203411769286645613358597868457832289777736317570177233725044485775008888020959489752183104663563186865593501246834771057060450846604347160378987437431093888421050516571580046389238492028424344021034383577707194370791992512831386271925865951797470331731856109525101863859750873232334271172167076463295883975540461060888053007863211068749287373047147238742118217924347062348196187935295018704917969135714150382593997199160328644013947380523843729484961546833542247263457854970650331588114484318601582883361500641485599794955497482377602265089185034729510592293781556404633952417366548031932036905349692184917201372112981476520559828142379195106421075566047765346256501648294440501549027117607564591766526871674252224372226660219210232538906309836630539527081749771979539040745699246000645124474549551427227264201694123484547819715616189051456409394757010458915662188687758129905360232728050423300096 s,fun r=>bif r == 5 then [11,20,22] else bif r == 6 then [12,21,27] else []⟩ [(ty100,.ro),(ty3,.ro)] [(ty78,2)] [.tmp 4] (Tryz.f43.body.getD .skip)
theorem Fi_leg_during_ok:FnOk Tryz.prog 43 Fi_leg_during:=by
 unfold Fi_leg_during
 exact mkFn_ok (fn:=Tryz.f43) mix C_ok tab_i_legsOf_ok Tryz.func43 (by kernel_rfl) (by kernel_rfl) (by kernel_rfl) (by kernel_rfl) (by decide)
noncomputable def tab_i_leg_during:Tab:=fun f=>bif f == 43 then some Fi_leg_during else tab_i_legsOf f
theorem tab_i_leg_during_ok:TabOk Tryz.prog tab_i_leg_during:=tab_cons tab_i_legsOf_ok Fi_leg_during_ok
noncomputable def Fi_divisorOf:Am.Fn:=mkFn C tab_i_leg_during [0,1,3,4,5,6,10] 17 (fun k=>bif k == 1000003 then some 457 else none) ⟨fun _ _=>none,fun s=>Nat.testBit 0 s,fun _=>[]⟩ [(ty59,.ro)] [(ty3,0)] [.tmp 2] (Tryz.f138.body.getD .skip)
theorem Fi_divisorOf_ok:FnOk Tryz.prog 138 Fi_divisorOf:=by
 unfold Fi_divisorOf
 exact mkFn_ok (fn:=Tryz.f138) mix C_ok tab_i_leg_during_ok Tryz.func138 (by kernel_rfl) (by kernel_rfl) (by kernel_rfl) (by kernel_rfl) (by decide)
noncomputable def tab_i_divisorOf:Tab:=fun f=>bif f == 138 then some Fi_divisorOf else tab_i_leg_during f
theorem tab_i_divisorOf_ok:TabOk Tryz.prog tab_i_divisorOf:=tab_cons tab_i_leg_during_ok Fi_divisorOf_ok
noncomputable def Fi_IsAtom:Am.Fn:=mkFn C tab_i_divisorOf [0,1,3,4,5,10,15,16,20,26,29] 33 (fun k=>bif k == 1 then some 6 else bif k == 3 then some 6 else bif k == 1000004 then some 458754 else none) ⟨fun _ _=>none,fun s=>Nat.testBit 2 s,fun r=>bif r == 1 then [6,16,20,27] else []⟩ [(ty85,.ro)] [(ty4,0)] [.tmp 2] (Tryz.f139.body.getD .skip)
theorem Fi_IsAtom_ok:FnOk Tryz.prog 139 Fi_IsAtom:=by
 unfold Fi_IsAtom
 exact mkFn_ok (fn:=Tryz.f139) mix C_ok tab_i_divisorOf_ok Tryz.func139 (by kernel_rfl) (by kernel_rfl) (by kernel_rfl) (by kernel_rfl) (by decide)
noncomputable def tab_i_IsAtom:Tab:=fun f=>bif f == 139 then some Fi_IsAtom else tab_i_divisorOf f
theorem tab_i_IsAtom_ok:TabOk Tryz.prog tab_i_IsAtom:=tab_cons tab_i_divisorOf_ok Fi_IsAtom_ok
noncomputable def Fi_makeOf:Am.Fn:=mkFn C tab_i_IsAtom [0,1,2,3,4,5,6,8,9,10,11,26,31,33,34] 46 (fun k=>bif k == 4 then some 455 else bif k == 5 then some 961 else bif k == 8 then some 469766081 else bif k == 11 then some 192 else bif k == 12 then some 704 else bif k == 1000006 then some 469762881 else none) ⟨fun _ _=>none,fun s=>Nat.testBit 576 s,fun r=>bif r == 6 then [] else bif r == 9 then [34,39,41,45] else []⟩ [(ty59,.ro),(ty3,.ro),(ty4,.ro)] [(ty85,1),(ty4,0)] [.cell 6 85,.tmp 7] (Tryz.f97.body.getD .skip)
theorem Fi_makeOf_ok:FnOk Tryz.prog 97 Fi_makeOf:=by
 unfold Fi_makeOf
 exact mkFn_ok (fn:=Tryz.f97) mix C_ok tab_i_IsAtom_ok Tryz.func97 (by kernel_rfl) (by kernel_rfl) (by kernel_rfl) (by kernel_rfl) (by decide)
noncomputable def tab_i_makeOf:Tab:=fun f=>bif f == 97 then some Fi_makeOf else tab_i_IsAtom f
theorem tab_i_makeOf_ok:TabOk Tryz.prog tab_i_makeOf:=tab_cons tab_i_IsAtom_ok Fi_makeOf_ok
noncomputable def Fi_onLine:Am.Fn:=mkFn C tab_i_makeOf [0,1,2,3,6,7,8,9,10,11,13,17,20,23,24,27,28,32,35,36,39,40,44,48,49,52,53] 67 (fun k=>bif k == 1 then some 118 else bif k == 2 then some 118 else bif k == 6 then some 58230 else bif k == 7 then some 58230 else bif k == 8 then some 58230 else bif k == 11 then some 58486 else bif k == 1000003 then some 57414 else none) ⟨fun d i=>bif d == 44 then (bif i == 0 then some 57 else bif i == 1 then some 58 else none) else none,fun s=>Nat.testBit 1024 s,fun r=>bif r == 10 then [62] else []⟩ [(ty98,.ro),(ty3,.ro)] [(ty78,2),(ty4,0)] [.tmp 4,.tmp 5] (Tryz.f44.body.getD .skip)
theorem Fi_onLine_ok:FnOk Tryz.prog 44 Fi_onLine:=by
 unfold Fi_onLine
 exact mkFn_ok (fn:=Tryz.f44) mix C_ok tab_i_makeOf_ok Tryz.func44 (by kernel_rfl) (by kernel_rfl) (by kernel_rfl) (by kernel_rfl) (by decide)
noncomputable def tab_i_onLine:Tab:=fun f=>bif f == 44 then some Fi_onLine else tab_i_makeOf f
theorem tab_i_onLine_ok:TabOk Tryz.prog tab_i_onLine:=tab_cons tab_i_makeOf_ok Fi_onLine_ok
noncomputable def Fi_hasVariables:Am.Fn:=mkFn C tab_i_onLine [0,1,3] 7 (fun _=>none) ⟨fun _ _=>none,fun s=>Nat.testBit 2 s,fun r=>bif r == 1 then [4] else []⟩ [(ty85,.ro)] [(ty4,0)] [.tmp 2] (Tryz.f98.body.getD .skip)
theorem Fi_hasVariables_ok:FnOk Tryz.prog 98 Fi_hasVariables:=by
 unfold Fi_hasVariables
 exact mkFn_ok (fn:=Tryz.f98) mix C_ok tab_i_onLine_ok Tryz.func98 (by kernel_rfl) (by kernel_rfl) (by kernel_rfl) (by kernel_rfl) (by decide)
noncomputable def tab_i_hasVariables:Tab:=fun f=>bif f == 98 then some Fi_hasVariables else tab_i_onLine f
theorem tab_i_hasVariables_ok:TabOk Tryz.prog tab_i_hasVariables:=tab_cons tab_i_onLine_ok Fi_hasVariables_ok
noncomputable def Fi_emptyCell:Am.Fn:=mkFn C tab_i_hasVariables [0,1,2] 9 (fun k=>bif k == 1 then some 5 else none) ⟨fun _ _=>none,fun s=>Nat.testBit 4 s,fun r=>bif r == 2 then [] else []⟩ [(ty3,.ro)] [(ty83,2)] [.cell 2 83] (Tryz.f99.body.getD .skip)
theorem Fi_emptyCell_ok:FnOk Tryz.prog 99 Fi_emptyCell:=by
 unfold Fi_emptyCell
 exact mkFn_ok (fn:=Tryz.f99) mix C_ok tab_i_hasVariables_ok Tryz.func99 (by kernel_rfl) (by kernel_rfl) (by kernel_rfl) (by kernel_rfl) (by decide)
noncomputable def tab_i_emptyCell:Tab:=fun f=>bif f == 99 then some Fi_emptyCell else tab_i_hasVariables f
theorem tab_i_emptyCell_ok:TabOk Tryz.prog tab_i_emptyCell:=tab_cons tab_i_hasVariables_ok Fi_emptyCell_ok
noncomputable def Fi_copyNumbers:Am.Fn:=mkFn C tab_i_emptyCell [0,1] 6 (fun _=>none) ⟨fun _ _=>none,fun s=>Nat.testBit 0 s,fun _=>[]⟩ [(ty59,.ro)] [(ty59,1)] [.tmp 2] (Tryz.f140.body.getD .skip)
theorem Fi_copyNumbers_ok:FnOk Tryz.prog 140 Fi_copyNumbers:=by
 unfold Fi_copyNumbers
 exact mkFn_ok (fn:=Tryz.f140) mix C_ok tab_i_emptyCell_ok Tryz.func140 (by kernel_rfl) (by kernel_rfl) (by kernel_rfl) (by kernel_rfl) (by decide)
noncomputable def tab_i_copyNumbers:Tab:=fun f=>bif f == 140 then some Fi_copyNumbers else tab_i_emptyCell f
theorem tab_i_copyNumbers_ok:TabOk Tryz.prog tab_i_copyNumbers:=tab_cons tab_i_emptyCell_ok Fi_copyNumbers_ok
noncomputable def Fi_copyAtom:Am.Fn:=mkFn C tab_i_copyNumbers [0,1,2,3,6,8] 11 (fun k=>bif k == 1 then some 6 else none) ⟨fun _ _=>none,fun s=>Nat.testBit 6 s,fun r=>bif r == 1 then [4] else bif r == 2 then [] else []⟩ [(ty85,.ro)] [(ty85,1)] [.cell 2 85] (Tryz.f100.body.getD .skip)
theorem Fi_copyAtom_ok:FnOk Tryz.prog 100 Fi_copyAtom:=by
 unfold Fi_copyAtom
 exact mkFn_ok (fn:=Tryz.f100) mix C_ok tab_i_copyNumbers_ok Tryz.func100 (by kernel_rfl) (by kernel_rfl) (by kernel_rfl) (by kernel_rfl) (by decide)
noncomputable def tab_i_copyAtom:Tab:=fun f=>bif f == 100 then some Fi_copyAtom else tab_i_copyNumbers f
theorem tab_i_copyAtom_ok:TabOk Tryz.prog tab_i_copyAtom:=tab_cons tab_i_copyNumbers_ok Fi_copyAtom_ok
noncomputable def Fi_directionDivisor:Am.Fn:=mkFn C tab_i_copyAtom [0,1,3,4] 10 (fun _=>none) ⟨fun _ _=>none,fun s=>Nat.testBit 2 s,fun r=>bif r == 1 then [5] else []⟩ [(ty85,.ro)] [(ty3,0)] [.tmp 2] (Tryz.f144.body.getD .skip)
theorem Fi_directionDivisor_ok:FnOk Tryz.prog 144 Fi_directionDivisor:=by
 unfold Fi_directionDivisor
 exact mkFn_ok (fn:=Tryz.f144) mix C_ok tab_i_copyAtom_ok Tryz.func144 (by kernel_rfl) (by kernel_rfl) (by kernel_rfl) (by kernel_rfl) (by decide)
noncomputable def tab_i_directionDivisor:Tab:=fun f=>bif f == 144 then some Fi_directionDivisor else tab_i_copyAtom f
theorem tab_i_directionDivisor_ok:TabOk Tryz.prog tab_i_directionDivisor:=tab_cons tab_i_copyAtom_ok Fi_directionDivisor_ok
noncomputable def Fi_sign:Am.Fn:=mkFn C tab_i_directionDivisor [0,1,2,3] 11 (fun _=>none) ⟨fun _ _=>none,fun s=>Nat.testBit 0 s,fun _=>[]⟩ [(ty3,.ro),(ty3,.ro)] [(ty3,0)] [.tmp 4] (Tryz.f143.body.getD .skip)
theorem Fi_sign_ok:FnOk Tryz.prog 143 Fi_sign:=by
 unfold Fi_sign
 exact mkFn_ok (fn:=Tryz.f143) mix C_ok tab_i_directionDivisor_ok Tryz.func143 (by kernel_rfl) (by kernel_rfl) (by kernel_rfl) (by kernel_rfl) (by decide)
noncomputable def tab_i_sign:Tab:=fun f=>bif f == 143 then some Fi_sign else tab_i_directionDivisor f
theorem tab_i_sign_ok:TabOk Tryz.prog tab_i_sign:=tab_cons tab_i_directionDivisor_ok Fi_sign_ok
noncomputable def Fi_compareDirections:Am.Fn:=mkFn C tab_i_sign [0,1,2,3,5,6,7,8,13,19,20,22,26,27,29] 38 (fun k=>bif k == 2 then some 124 else bif k == 1000003 then some 98412 else none) ⟨fun _ _=>none,fun s=>Nat.testBit 12 s,fun r=>bif r == 2 then [9,14,20,22] else bif r == 3 then [11,27,29] else []⟩ [(ty85,.ro),(ty85,.ro)] [(ty3,0)] [.tmp 4] (Tryz.f103.body.getD .skip)
theorem Fi_compareDirections_ok:FnOk Tryz.prog 103 Fi_compareDirections:=by
 unfold Fi_compareDirections
 exact mkFn_ok (fn:=Tryz.f103) mix C_ok tab_i_sign_ok Tryz.func103 (by kernel_rfl) (by kernel_rfl) (by kernel_rfl) (by kernel_rfl) (by decide)
noncomputable def tab_i_compareDirections:Tab:=fun f=>bif f == 103 then some Fi_compareDirections else tab_i_sign f
theorem tab_i_compareDirections_ok:TabOk Tryz.prog tab_i_compareDirections:=tab_cons tab_i_sign_ok Fi_compareDirections_ok
noncomputable def Fi_CompareAtoms:Am.Fn:=mkFn C tab_i_compareDirections [0,1,2,3,5,6,16,19,30,35,44,46,49] 51 (fun k=>bif k == 1 then some 28 else none) ⟨fun _ _=>none,fun s=>Nat.testBit 12 s,fun r=>bif r == 2 then [7,17,24,37] else bif r == 3 then [11,20,25,32] else []⟩ [(ty85,.ro),(ty85,.ro)] [(ty3,0)] [.tmp 4] (Tryz.f102.body.getD .skip)
theorem Fi_CompareAtoms_ok:FnOk Tryz.prog 102 Fi_CompareAtoms:=by
 unfold Fi_CompareAtoms
 exact mkFn_ok (fn:=Tryz.f102) mix C_ok tab_i_compareDirections_ok Tryz.func102 (by kernel_rfl) (by kernel_rfl) (by kernel_rfl) (by kernel_rfl) (by decide)
noncomputable def tab_i_CompareAtoms:Tab:=fun f=>bif f == 102 then some Fi_CompareAtoms else tab_i_compareDirections f
theorem tab_i_CompareAtoms_ok:TabOk Tryz.prog tab_i_CompareAtoms:=tab_cons tab_i_compareDirections_ok Fi_CompareAtoms_ok
noncomputable def semslices__SortFunc_loop_example_g03413_impl_Atom_loop_example_g03413_impl_Atom:(pTy [(.agg (.pair ty59 (.pair ty3 ty4)),.ro),(.agg (.pair ty59 (.pair ty3 ty4)),.ro)]).den→Option (Ty.pair (rTy [(.int .i64,0)]) (mTy [(.agg (.pair ty59 (.pair ty3 ty4)),.ro),(.agg (.pair ty59 (.pair ty3 ty4)),.ro)])).den:=Fi_CompareAtoms.sem
theorem semslices__SortFunc_loop_example_g03413_impl_Atom_loop_example_g03413_impl_Atom_is:Fi_CompareAtoms=⟨[(.agg (.pair ty59 (.pair ty3 ty4)),.ro),(.agg (.pair ty59 (.pair ty3 ty4)),.ro)],[(.int .i64,0)],semslices__SortFunc_loop_example_g03413_impl_Atom_loop_example_g03413_impl_Atom⟩:=by kernel_rfl
noncomputable def Fslices__SortFunc_loop_example_g03413_impl_Atom_loop_example_g03413_impl_Atom:Am.Fn:=⟨[(.slice 85 (.agg (.pair ty59 (.pair ty3 ty4))),.mut 2),(.raw 1,.ro)],[],sortSem 85 (.pair ty59 (.pair ty3 ty4)) 2 102 semslices__SortFunc_loop_example_g03413_impl_Atom_loop_example_g03413_impl_Atom⟩
theorem Fslices__SortFunc_loop_example_g03413_impl_Atom_loop_example_g03413_impl_Atom_ok:FnOk Tryz.prog 101 Fslices__SortFunc_loop_example_g03413_impl_Atom_loop_example_g03413_impl_Atom:=by
 have e6:Tryz.sortL_ren.f 6=101:=by kernel_rfl
 have e24:Tryz.sortL_ren.t 24=85:=by kernel_rfl
 have h:=sort_ok (e:=85) (u:=(.pair ty59 (.pair ty3 ty4))) (n:=2) (g:=102) Tryz.sortL (by decide) (by decide) (by rw [e24]; exact Tryz.isAgg85) (by rw [e24]; exact Tryz.sizeOf85) (by rw [e6]; exact ⟨_,Tryz.func101,by kernel_rfl,by kernel_rfl⟩) (enters_of Tryz.func102 (by kernel_rfl) rfl) (semslices__SortFunc_loop_example_g03413_impl_Atom_loop_example_g03413_impl_Atom_is▸Fi_CompareAtoms_ok)
 rw [e6] at h
 exact h
noncomputable def tab_slices__SortFunc_loop_example_g03413_impl_Atom_loop_example_g03413_impl_Atom:Tab:=fun f=>bif f == 101 then some Fslices__SortFunc_loop_example_g03413_impl_Atom_loop_example_g03413_impl_Atom else tab_i_CompareAtoms f
theorem tab_slices__SortFunc_loop_example_g03413_impl_Atom_loop_example_g03413_impl_Atom_ok:TabOk Tryz.prog tab_slices__SortFunc_loop_example_g03413_impl_Atom_loop_example_g03413_impl_Atom:=tab_cons tab_i_CompareAtoms_ok Fslices__SortFunc_loop_example_g03413_impl_Atom_loop_example_g03413_impl_Atom_ok
noncomputable def Fi_normalOf:Am.Fn:=mkFn C tab_slices__SortFunc_loop_example_g03413_impl_Atom_loop_example_g03413_impl_Atom [0,1,2,3,4,5,6,7,8,9,10,12,16,21,25,29,46,51,60,63,68] 76 (fun k=>bif k == 1 then some 19 else bif k == 2 then some 51 else bif k == 4 then some 28723 else bif k == 7 then some 17 else bif k == 8 then some 28851 else bif k == 11 then some 49 else bif k == 12 then some 304 else bif k == 14 then some 492581209243952 else bif k == 15 then some 492581209245488 else bif k == 16 then some 492581209244976 else bif k == 18 then some 272 else bif k == 1000003 then some 28723 else bif k == 1000013 then some 492581209243952 else none) ⟨fun _ _=>none,fun s=>Nat.testBit 49010464791116081896842261913156602376033299545456609477097497402813181549011534258639160322373409167629331578242006801964110016562329888330235596731856477055321010120126655283161807817355018340723905336487026622356960499370861893185141377587599199869307330523816198188445240072868699821055350035659933116715405149584 s,fun r=>bif r == 4 then [] else bif r == 7 then [18,36] else bif r == 8 then [69,75] else bif r == 10 then [59,70] else []⟩ [(ty3,.ro),(ty78,.ro)] [(ty83,2)] [.cell 4 83] (Tryz.f45.body.getD .skip)
theorem Fi_normalOf_ok:FnOk Tryz.prog 45 Fi_normalOf:=by
 unfold Fi_normalOf
 exact mkFn_ok (fn:=Tryz.f45) mix C_ok tab_slices__SortFunc_loop_example_g03413_impl_Atom_loop_example_g03413_impl_Atom_ok Tryz.func45 (by kernel_rfl) (by kernel_rfl) (by kernel_rfl) (by kernel_rfl) (by decide)
noncomputable def tab_i_normalOf:Tab:=fun f=>bif f == 45 then some Fi_normalOf else tab_slices__SortFunc_loop_example_g03413_impl_Atom_loop_example_g03413_impl_Atom f
theorem tab_i_normalOf_ok:TabOk Tryz.prog tab_i_normalOf:=tab_cons tab_slices__SortFunc_loop_example_g03413_impl_Atom_loop_example_g03413_impl_Atom_ok Fi_normalOf_ok
noncomputable def Fi_TrackRegion:Am.Fn:=mkFn C tab_i_normalOf [0,1,2,4,5,6,7,8,9,10,11,12,13,14,24,28,32,33,38,39,56] 65 (fun k=>bif k == 3 then some 12 else bif k == 4 then some 28 else bif k == 5 then some 92 else bif k == 7 then some 117440604 else bif k == 12 then some 12 else bif k == 13 then some 117446236 else bif k == 14 then some 117441116 else bif k == 16 then some 76 else bif k == 1000006 then some 117440596 else none) ⟨fun d i=>bif d == 14 then (bif i == 0 then some 17 else bif i == 1 then some 18 else none) else bif d == 32 then (bif i == 0 then some 36 else bif i == 1 then some 37 else none) else bif d == 38 then (bif i == 0 then some 42 else bif i == 1 then some 43 else none) else none,fun s=>Nat.testBit 68 s,fun r=>bif r == 2 then [] else bif r == 6 then [57,64] else []⟩ [(ty29,.ro)] [(ty26,3),(ty4,0)] [.cell 2 26,.tmp 3] (Tryz.f9.body.getD .skip)
theorem Fi_TrackRegion_ok:FnOk Tryz.prog 9 Fi_TrackRegion:=by
 unfold Fi_TrackRegion
 exact mkFn_ok (fn:=Tryz.f9) mix C_ok tab_i_normalOf_ok Tryz.func9 (by kernel_rfl) (by kernel_rfl) (by kernel_rfl) (by kernel_rfl) (by decide)
noncomputable def tab_i_TrackRegion:Tab:=fun f=>bif f == 9 then some Fi_TrackRegion else tab_i_normalOf f
theorem tab_i_TrackRegion_ok:TabOk Tryz.prog tab_i_TrackRegion:=tab_cons tab_i_normalOf_ok Fi_TrackRegion_ok
noncomputable def Fw_eqIntS:Am.Fn:=mkFn C tab_i_TrackRegion [0,1,2,3,5,17,19,21,23] 26 (fun k=>bif k == 1000004 then some 35 else none) ⟨fun _ _=>none,fun s=>Nat.testBit 0 s,fun _=>[]⟩ [(ty59,.ro),(ty59,.ro)] [(ty4,0)] [.tmp 4] (Tryz.f30.body.getD .skip)
theorem Fw_eqIntS_ok:FnOk Tryz.prog 30 Fw_eqIntS:=by
 unfold Fw_eqIntS
 exact mkFn_ok (fn:=Tryz.f30) mix C_ok tab_i_TrackRegion_ok Tryz.func30 (by kernel_rfl) (by kernel_rfl) (by kernel_rfl) (by kernel_rfl) (by decide)
noncomputable def tab_w_eqIntS:Tab:=fun f=>bif f == 30 then some Fw_eqIntS else tab_i_TrackRegion f
theorem tab_w_eqIntS_ok:TabOk Tryz.prog tab_w_eqIntS:=tab_cons tab_i_TrackRegion_ok Fw_eqIntS_ok
noncomputable def Fw_eqAtom:Am.Fn:=mkFn C tab_w_eqIntS [0,1,2,3,5,7,11,13,16,18] 21 (fun _=>none) ⟨fun _ _=>none,fun s=>Nat.testBit 12 s,fun r=>bif r == 2 then [6] else bif r == 3 then [8] else []⟩ [(ty85,.ro),(ty85,.ro)] [(ty4,0)] [.tmp 4] (Tryz.f158.body.getD .skip)
theorem Fw_eqAtom_ok:FnOk Tryz.prog 158 Fw_eqAtom:=by
 unfold Fw_eqAtom
 exact mkFn_ok (fn:=Tryz.f158) mix C_ok tab_w_eqIntS_ok Tryz.func158 (by kernel_rfl) (by kernel_rfl) (by kernel_rfl) (by kernel_rfl) (by decide)
noncomputable def tab_w_eqAtom:Tab:=fun f=>bif f == 158 then some Fw_eqAtom else tab_w_eqIntS f
theorem tab_w_eqAtom_ok:TabOk Tryz.prog tab_w_eqAtom:=tab_cons tab_w_eqIntS_ok Fw_eqAtom_ok
noncomputable def Fw_eqAtomS:Am.Fn:=mkFn C tab_w_eqAtom [0,1,2,3,5,17,19,21,23] 27 (fun k=>bif k == 1000004 then some 35 else none) ⟨fun _ _=>none,fun s=>Nat.testBit 0 s,fun _=>[]⟩ [(ty78,.ro),(ty78,.ro)] [(ty4,0)] [.tmp 4] (Tryz.f145.body.getD .skip)
theorem Fw_eqAtomS_ok:FnOk Tryz.prog 145 Fw_eqAtomS:=by
 unfold Fw_eqAtomS
 exact mkFn_ok (fn:=Tryz.f145) mix C_ok tab_w_eqAtom_ok Tryz.func145 (by kernel_rfl) (by kernel_rfl) (by kernel_rfl) (by kernel_rfl) (by decide)
noncomputable def tab_w_eqAtomS:Tab:=fun f=>bif f == 145 then some Fw_eqAtomS else tab_w_eqAtom f
theorem tab_w_eqAtomS_ok:TabOk Tryz.prog tab_w_eqAtomS:=tab_cons tab_w_eqAtom_ok Fw_eqAtomS_ok
noncomputable def Fw_eqCell:Am.Fn:=mkFn C tab_w_eqAtomS [0,1,2,3,5,7,10,12] 16 (fun _=>none) ⟨fun _ _=>none,fun s=>Nat.testBit 12 s,fun r=>bif r == 2 then [11] else bif r == 3 then [13] else []⟩ [(ty83,.ro),(ty83,.ro)] [(ty4,0)] [.tmp 4] (Tryz.f104.body.getD .skip)
theorem Fw_eqCell_ok:FnOk Tryz.prog 104 Fw_eqCell:=by
 unfold Fw_eqCell
 exact mkFn_ok (fn:=Tryz.f104) mix C_ok tab_w_eqAtomS_ok Tryz.func104 (by kernel_rfl) (by kernel_rfl) (by kernel_rfl) (by kernel_rfl) (by decide)
noncomputable def tab_w_eqCell:Tab:=fun f=>bif f == 104 then some Fw_eqCell else tab_w_eqAtomS f
theorem tab_w_eqCell_ok:TabOk Tryz.prog tab_w_eqCell:=tab_cons tab_w_eqAtomS_ok Fw_eqCell_ok
noncomputable def Fw_eqCellS:Am.Fn:=mkFn C tab_w_eqCell [0,1,2,3,5,17,19,21,23] 27 (fun k=>bif k == 1000004 then some 35 else none) ⟨fun _ _=>none,fun s=>Nat.testBit 0 s,fun _=>[]⟩ [(ty24,.ro),(ty24,.ro)] [(ty4,0)] [.tmp 4] (Tryz.f46.body.getD .skip)
theorem Fw_eqCellS_ok:FnOk Tryz.prog 46 Fw_eqCellS:=by
 unfold Fw_eqCellS
 exact mkFn_ok (fn:=Tryz.f46) mix C_ok tab_w_eqCell_ok Tryz.func46 (by kernel_rfl) (by kernel_rfl) (by kernel_rfl) (by kernel_rfl) (by decide)
noncomputable def tab_w_eqCellS:Tab:=fun f=>bif f == 46 then some Fw_eqCellS else tab_w_eqCell f
theorem tab_w_eqCellS_ok:TabOk Tryz.prog tab_w_eqCellS:=tab_cons tab_w_eqCell_ok Fw_eqCellS_ok
noncomputable def Fw_eqRegion:Am.Fn:=mkFn C tab_w_eqCellS [0,1,2,3,5,7,10,12] 16 (fun _=>none) ⟨fun _ _=>none,fun s=>Nat.testBit 12 s,fun r=>bif r == 2 then [11] else bif r == 3 then [13] else []⟩ [(ty26,.ro),(ty26,.ro)] [(ty4,0)] [.tmp 4] (Tryz.f10.body.getD .skip)
theorem Fw_eqRegion_ok:FnOk Tryz.prog 10 Fw_eqRegion:=by
 unfold Fw_eqRegion
 exact mkFn_ok (fn:=Tryz.f10) mix C_ok tab_w_eqCellS_ok Tryz.func10 (by kernel_rfl) (by kernel_rfl) (by kernel_rfl) (by kernel_rfl) (by decide)
noncomputable def tab_w_eqRegion:Tab:=fun f=>bif f == 10 then some Fw_eqRegion else tab_w_eqCellS f
theorem tab_w_eqRegion_ok:TabOk Tryz.prog tab_w_eqRegion:=tab_cons tab_w_eqCellS_ok Fw_eqRegion_ok
noncomputable def Fw_eqRatio:Am.Fn:=mkFn C tab_w_eqRegion [0,1,2,3,5,7,10,12] 15 (fun _=>none) ⟨fun _ _=>none,fun s=>Nat.testBit 0 s,fun _=>[]⟩ [(ty73,.ro),(ty73,.ro)] [(ty4,0)] [.tmp 4] (Tryz.f83.body.getD .skip)
theorem Fw_eqRatio_ok:FnOk Tryz.prog 83 Fw_eqRatio:=by
 unfold Fw_eqRatio
 exact mkFn_ok (fn:=Tryz.f83) mix C_ok tab_w_eqRegion_ok Tryz.func83 (by kernel_rfl) (by kernel_rfl) (by kernel_rfl) (by kernel_rfl) (by decide)
noncomputable def tab_w_eqRatio:Tab:=fun f=>bif f == 83 then some Fw_eqRatio else tab_w_eqRegion f
theorem tab_w_eqRatio_ok:TabOk Tryz.prog tab_w_eqRatio:=tab_cons tab_w_eqRegion_ok Fw_eqRatio_ok
noncomputable def Fw_eqStop:Am.Fn:=mkFn C tab_w_eqRatio [0,1,2,3,5,7,11,13,17,19] 23 (fun _=>none) ⟨fun _ _=>none,fun s=>Nat.testBit 0 s,fun _=>[]⟩ [(ty81,.ro),(ty81,.ro)] [(ty4,0)] [.tmp 4] (Tryz.f47.body.getD .skip)
theorem Fw_eqStop_ok:FnOk Tryz.prog 47 Fw_eqStop:=by
 unfold Fw_eqStop
 exact mkFn_ok (fn:=Tryz.f47) mix C_ok tab_w_eqRatio_ok Tryz.func47 (by kernel_rfl) (by kernel_rfl) (by kernel_rfl) (by kernel_rfl) (by decide)
noncomputable def tab_w_eqStop:Tab:=fun f=>bif f == 47 then some Fw_eqStop else tab_w_eqRatio f
theorem tab_w_eqStop_ok:TabOk Tryz.prog tab_w_eqStop:=tab_cons tab_w_eqRatio_ok Fw_eqStop_ok
noncomputable def Fw_eqStopS:Am.Fn:=mkFn C tab_w_eqStop [0,1,2,3,5,17,19,21,23] 27 (fun k=>bif k == 1000004 then some 35 else none) ⟨fun _ _=>none,fun s=>Nat.testBit 0 s,fun _=>[]⟩ [(ty29,.ro),(ty29,.ro)] [(ty4,0)] [.tmp 4] (Tryz.f11.body.getD .skip)
theorem Fw_eqStopS_ok:FnOk Tryz.prog 11 Fw_eqStopS:=by
 unfold Fw_eqStopS
 exact mkFn_ok (fn:=Tryz.f11) mix C_ok tab_w_eqStop_ok Tryz.func11 (by kernel_rfl) (by kernel_rfl) (by kernel_rfl) (by kernel_rfl) (by decide)
noncomputable def tab_w_eqStopS:Tab:=fun f=>bif f == 11 then some Fw_eqStopS else tab_w_eqStop f
theorem tab_w_eqStopS_ok:TabOk Tryz.prog tab_w_eqStopS:=tab_cons tab_w_eqStop_ok Fw_eqStopS_ok
noncomputable def Fw_markStopS:Am.Fn:=mkFn C tab_w_eqStopS [0,1,2,3,5,12,15,16,20,23,24,28,31,32,36,39,40,44,47,48,52,55,56] 61 (fun k=>bif k == 1000002 then some 35 else none) ⟨fun _ _=>none,fun s=>Nat.testBit 0 s,fun _=>[]⟩ [(ty29,.mut 1),(ty3,.ro)] [(ty3,0)] [.tmp 4] (Tryz.f12.body.getD .skip)
theorem Fw_markStopS_ok:FnOk Tryz.prog 12 Fw_markStopS:=by
 unfold Fw_markStopS
 exact mkFn_ok (fn:=Tryz.f12) mix C_ok tab_w_eqStopS_ok Tryz.func12 (by kernel_rfl) (by kernel_rfl) (by kernel_rfl) (by kernel_rfl) (by decide)
noncomputable def tab_w_markStopS:Tab:=fun f=>bif f == 12 then some Fw_markStopS else tab_w_eqStopS f
theorem tab_w_markStopS_ok:TabOk Tryz.prog tab_w_markStopS:=tab_cons tab_w_eqStopS_ok Fw_markStopS_ok
noncomputable def Fw_markIntS:Am.Fn:=mkFn C tab_w_markStopS [0,1,2,3,5,12] 19 (fun k=>bif k == 1000002 then some 35 else none) ⟨fun _ _=>none,fun s=>Nat.testBit 0 s,fun _=>[]⟩ [(ty59,.mut 1),(ty3,.ro)] [(ty3,0)] [.tmp 4] (Tryz.f33.body.getD .skip)
theorem Fw_markIntS_ok:FnOk Tryz.prog 33 Fw_markIntS:=by
 unfold Fw_markIntS
 exact mkFn_ok (fn:=Tryz.f33) mix C_ok tab_w_markStopS_ok Tryz.func33 (by kernel_rfl) (by kernel_rfl) (by kernel_rfl) (by kernel_rfl) (by decide)
noncomputable def tab_w_markIntS:Tab:=fun f=>bif f == 33 then some Fw_markIntS else tab_w_markStopS f
theorem tab_w_markIntS_ok:TabOk Tryz.prog tab_w_markIntS:=tab_cons tab_w_markStopS_ok Fw_markIntS_ok
noncomputable def Fw_markAtomS:Am.Fn:=mkFn C tab_w_markIntS [0,1,2,3,5,12,14,15,19,22,26,31] 36 (fun k=>bif k == 1000002 then some 35 else none) ⟨fun _ _=>none,fun s=>Nat.testBit 0 s,fun _=>[]⟩ [(ty78,.mut 2),(ty3,.ro)] [(ty3,0)] [.tmp 4] (Tryz.f105.body.getD .skip)
theorem Fw_markAtomS_ok:FnOk Tryz.prog 105 Fw_markAtomS:=by
 unfold Fw_markAtomS
 exact mkFn_ok (fn:=Tryz.f105) mix C_ok tab_w_markIntS_ok Tryz.func105 (by kernel_rfl) (by kernel_rfl) (by kernel_rfl) (by kernel_rfl) (by decide)
noncomputable def tab_w_markAtomS:Tab:=fun f=>bif f == 105 then some Fw_markAtomS else tab_w_markIntS f
theorem tab_w_markAtomS_ok:TabOk Tryz.prog tab_w_markAtomS:=tab_cons tab_w_markIntS_ok Fw_markAtomS_ok
noncomputable def Fw_markCellS:Am.Fn:=mkFn C tab_w_markAtomS [0,1,2,3,5,12,15,19,21,22] 27 (fun k=>bif k == 1000002 then some 35 else none) ⟨fun _ _=>none,fun s=>Nat.testBit 0 s,fun _=>[]⟩ [(ty24,.mut 3),(ty3,.ro)] [(ty3,0)] [.tmp 4] (Tryz.f48.body.getD .skip)
theorem Fw_markCellS_ok:FnOk Tryz.prog 48 Fw_markCellS:=by
 unfold Fw_markCellS
 exact mkFn_ok (fn:=Tryz.f48) mix C_ok tab_w_markAtomS_ok Tryz.func48 (by kernel_rfl) (by kernel_rfl) (by kernel_rfl) (by kernel_rfl) (by decide)
noncomputable def tab_w_markCellS:Tab:=fun f=>bif f == 48 then some Fw_markCellS else tab_w_markAtomS f
theorem tab_w_markCellS_ok:TabOk Tryz.prog tab_w_markCellS:=tab_cons tab_w_markAtomS_ok Fw_markCellS_ok
noncomputable def Fw_markRegion:Am.Fn:=mkFn C tab_w_markCellS [0,1,2,3,5] 10 (fun _=>none) ⟨fun _ _=>none,fun s=>Nat.testBit 4 s,fun r=>bif r == 2 then [6] else []⟩ [(ty26,.mut 3),(ty3,.ro)] [(ty3,0)] [.tmp 4] (Tryz.f13.body.getD .skip)
theorem Fw_markRegion_ok:FnOk Tryz.prog 13 Fw_markRegion:=by
 unfold Fw_markRegion
 exact mkFn_ok (fn:=Tryz.f13) mix C_ok tab_w_markCellS_ok Tryz.func13 (by kernel_rfl) (by kernel_rfl) (by kernel_rfl) (by kernel_rfl) (by decide)
noncomputable def tab_w_markRegion:Tab:=fun f=>bif f == 13 then some Fw_markRegion else tab_w_markCellS f
theorem tab_w_markRegion_ok:TabOk Tryz.prog tab_w_markRegion:=tab_cons tab_w_markCellS_ok Fw_markRegion_ok
noncomputable def Fw_heldIntS:Am.Fn:=mkFn C tab_w_markRegion [0,1,2,3,5,12,14] 21 (fun k=>bif k == 1000002 then some 35 else none) ⟨fun _ _=>none,fun s=>Nat.testBit 0 s,fun _=>[]⟩ [(ty59,.ro),(ty3,.ro)] [(ty3,0)] [.tmp 4] (Tryz.f34.body.getD .skip)
theorem Fw_heldIntS_ok:FnOk Tryz.prog 34 Fw_heldIntS:=by
 unfold Fw_heldIntS
 exact mkFn_ok (fn:=Tryz.f34) mix C_ok tab_w_markRegion_ok Tryz.func34 (by kernel_rfl) (by kernel_rfl) (by kernel_rfl) (by kernel_rfl) (by decide)
noncomputable def tab_w_heldIntS:Tab:=fun f=>bif f == 34 then some Fw_heldIntS else tab_w_markRegion f
theorem tab_w_heldIntS_ok:TabOk Tryz.prog tab_w_heldIntS:=tab_cons tab_w_markRegion_ok Fw_heldIntS_ok
noncomputable def Fw_heldAtomS:Am.Fn:=mkFn C tab_w_heldIntS [0,1,2,3,5,12,14,15,21,23,24,30,32,33] 42 (fun k=>bif k == 1000002 then some 35 else none) ⟨fun _ _=>none,fun s=>Nat.testBit 0 s,fun _=>[]⟩ [(ty78,.ro),(ty3,.ro)] [(ty3,0)] [.tmp 4] (Tryz.f106.body.getD .skip)
theorem Fw_heldAtomS_ok:FnOk Tryz.prog 106 Fw_heldAtomS:=by
 unfold Fw_heldAtomS
 exact mkFn_ok (fn:=Tryz.f106) mix C_ok tab_w_heldIntS_ok Tryz.func106 (by kernel_rfl) (by kernel_rfl) (by kernel_rfl) (by kernel_rfl) (by decide)
noncomputable def tab_w_heldAtomS:Tab:=fun f=>bif f == 106 then some Fw_heldAtomS else tab_w_heldIntS f
theorem tab_w_heldAtomS_ok:TabOk Tryz.prog tab_w_heldAtomS:=tab_cons tab_w_heldIntS_ok Fw_heldAtomS_ok
noncomputable def Fw_heldCellS:Am.Fn:=mkFn C tab_w_heldAtomS [0,1,2,3,5,12,14,15,21,23,24] 31 (fun k=>bif k == 1000002 then some 35 else none) ⟨fun _ _=>none,fun s=>Nat.testBit 0 s,fun _=>[]⟩ [(ty24,.ro),(ty3,.ro)] [(ty3,0)] [.tmp 4] (Tryz.f49.body.getD .skip)
theorem Fw_heldCellS_ok:FnOk Tryz.prog 49 Fw_heldCellS:=by
 unfold Fw_heldCellS
 exact mkFn_ok (fn:=Tryz.f49) mix C_ok tab_w_heldAtomS_ok Tryz.func49 (by kernel_rfl) (by kernel_rfl) (by kernel_rfl) (by kernel_rfl) (by decide)
noncomputable def tab_w_heldCellS:Tab:=fun f=>bif f == 49 then some Fw_heldCellS else tab_w_heldAtomS f
theorem tab_w_heldCellS_ok:TabOk Tryz.prog tab_w_heldCellS:=tab_cons tab_w_heldAtomS_ok Fw_heldCellS_ok
noncomputable def Fw_heldRegion:Am.Fn:=mkFn C tab_w_heldCellS [0,1,2,3,5] 12 (fun _=>none) ⟨fun _ _=>none,fun s=>Nat.testBit 4 s,fun r=>bif r == 2 then [6] else []⟩ [(ty26,.ro),(ty3,.ro)] [(ty3,0)] [.tmp 4] (Tryz.f14.body.getD .skip)
theorem Fw_heldRegion_ok:FnOk Tryz.prog 14 Fw_heldRegion:=by
 unfold Fw_heldRegion
 exact mkFn_ok (fn:=Tryz.f14) mix C_ok tab_w_heldCellS_ok Tryz.func14 (by kernel_rfl) (by kernel_rfl) (by kernel_rfl) (by kernel_rfl) (by decide)
noncomputable def tab_w_heldRegion:Tab:=fun f=>bif f == 14 then some Fw_heldRegion else tab_w_heldCellS f
theorem tab_w_heldRegion_ok:TabOk Tryz.prog tab_w_heldRegion:=tab_cons tab_w_heldCellS_ok Fw_heldRegion_ok
noncomputable def Fw_FnExactTrackRegion:Am.Fn:=mkFn C tab_w_heldRegion [0,1,3,4,5,6,7,8,9,10,11,12,13,19,27,73] 96 (fun k=>bif k == 5 then some 5 else bif k == 7 then some 117 else bif k == 24 then some 1205 else none) ⟨fun d i=>bif d == 19 then (bif i == 0 then some 23 else bif i == 1 then some 24 else none) else bif d == 27 then (bif i == 0 then some 30 else bif i == 1 then some 31 else none) else bif d == 73 then (bif i == 0 then some 77 else bif i == 1 then some 78 else none) else none,fun s=>Nat.testBit 4240 s,fun r=>bif r == 4 then [33,53,80] else bif r == 7 then [32,52,62,65,88] else bif r == 12 then [79] else []⟩ [(ty22,.ro)] [(ty4,0)] [.tmp 2] (Tryz.f3.body.getD .skip)
theorem Fw_FnExactTrackRegion_ok:FnOk Tryz.prog 3 Fw_FnExactTrackRegion:=by
 unfold Fw_FnExactTrackRegion
 exact mkFn_ok (fn:=Tryz.f3) mix C_ok tab_w_heldRegion_ok Tryz.func3 (by kernel_rfl) (by kernel_rfl) (by kernel_rfl) (by kernel_rfl) (by decide)
noncomputable def tab_w_FnExactTrackRegion:Tab:=fun f=>bif f == 3 then some Fw_FnExactTrackRegion else tab_w_heldRegion f
theorem tab_w_FnExactTrackRegion_ok:TabOk Tryz.prog tab_w_FnExactTrackRegion:=tab_cons tab_w_heldRegion_ok Fw_FnExactTrackRegion_ok
end Go.Proofs.YtkanidldnnfloaaGreat.P.It
