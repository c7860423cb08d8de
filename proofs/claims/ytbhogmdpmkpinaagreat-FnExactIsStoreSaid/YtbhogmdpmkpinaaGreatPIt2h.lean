/- A part of the proof: It2h. No conditions. -/
import Derived.Test.YtbhogmdpmkpinaaGreatPG8
import Derived.Test.YtbhogmdpmkpinaaGreatPShQ
import Derived.Test.YtbhogmdpmkpinaaGreatChecked
import Derived.KernelRfl
set_option linter.unusedVariables false
set_option maxRecDepth 100000
namespace Go.Proofs.YtbhogmdpmkpinaaGreat.P.It
open Am
instance axU:af:=⟨λ_ _=>True,λ_ _=>trivial⟩
abbrev ty1:Ty:=(.raw 1)
abbrev ty2:Ty:=(.int .i64)
abbrev al:Ty:=(.int .i64)
abbrev av:Ty:=.bool
abbrev jf:Ty:=(.int .u8)
abbrev bX:Ty:=.str
abbrev ar5:Ty:=(.int .u64)
abbrev ata:Ty:=(.raw 2)
abbrev ath:Ty:=(.int .i32)
abbrev My:Ty:=(.slice 5 jf)
abbrev atz:Ty:=(.raw 1)
abbrev auP:Ty:=(.raw 1)
abbrev bm:Ty:=(.slice 3 al)
abbrev avi:Ty:=(.raw 1)
abbrev av3:Ty:=(.raw 1)
abbrev awc:Ty:=(.raw 1)
abbrev awp:Ty:=(.raw 1)
abbrev uh:Ty:=(.slice 32 bm)
abbrev awt:Ty:=(.raw 1)
abbrev awv:Ty:=(.agg (.pair al al))
abbrev q9:Ty:=(.agg (.pair al al))
abbrev aww:Ty:=(.raw 1)
abbrev awx:Ty:=(.raw 1)
abbrev awy:Ty:=(.raw 1)
abbrev eF:Ty:=(.agg (.pair al al))
abbrev awz:Ty:=(.raw 1)
abbrev awA:Ty:=(.raw 1)
abbrev awB:Ty:=(.raw 1)
abbrev awC:Ty:=(.raw 1)
abbrev awD:Ty:=(.raw 1)
abbrev awE:Ty:=(.raw 1)
abbrev awF:Ty:=(.raw 1)
abbrev awG:Ty:=(.raw 1)
abbrev awH:Ty:=(.raw 1)
abbrev awI:Ty:=(.raw 1)
abbrev awJ:Ty:=(.raw 1)
abbrev awK:Ty:=(.raw 1)
abbrev awL:Ty:=(.raw 1)
abbrev awM:Ty:=(.raw 1)
abbrev awN:Ty:=(.raw 1)
abbrev awO:Ty:=(.agg (.pair eF (.pair eF eF)))
abbrev ach:Ty:=(.agg (.pair eF (.pair eF eF)))
abbrev awQ:Ty:=(.raw 1)
abbrev awR:Ty:=(.raw 1)
abbrev awS:Ty:=(.raw 1)
abbrev awT:Ty:=(.raw 1)
abbrev awU:Ty:=(.raw 1)
abbrev awV:Ty:=(.raw 1)
abbrev awW:Ty:=(.raw 1)
abbrev awX:Ty:=(.raw 1)
abbrev awY:Ty:=(.raw 1)
abbrev awZ:Ty:=(.raw 1)
abbrev aw0:Ty:=(.raw 1)
abbrev aw1:Ty:=(.raw 1)
abbrev aw2:Ty:=(.raw 1)
abbrev aw3:Ty:=(.raw 1)
abbrev arS:Ty:=(.raw 1)
abbrev arT:Ty:=(.raw 1)
abbrev arV:Ty:=(.raw 1)
abbrev arW:Ty:=(.raw 1)
abbrev arX:Ty:=(.raw 1)
abbrev arY:Ty:=(.raw 1)
abbrev arZ:Ty:=(.raw 1)
abbrev ar0:Ty:=(.raw 1)
abbrev ar1:Ty:=(.raw 1)
abbrev ar2:Ty:=(.raw 1)
abbrev ar3:Ty:=(.raw 1)
abbrev ar4:Ty:=(.raw 1)
abbrev ar6:Ty:=(.raw 1)
abbrev ar7:Ty:=(.raw 1)
abbrev xW:Ty:=(.slice 9 bX)
abbrev asa:Ty:=(.raw 1)
abbrev asb:Ty:=(.raw 1)
abbrev ase:Ty:=(.raw 1)
abbrev asf:Ty:=(.raw 1)
abbrev asg:Ty:=(.raw 1)
abbrev ash:Ty:=(.raw 0)
abbrev asi:Ty:=(.raw 1)
abbrev asj:Ty:=(.raw 1)
abbrev asl:Ty:=(.raw 1)
abbrev asm:Ty:=(.raw 1)
abbrev asn:Ty:=(.raw 1)
abbrev aso:Ty:=(.raw 1)
abbrev asp:Ty:=(.raw 1)
abbrev asq:Ty:=(.raw 1)
abbrev asr:Ty:=(.raw 1)
abbrev ass:Ty:=(.raw 1)
abbrev ast:Ty:=(.raw 1)
abbrev asu:Ty:=(.raw 1)
abbrev asv:Ty:=(.raw 1)
abbrev asw:Ty:=(.agg (.pair bm (.pair al av)))
abbrev aK:Ty:=(.agg (.pair bm (.pair al av)))
abbrev asx:Ty:=(.raw 1)
abbrev asy:Ty:=(.raw 1)
abbrev asz:Ty:=(.raw 1)
abbrev asA:Ty:=(.raw 1)
abbrev asB:Ty:=(.raw 1)
abbrev asC:Ty:=(.raw 1)
abbrev asE:Ty:=(.raw 1)
abbrev asF:Ty:=(.raw 1)
abbrev asG:Ty:=(.raw 1)
abbrev asH:Ty:=(.raw 1)
abbrev asI:Ty:=(.agg (.pair q9 (.pair q9 q9)))
abbrev ab7:Ty:=(.agg (.pair q9 (.pair q9 q9)))
abbrev asK:Ty:=(.raw 1)
abbrev asL:Ty:=(.agg (.pair eF eF))
abbrev uf:Ty:=(.agg (.pair eF eF))
abbrev asM:Ty:=(.agg (.pair eF (.pair eF (.pair uf uf))))
abbrev ab8:Ty:=(.agg (.pair eF (.pair eF (.pair uf uf))))
abbrev asN:Ty:=(.raw 1)
abbrev asO:Ty:=(.raw 1)
abbrev asP:Ty:=(.slice 172 uf)
abbrev asQ:Ty:=(.raw 1)
abbrev asR:Ty:=(.raw 1)
abbrev asS:Ty:=(.raw 0)
abbrev asT:Ty:=(.raw 1)
abbrev asU:Ty:=(.raw 1)
abbrev asV:Ty:=(.raw 1)
abbrev asW:Ty:=(.raw 1)
abbrev asX:Ty:=(.raw 1)
abbrev asY:Ty:=(.raw 1)
abbrev asZ:Ty:=(.raw 1)
abbrev as0:Ty:=(.raw 1)
abbrev as1:Ty:=(.raw 1)
abbrev as2:Ty:=(.raw 1)
abbrev as3:Ty:=(.raw 1)
abbrev as4:Ty:=(.raw 1)
abbrev as5:Ty:=(.raw 1)
abbrev as6:Ty:=(.raw 1)
abbrev as7:Ty:=(.raw 1)
abbrev as8:Ty:=(.agg (.pair eF eF))
abbrev ab9:Ty:=(.agg (.pair eF eF))
abbrev atb:Ty:=(.raw 1)
abbrev atc:Ty:=(.raw 1)
abbrev atd:Ty:=(.raw 1)
abbrev atf:Ty:=(.raw 1)
abbrev ati:Ty:=(.raw 1)
abbrev atj:Ty:=(.raw 1)
abbrev atk:Ty:=(.raw 1)
abbrev atl:Ty:=(.raw 1)
abbrev atm:Ty:=(.raw 1)
abbrev atn:Ty:=(.raw 1)
abbrev ato:Ty:=(.raw 1)
abbrev atp:Ty:=(.raw 1)
abbrev ug:Ty:=(.agg (.pair bm (.pair al av)))
abbrev atq:Ty:=(.agg (.pair al (.pair ug (.pair bX (.pair bX (.pair bm (.pair al (.pair al al))))))))
abbrev Ed:Ty:=(.agg (.pair al (.pair ug (.pair bX (.pair bX (.pair bm (.pair al (.pair al al))))))))
abbrev atr:Ty:=(.raw 1)
abbrev att:Ty:=(.raw 1)
abbrev atu:Ty:=(.agg (.pair al (.pair aK (.pair bX (.pair bX (.pair bm (.pair al (.pair al al))))))))
abbrev de:Ty:=(.agg (.pair al (.pair aK (.pair bX (.pair bX (.pair bm (.pair al (.pair al al))))))))
abbrev atv:Ty:=(.raw 1)
abbrev atw:Ty:=(.raw 1)
abbrev atx:Ty:=(.raw 1)
abbrev aty:Ty:=(.raw 1)
abbrev atA:Ty:=(.raw 1)
abbrev atB:Ty:=(.raw 1)
abbrev atC:Ty:=(.raw 1)
abbrev atD:Ty:=(.raw 1)
abbrev atE:Ty:=(.raw 1)
abbrev atF:Ty:=(.raw 1)
abbrev atG:Ty:=(.raw 1)
abbrev atH:Ty:=(.raw 1)
abbrev atI:Ty:=(.raw 1)
abbrev atJ:Ty:=(.raw 1)
abbrev atK:Ty:=(.raw 1)
abbrev atL:Ty:=(.raw 1)
abbrev atM:Ty:=(.raw 1)
abbrev atN:Ty:=(.raw 1)
abbrev atO:Ty:=(.raw 1)
abbrev atP:Ty:=(.raw 1)
abbrev atQ:Ty:=(.raw 1)
abbrev atT:Ty:=(.raw 1)
abbrev atU:Ty:=(.raw 1)
abbrev atV:Ty:=(.raw 1)
abbrev atW:Ty:=(.raw 1)
abbrev atX:Ty:=(.raw 1)
abbrev atY:Ty:=(.raw 1)
abbrev atZ:Ty:=(.raw 1)
abbrev at1:Ty:=(.raw 1)
abbrev at2:Ty:=(.raw 1)
abbrev at3:Ty:=(.raw 1)
abbrev at4:Ty:=(.agg (.pair My (.pair al al)))
abbrev at5:Ty:=(.agg (.pair My (.pair al al)))
abbrev at6:Ty:=(.raw 1)
abbrev at7:Ty:=(.raw 1)
abbrev at8:Ty:=(.raw 1)
abbrev at9:Ty:=(.raw 1)
abbrev aua:Ty:=(.raw 1)
abbrev aub:Ty:=(.raw 1)
abbrev auc:Ty:=(.raw 1)
abbrev aud:Ty:=(.raw 1)
abbrev auf:Ty:=(.raw 1)
abbrev aug:Ty:=(.raw 1)
abbrev auh:Ty:=(.raw 1)
abbrev aui:Ty:=(.raw 1)
abbrev auj:Ty:=(.raw 1)
abbrev auk:Ty:=(.slice 199 ab9)
abbrev aul:Ty:=(.raw 1)
abbrev aum:Ty:=(.raw 1)
abbrev aun:Ty:=(.raw 1)
abbrev auo:Ty:=(.raw 1)
abbrev aup:Ty:=(.raw 1)
abbrev auq:Ty:=(.raw 1)
abbrev aur:Ty:=(.raw 1)
abbrev aus:Ty:=(.raw 1)
abbrev aut:Ty:=(.raw 1)
abbrev auu:Ty:=(.raw 1)
abbrev auv:Ty:=(.raw 1)
abbrev auw:Ty:=(.raw 1)
abbrev auy:Ty:=(.raw 1)
abbrev auz:Ty:=(.raw 1)
abbrev auB:Ty:=(.raw 1)
abbrev auC:Ty:=(.raw 1)
abbrev auD:Ty:=(.raw 1)
abbrev auE:Ty:=(.raw 1)
abbrev ow:Ty:=(.slice 219 ug)
abbrev auF:Ty:=(.agg (.pair al ow))
abbrev ox:Ty:=(.agg (.pair al ow))
abbrev auG:Ty:=(.agg (.pair ox uh))
abbrev acd:Ty:=(.agg (.pair ox uh))
abbrev auH:Ty:=(.raw 1)
abbrev auI:Ty:=(.raw 1)
abbrev auJ:Ty:=(.raw 1)
abbrev auK:Ty:=(.raw 1)
abbrev auM:Ty:=(.raw 1)
abbrev auN:Ty:=(.raw 1)
abbrev auO:Ty:=(.raw 1)
abbrev auQ:Ty:=(.raw 1)
abbrev auR:Ty:=(.raw 1)
abbrev auS:Ty:=(.raw 1)
abbrev auT:Ty:=(.raw 1)
abbrev auU:Ty:=(.raw 1)
abbrev auV:Ty:=(.raw 1)
abbrev auW:Ty:=(.raw 1)
abbrev auX:Ty:=(.raw 1)
abbrev auY:Ty:=(.raw 1)
abbrev auZ:Ty:=(.agg (.pair al (.pair bX (.pair bX (.pair ox bm)))))
abbrev ace:Ty:=(.agg (.pair al (.pair bX (.pair bX (.pair ox bm)))))
abbrev au0:Ty:=(.raw 1)
abbrev au1:Ty:=(.raw 1)
abbrev au2:Ty:=(.raw 1)
abbrev au3:Ty:=(.raw 1)
abbrev au4:Ty:=(.raw 1)
abbrev au5:Ty:=(.raw 1)
abbrev au6:Ty:=(.raw 1)
abbrev au7:Ty:=(.raw 1)
abbrev au8:Ty:=(.agg (.pair av (.pair eF (.pair av (.pair av (.pair eF (.pair av av)))))))
abbrev au9:Ty:=(.agg (.pair av (.pair eF (.pair av (.pair av (.pair eF (.pair av av)))))))
abbrev ava:Ty:=(.raw 1)
abbrev avb:Ty:=(.raw 1)
abbrev avc:Ty:=(.raw 1)
abbrev avd:Ty:=(.raw 1)
abbrev ave:Ty:=(.raw 1)
abbrev avf:Ty:=(.slice 46 uh)
abbrev avg:Ty:=(.raw 1)
abbrev avh:Ty:=(.raw 1)
abbrev avj:Ty:=(.raw 1)
abbrev avk:Ty:=(.raw 1)
abbrev avl:Ty:=(.int .u64)
abbrev avm:Ty:=(.raw 1)
abbrev avn:Ty:=(.raw 1)
abbrev avo:Ty:=(.raw 1)
abbrev avp:Ty:=(.raw 1)
abbrev avq:Ty:=(.agg (.pair bX ox))
abbrev Ef:Ty:=(.agg (.pair bX ox))
abbrev avr:Ty:=(.raw 1)
abbrev avs:Ty:=(.raw 1)
abbrev avt:Ty:=(.raw 1)
abbrev avu:Ty:=(.raw 1)
abbrev avv:Ty:=(.raw 1)
abbrev je:Ty:=(.slice 4 av)
abbrev avx:Ty:=(.raw 1)
abbrev avy:Ty:=(.raw 1)
abbrev ep:Ty:=(.agg (.pair .unit (.pair av (.pair av (.pair av av)))))
abbrev avz:Ty:=(.raw 1)
abbrev avB:Ty:=(.raw 1)
abbrev avD:Ty:=(.raw 1)
abbrev avE:Ty:=(.raw 1)
abbrev avF:Ty:=(.raw 1)
abbrev avG:Ty:=(.raw 1)
abbrev avH:Ty:=(.raw 1)
abbrev avI:Ty:=(.raw 1)
abbrev avJ:Ty:=(.raw 1)
abbrev avK:Ty:=(.raw 1)
abbrev avL:Ty:=(.raw 1)
abbrev avM:Ty:=(.raw 1)
abbrev avN:Ty:=(.raw 1)
abbrev avO:Ty:=(.raw 1)
abbrev avP:Ty:=(.raw 1)
abbrev avQ:Ty:=(.raw 1)
abbrev avR:Ty:=(.raw 1)
abbrev avS:Ty:=(.raw 1)
abbrev avT:Ty:=(.raw 1)
abbrev avU:Ty:=(.raw 1)
abbrev avV:Ty:=(.raw 1)
abbrev avW:Ty:=(.raw 1)
abbrev avX:Ty:=(.raw 1)
abbrev avY:Ty:=(.raw 1)
abbrev avZ:Ty:=(.raw 1)
abbrev av0:Ty:=(.raw 1)
abbrev av1:Ty:=(.raw 1)
abbrev av2:Ty:=(.raw 1)
abbrev av4:Ty:=(.int .i64)
abbrev av5:Ty:=(.raw 1)
abbrev av6:Ty:=(.raw 1)
abbrev av7:Ty:=(.raw 1)
abbrev av8:Ty:=(.raw 1)
abbrev av9:Ty:=(.raw 1)
abbrev awa:Ty:=(.int .u32)
abbrev awb:Ty:=(.raw 1)
abbrev awd:Ty:=(.int .u64)
abbrev awe:Ty:=(.int .u64)
abbrev awf:Ty:=(.raw 1)
abbrev awg:Ty:=(.raw 1)
abbrev awh:Ty:=(.raw 1)
abbrev awi:Ty:=(.raw 0)
abbrev awj:Ty:=(.raw 1)
abbrev awk:Ty:=(.raw 0)
abbrev awl:Ty:=(.raw 1)
abbrev awm:Ty:=(.raw 1)
abbrev awn:Ty:=(.raw 1)
abbrev awo:Ty:=(.raw 1)
abbrev awq:Ty:=(.raw 0)
abbrev bS:Ty:=(.slice 225 de)
abbrev auA:Ty:=(.slice 58 eF)
abbrev dV:Ty:=(.slice 153 aK)
abbrev awr:Ty:=(.agg (.pair al dV))
abbrev aw:Ty:=(.agg (.pair al dV))
abbrev aws:Ty:=(.agg (.pair aw uh))
abbrev acf:Ty:=(.agg (.pair aw uh))
abbrev awu:Ty:=(.slice 167 ab7)
abbrev acg:Ty:=(.slice 78 ach)
abbrev mV:Ty:=(.slice 221 Ed)
abbrev Mz:Ty:=(.slice 298 acd)
abbrev awP:Ty:=(.agg (.pair mV Mz))
abbrev aci:Ty:=(.agg (.pair mV Mz))
abbrev oz:Ty:=(.slice 80 mV)
abbrev gF:Ty:=(.slice 25 bS)
abbrev Mu:Ty:=(.slice 320 ace)
abbrev Mv:Ty:=(.slice 83 aci)
abbrev asD:Ty:=(.slice 56 acg)
abbrev asJ:Ty:=(.slice 174 ab8)
abbrev ou:Ty:=(.slice 348 Ef)
abbrev ate:Ty:=(.agg (.pair bX (.pair al ou)))
abbrev Ec:Ty:=(.agg (.pair bX (.pair al ou)))
abbrev atS:Ty:=(.agg (.pair al (.pair bX (.pair bX (.pair aw bm)))))
abbrev aca:Ty:=(.agg (.pair al (.pair bX (.pair bX (.pair aw bm)))))
abbrev auL:Ty:=(.agg (.pair bX aw))
abbrev oy:Ty:=(.agg (.pair bX aw))
abbrev avw:Ty:=(.slice 355 je)
abbrev q8:Ty:=(.slice 43 dV)
abbrev Ee:Ty:=(.slice 48 acf)
abbrev aue:Ty:=(.agg (.pair bS Ee))
abbrev acb:Ty:=(.agg (.pair bS Ee))
abbrev lM:Ty:=(.slice 45 aw)
abbrev avA:Ty:=(.agg (.pair al lM))
abbrev aF:Ty:=(.agg (.pair al lM))
abbrev px:Ty:=(.slice 206 Ec)
abbrev oA:Ty:=(.slice 79 px)
abbrev arR:Ty:=(.agg (.pair oz oA))
abbrev lL:Ty:=(.agg (.pair oz oA))
abbrev ar8:Ty:=(.agg (.pair lL (.pair av (.pair Mu (.pair xW Mv)))))
abbrev ar9:Ty:=(.agg (.pair lL (.pair av (.pair Mu (.pair xW Mv)))))
abbrev Mw:Ty:=(.slice 248 aca)
abbrev Mx:Ty:=(.slice 28 acb)
abbrev mU:Ty:=(.slice 304 oy)
abbrev atg:Ty:=(.agg (.pair bX (.pair al mU)))
abbrev fS:Ty:=(.agg (.pair bX (.pair al mU)))
abbrev xX:Ty:=(.slice 37 aF)
abbrev avC:Ty:=(.slice 26 Ee)
abbrev a6:Ty:=(.slice 210 fS)
abbrev mT:Ty:=(.slice 24 a6)
abbrev arU:Ty:=(.agg (.pair gF mT))
abbrev jI:Ty:=(.agg (.pair gF mT))
abbrev asc:Ty:=(.agg (.pair jI (.pair av (.pair Mw (.pair xW Mx)))))
abbrev asd:Ty:=(.agg (.pair jI (.pair av (.pair Mw (.pair xW Mx)))))
def py:vJ:=[(1,ty1,8),(2,ty2,8),(3,al,8),(4,av,1),(5,jf,1),(9,bX,16),(12,ar5,8),(20,ata,16),(21,ath,4),(22,My,24),(23,atz,8),(31,auP,8),(32,bm,24),(34,avi,8),(39,av3,8),(40,awc,8),(42,awp,8),(46,uh,24),(50,awt,8),(52,awv,16),(53,q9,16),(54,aww,8),(55,awx,8),(57,awy,8),(58,eF,16),(59,awz,8),(60,awA,8),(61,awB,8),(62,awC,8),(63,awD,8),(64,awE,8),(66,awF,8),(67,awG,8),(69,awH,8),(70,awI,8),(71,awJ,8),(72,awK,8),(73,awL,8),(75,awM,8),(76,awN,8),(77,awO,48),(78,ach,48),(84,awQ,8),(85,awR,8),(86,awS,8),(87,awT,8),(88,awU,8),(89,awV,8),(90,awW,8),(91,awX,8),(92,awY,8),(93,awZ,8),(94,aw0,8),(95,aw1,8),(96,aw2,8),(97,aw3,8),(102,arS,8),(103,arT,8),(108,arV,8),(109,arW,8),(110,arX,8),(111,arY,8),(112,arZ,8),(113,ar0,8),(114,ar1,8),(115,ar2,8),(116,ar3,8),(118,ar4,8),(120,ar6,8),(121,ar7,8),(123,xW,24),(127,asa,8),(128,asb,8),(133,ase,8),(134,asf,8),(135,asg,8),(136,ash,8),(137,asi,8),(139,asj,8),(141,asl,8),(142,asm,8),(143,asn,8),(144,aso,8),(145,asp,8),(146,asq,8),(147,asr,8),(148,ass,8),(149,ast,8),(150,asu,8),(151,asv,8),(152,asw,40),(153,aK,40),(154,asx,8),(155,asy,8),(156,asz,8),(157,asA,8),(158,asB,8),(159,asC,8),(161,asE,8),(163,asF,8),(164,asG,8),(165,asH,8),(166,asI,48),(167,ab7,48),(170,asK,8),(171,asL,32),(172,uf,32),(173,asM,96),(174,ab8,96),(175,asN,8),(176,asO,8),(177,asP,24),(179,asQ,8),(180,asR,8),(181,asS,8),(182,asT,8),(183,asU,8),(184,asV,8),(185,asW,8),(186,asX,8),(187,asY,8),(188,asZ,8),(190,as0,8),(191,as1,8),(192,as2,8),(193,as3,8),(194,as4,8),(195,as5,8),(196,as6,8),(197,as7,8),(198,as8,32),(199,ab9,32),(201,atb,8),(202,atc,8),(203,atd,8),(207,atf,8),(211,ati,8),(212,atj,8),(213,atk,8),(214,atl,8),(215,atm,8),(216,atn,8),(217,ato,8),(218,atp,8),(219,ug,40),(220,atq,128),(221,Ed,128),(222,atr,8),(223,att,8),(224,atu,128),(225,de,128),(226,atv,8),(227,atw,8),(228,atx,8),(229,aty,8),(230,atA,8),(231,atB,8),(232,atC,8),(233,atD,8),(234,atE,8),(235,atF,8),(236,atG,8),(237,atH,8),(238,atI,8),(239,atJ,8),(240,atK,8),(241,atL,8),(242,atM,8),(243,atN,8),(244,atO,8),(245,atP,8),(246,atQ,8),(249,atT,8),(250,atU,8),(251,atV,8),(252,atW,8),(253,atX,8),(254,atY,8),(255,atZ,8),(256,at1,8),(257,at2,8),(258,at3,8),(259,at4,40),(260,at5,40),(261,at6,8),(262,at7,8),(263,at8,8),(264,at9,8),(265,aua,8),(266,aub,8),(267,auc,8),(268,aud,8),(270,auf,8),(271,aug,8),(272,auh,8),(273,aui,8),(274,auj,8),(275,auk,24),(276,aul,8),(277,aum,8),(278,aun,8),(279,auo,8),(280,aup,8),(281,auq,8),(282,aur,8),(283,aus,8),(284,aut,8),(285,auu,8),(286,auv,8),(287,auw,8),(288,auy,8),(289,auz,8),(290,auB,8),(291,auC,8),(292,auD,8),(293,auE,8),(294,ow,24),(295,auF,32),(296,ox,32),(297,auG,56),(298,acd,56),(299,auH,8),(300,auI,8),(301,auJ,8),(302,auK,8),(305,auM,8),(306,auN,8),(307,auO,8),(310,auQ,8),(311,auR,8),(312,auS,8),(313,auT,8),(314,auU,8),(315,auV,8),(316,auW,8),(317,auX,8),(318,auY,8),(319,auZ,96),(320,ace,96),(321,au0,8),(322,au1,8),(323,au2,8),(325,au3,8),(326,au4,8),(327,au5,8),(328,au6,8),(329,au7,8),(330,au8,56),(331,au9,56),(332,ava,8),(333,avb,8),(334,avc,8),(335,avd,8),(336,ave,8),(337,avf,24),(338,avg,8),(339,avh,8),(340,avj,8),(341,avk,8),(342,avl,8),(343,avm,8),(344,avn,8),(345,avo,8),(346,avp,8),(347,avq,48),(348,Ef,48),(349,avr,8),(350,avs,8),(351,avt,8),(352,avu,8),(353,avv,8),(355,je,24),(356,avx,8),(357,avy,8),(358,ep,4),(359,avz,8),(360,avB,8),(362,avD,8),(363,avE,8),(364,avF,8),(365,avG,8),(366,avH,8),(368,avI,8),(369,avJ,8),(371,avK,8),(372,avL,8),(373,avM,8),(374,avN,8),(375,avO,8),(376,avP,8),(377,avQ,8),(378,avR,8),(379,avS,8),(380,avT,8),(381,avU,8),(382,avV,8),(383,avW,8),(384,avX,8),(385,avY,8),(386,avZ,8),(387,av0,8),(388,av1,8),(389,av2,8),(390,av4,8),(392,av5,8),(393,av6,8),(394,av7,8),(396,av8,8),(397,av9,8),(398,awa,4),(399,awb,8),(400,awd,8),(401,awe,8),(402,awf,8),(403,awg,8),(404,awh,8),(405,awi,8),(406,awj,8),(407,awk,8),(409,awl,8),(410,awm,8),(416,awn,8),(419,awo,8),(420,awq,8),(25,bS,24),(29,auA,24),(43,dV,24),(44,awr,32),(45,aw,32),(47,aws,56),(48,acf,56),(51,awu,24),(56,acg,24),(80,mV,24),(81,Mz,24),(82,awP,48),(83,aci,48),(98,oz,24),(104,gF,24),(122,Mu,24),(124,Mv,24),(160,asD,24),(168,asJ,24),(204,ou,24),(205,ate,48),(206,Ec,48),(247,atS,96),(248,aca,96),(303,auL,48),(304,oy,48),(354,avw,24),(370,q8,24),(26,Ee,24),(27,aue,48),(28,acb,48),(35,lM,24),(36,avA,32),(37,aF,32),(79,px,24),(99,oA,24),(100,arR,48),(101,lL,48),(125,ar8,128),(126,ar9,128),(129,Mw,24),(130,Mx,24),(208,mU,24),(209,atg,48),(210,fS,48),(308,xX,24),(361,avC,24),(24,a6,24),(105,mT,24),(106,arU,48),(107,jI,48),(131,asc,128),(132,asd,128)]
noncomputable section
abbrev C:Ctx:=mkCtx py
theorem mix:Tryz.prog.follows .mixedOrders=true:=by kernel_rfl
theorem En:bD Tryz.prog C:=akW (by kernel_rfl)
def abT:cX:=λ_=>none
theorem ary:fC Tryz.prog abT:=λ_ _ h=>by cases h
theorem D6{bj:cX}{f:FuncId}{F:Am.Fn}(h:fC Tryz.prog bj)(hF:ao Tryz.prog f F):fC Tryz.prog (λg=>bif g==f then some F else bj g):=by
 intro g G hg;dsimp only at hg;cases hc:g==f with
 | true =>
  rw[hc]at hg;simp only[cond_true,Option.some.injEq]at hg;rw[beq_iff_eq]at hc;subst hc hg;exact hF
 | false =>
  rw[hc]at hg;exact h g G hg
theorem ok{M:MF}{fn:Func}{f:FuncId}{t:cX}(ht:fC Tryz.prog t)(hf:Tryz.prog.funcs[f]?=some fn)(h:(M.fits fn,fn.results.toList)=(true,M.sl.map RV.var)):ao Tryz.prog f (M.fn C t fn):=MF.ok mix En ht hf h
abbrev vi(x:Int):V:=.d none 0 (.int .i64) x
abbrev vd(t:Ty)(x:t.den):V:=.d none 0 t x
abbrev Q1(t:Type):Type:=Option ((t×PUnit)×PUnit)
abbrev Q2(t u:Type):Type:=Option ((t×u×PUnit)×PUnit)
def Tb:Type:={t:cX // fC Tryz.prog t}
def Tb.put(T:Tb)(k:Nat){F:Am.Fn}(h:ao Tryz.prog k F):Tb:=⟨λg=>bif g==k then some F else T.1 g,D6 T.2 h⟩
def T0:Tb:=⟨abT,ary⟩
def fuel:Nat:=2000
theorem alk:fuel=1999+1:=rfl
abbrev Rat:=Int×Int
abbrev aa:=List Int×Int×Bool
abbrev ab:=Int×List aa
abbrev aX:=Int×List ab
abbrev Rw:=ByteArray×ab
abbrev Rel:=ByteArray×Int×List Rw
abbrev ak:=Int×aa×ByteArray×ByteArray×List Int×Int×Int×Int
abbrev dn:=List (List ak)×List (List Rel)
def agA:MF:=⟨[(bm,.ro),(al,.ro)],[(al,0)],[.tmp 4],[0,1,2,3],λ_=>none,⟨λ_ _=>none,λs=>Nat.testBit 0 s,λ_=>[]⟩⟩
def Qq:Am.Fn:=agA.fn C T0.1 Tryz.f249
theorem aeI:ao Tryz.prog 249 Qq:=ok T0.2 Tryz.func249 (by kernel_rfl)
def IB:Tb:=T0.put 249 aeI
def agy:MF:=⟨[(ug,.ro),(al,.ro)],[(al,0)],[.tmp 4],[0,1,2,3,5],λ_=>none,⟨λ_ _=>none,λs=>Nat.testBit 4 s,λr=>bif r==2 then [6]else []⟩⟩
def Qn:Am.Fn:=agy.fn C IB.1 Tryz.f248
theorem aeG:ao Tryz.prog 248 Qn:=ok IB.2 Tryz.func248 (by kernel_rfl)
def Iy:Tb:=IB.put 248 aeG
def agB:MF:=⟨[(Ed,.ro),(al,.ro)],[(al,0)],[.tmp 4],[0,1,2,3,5,12,19,25],λk=>bif k==4 then some 22 else bif k==7 then some 22 else none,⟨λ_ _=>none,λs=>Nat.testBit 4 s,λr=>bif r==2 then [6,26]else []⟩⟩
def Qr:Am.Fn:=agB.fn C Iy.1 Tryz.f149
theorem aeL:ao Tryz.prog 149 Qr:=ok Iy.2 Tryz.func149 (by kernel_rfl)
def Cd:Tb:=Iy.put 149 aeL
def Gq:MF:=⟨[(mV,.ro),(al,.ro)],[(al,0)],[.tmp 4],[0,1,2,3,5,18,20],λk=>bif k==1000005 then some 35 else none,⟨λ_ _=>none,λs=>Nat.testBit 0 s,λ_=>[]⟩⟩
def Qs:Am.Fn:=Gq.fn C Cd.1 Tryz.f52
theorem aeK:ao Tryz.prog 52 Qs:=ok Cd.2 Tryz.func52 (by kernel_rfl)
def Ce:Tb:=Cd.put 52 aeK
def Gr:MF:=⟨[(oz,.ro),(al,.ro)],[(al,0)],[.tmp 4],[0,1,2,3,5,18,20],λk=>bif k==1000005 then some 35 else none,⟨λ_ _=>none,λs=>Nat.testBit 0 s,λ_=>[]⟩⟩
def Qu:Am.Fn:=Gr.fn C Ce.1 Tryz.f156
theorem aeJ:ao Tryz.prog 156 Qu:=ok Ce.2 Tryz.func156 (by kernel_rfl)
def Cf:Tb:=Ce.put 156 aeJ
def Gp:MF:=⟨[(ow,.ro),(al,.ro)],[(al,0)],[.tmp 4],[0,1,2,3,5,18,20],λk=>bif k==1000005 then some 35 else none,⟨λ_ _=>none,λs=>Nat.testBit 0 s,λ_=>[]⟩⟩
def Qo:Am.Fn:=Gp.fn C Cf.1 Tryz.f334
theorem aeF:ao Tryz.prog 334 Qo:=ok Cf.2 Tryz.func334 (by kernel_rfl)
def Iz:Tb:=Cf.put 334 aeF
def agz:MF:=⟨[(ox,.ro),(al,.ro)],[(al,0)],[.tmp 4],[0,1,2,3,5],λ_=>none,⟨λ_ _=>none,λs=>Nat.testBit 4 s,λr=>bif r==2 then [6]else []⟩⟩
def Qp:Am.Fn:=agz.fn C Iz.1 Tryz.f305
theorem aeH:ao Tryz.prog 305 Qp:=ok Iz.2 Tryz.func305 (by kernel_rfl)
def IA:Tb:=Iz.put 305 aeH
def agD:MF:=⟨[(Ef,.ro),(al,.ro)],[(al,0)],[.tmp 4],[0,1,2,3,6,12],λk=>bif k==1 then some 22 else none,⟨λ_ _=>none,λs=>Nat.testBit 4 s,λr=>bif r==2 then [13]else []⟩⟩
def Qy:Am.Fn:=agD.fn C IA.1 Tryz.f304
theorem aeQ:ao Tryz.prog 304 Qy:=ok IA.2 Tryz.func304 (by kernel_rfl)
def Ci:Tb:=IA.put 304 aeQ
def Gu:MF:=⟨[(ou,.ro),(al,.ro)],[(al,0)],[.tmp 4],[0,1,2,3,5,18,20],λk=>bif k==1000005 then some 35 else none,⟨λ_ _=>none,λs=>Nat.testBit 0 s,λ_=>[]⟩⟩
def Qz:Am.Fn:=Gu.fn C Ci.1 Tryz.f239
theorem aeP:ao Tryz.prog 239 Qz:=ok Ci.2 Tryz.func239 (by kernel_rfl)
def ID:Tb:=Ci.put 239 aeP
def agC:MF:=⟨[(Ec,.ro),(al,.ro)],[(al,0)],[.tmp 4],[0,1,2,3,6,12],λk=>bif k==1 then some 22 else none,⟨λ_ _=>none,λs=>Nat.testBit 4 s,λr=>bif r==2 then [13]else []⟩⟩
def Qv:Am.Fn:=agC.fn C ID.1 Tryz.f138
theorem aeO:ao Tryz.prog 138 Qv:=ok ID.2 Tryz.func138 (by kernel_rfl)
def Cg:Tb:=ID.put 138 aeO
def Gs:MF:=⟨[(px,.ro),(al,.ro)],[(al,0)],[.tmp 4],[0,1,2,3,5,18,20],λk=>bif k==1000005 then some 35 else none,⟨λ_ _=>none,λs=>Nat.testBit 0 s,λ_=>[]⟩⟩
def Qw:Am.Fn:=Gs.fn C Cg.1 Tryz.f43
theorem aeN:ao Tryz.prog 43 Qw:=ok Cg.2 Tryz.func43 (by kernel_rfl)
def Ch:Tb:=Cg.put 43 aeN
def Gt:MF:=⟨[(oA,.ro),(al,.ro)],[(al,0)],[.tmp 4],[0,1,2,3,5,18,20],λk=>bif k==1000005 then some 35 else none,⟨λ_ _=>none,λs=>Nat.testBit 0 s,λ_=>[]⟩⟩
def Qx:Am.Fn:=Gt.fn C Ch.1 Tryz.f157
theorem aeM:ao Tryz.prog 157 Qx:=ok Ch.2 Tryz.func157 (by kernel_rfl)
def IC:Tb:=Ch.put 157 aeM
def agE:MF:=⟨[(lL,.ro),(al,.ro)],[(al,0)],[.tmp 4],[0,1,2,3,5,11],λ_=>none,⟨λ_ _=>none,λs=>Nat.testBit 4 s,λr=>bif r==2 then [6,12]else []⟩⟩
def QA:Am.Fn:=agE.fn C IC.1 Tryz.f57
theorem aeR:ao Tryz.prog 57 QA:=ok IC.2 Tryz.func57 (by kernel_rfl)
def Cj:Tb:=IC.put 57 aeR
def Gw:MF:=⟨[(bm,.ro)],[(bm,1)],[.tmp 2],[0,1,3,4,14,16,18],λk=>bif k==1000003 then some 25 else none,⟨λ_ _=>none,λs=>Nat.testBit 0 s,λ_=>[]⟩⟩
def QE:Am.Fn:=Gw.fn C Cj.1 Tryz.f254
theorem aeV:ao Tryz.prog 254 QE:=ok Cj.2 Tryz.func254 (by kernel_rfl)
def IH:Tb:=Cj.put 254 aeV
def agF:MF:=⟨[(ug,.ro)],[(aK,1)],[.cell 2 153],[0,1,2,3,4,8,11],λk=>bif k==2 then some 14 else bif k==3 then some 14 else bif k==4 then some 14 else bif k==5 then some 12 else none,⟨λ_ _=>none,λs=>Nat.testBit 14 s,λr=>bif r==1 then [5]else bif r==2 then []else bif r==3 then [14]else []⟩⟩
def QB:Am.Fn:=agF.fn C IH.1 Tryz.f253
theorem aeT:ao Tryz.prog 253 QB:=ok IH.2 Tryz.func253 (by kernel_rfl)
def IE:Tb:=IH.put 253 aeT
def agH:MF:=⟨[(Ed,.ro)],[(de,1)],[.cell 2 225],[0,1,2,3,4,7,11,14,17,21,24,27],λk=>bif k==2 then some 14 else bif k==3 then some 14 else bif k==4 then some 14 else bif k==5 then some 14 else bif k==6 then some 14 else bif k==7 then some 14 else bif k==8 then some 14 else bif k==9 then some 14 else bif k==10 then some 12 else none,⟨λ_ _=>none,λs=>Nat.testBit 14 s,λr=>bif r==1 then [8,18]else bif r==2 then []else bif r==3 then [30]else []⟩⟩
def QF:Am.Fn:=agH.fn C IE.1 Tryz.f152
theorem aeY:ao Tryz.prog 152 QF:=ok IE.2 Tryz.func152 (by kernel_rfl)
def Ck:Tb:=IE.put 152 aeY
def Gx:MF:=⟨[(mV,.ro)],[(bS,2)],[.tmp 2],[0,1,3,4,14,16,18],λk=>bif k==1000003 then some 25 else none,⟨λ_ _=>none,λs=>Nat.testBit 0 s,λ_=>[]⟩⟩
def QG:Am.Fn:=Gx.fn C Ck.1 Tryz.f54
theorem aeX:ao Tryz.prog 54 QG:=ok Ck.2 Tryz.func54 (by kernel_rfl)
def Cl:Tb:=Ck.put 54 aeX
def Gy:MF:=⟨[(oz,.ro)],[(gF,3)],[.tmp 2],[0,1,3,4,14,16,18],λk=>bif k==1000003 then some 25 else none,⟨λ_ _=>none,λs=>Nat.testBit 0 s,λ_=>[]⟩⟩
def QH:Am.Fn:=Gy.fn C Cl.1 Tryz.f161
theorem aeW:ao Tryz.prog 161 QH:=ok Cl.2 Tryz.func161 (by kernel_rfl)
def Cm:Tb:=Cl.put 161 aeW
def Gv:MF:=⟨[(ow,.ro)],[(dV,2)],[.tmp 2],[0,1,3,4,14,16,18],λk=>bif k==1000003 then some 25 else none,⟨λ_ _=>none,λs=>Nat.testBit 0 s,λ_=>[]⟩⟩
def QC:Am.Fn:=Gv.fn C Cm.1 Tryz.f335
theorem aeS:ao Tryz.prog 335 QC:=ok Cm.2 Tryz.func335 (by kernel_rfl)
def IF:Tb:=Cm.put 335 aeS
def agG:MF:=⟨[(ox,.ro)],[(aw,2)],[.cell 2 45],[0,1,2,3,4,7],λk=>bif k==2 then some 14 else bif k==3 then some 14 else bif k==4 then some 12 else none,⟨λ_ _=>none,λs=>Nat.testBit 14 s,λr=>bif r==1 then [8]else bif r==2 then []else bif r==3 then [11]else []⟩⟩
def QD:Am.Fn:=agG.fn C IF.1 Tryz.f310
theorem aeU:ao Tryz.prog 310 QD:=ok IF.2 Tryz.func310 (by kernel_rfl)
def IG:Tb:=IF.put 310 aeU
def agJ:MF:=⟨[(Ef,.ro)],[(oy,2)],[.cell 2 304],[0,1,2,3,4,7],λk=>bif k==2 then some 14 else bif k==3 then some 14 else bif k==4 then some 12 else none,⟨λ_ _=>none,λs=>Nat.testBit 14 s,λr=>bif r==1 then [8]else bif r==2 then []else bif r==3 then [11]else []⟩⟩
def QL:Am.Fn:=agJ.fn C IG.1 Tryz.f309
theorem ae3:ao Tryz.prog 309 QL:=ok IG.2 Tryz.func309 (by kernel_rfl)
def Cp:Tb:=IG.put 309 ae3
def GB:MF:=⟨[(ou,.ro)],[(mU,3)],[.tmp 2],[0,1,3,4,14,16,18],λk=>bif k==1000003 then some 25 else none,⟨λ_ _=>none,λs=>Nat.testBit 0 s,λ_=>[]⟩⟩
def QM:Am.Fn:=GB.fn C Cp.1 Tryz.f243
theorem ae2:ao Tryz.prog 243 QM:=ok Cp.2 Tryz.func243 (by kernel_rfl)
def IJ:Tb:=Cp.put 243 ae2
def agI:MF:=⟨[(Ec,.ro)],[(fS,3)],[.cell 2 210],[0,1,2,3,4,7,10],λk=>bif k==2 then some 14 else bif k==3 then some 14 else bif k==4 then some 14 else bif k==5 then some 12 else none,⟨λ_ _=>none,λs=>Nat.testBit 14 s,λr=>bif r==1 then [11]else bif r==2 then []else bif r==3 then [14]else []⟩⟩
def QI:Am.Fn:=agI.fn C IJ.1 Tryz.f142
theorem ae1:ao Tryz.prog 142 QI:=ok IJ.2 Tryz.func142 (by kernel_rfl)
def Cn:Tb:=IJ.put 142 ae1
def Gz:MF:=⟨[(px,.ro)],[(a6,4)],[.tmp 2],[0,1,3,4,14,16,18],λk=>bif k==1000003 then some 25 else none,⟨λ_ _=>none,λs=>Nat.testBit 0 s,λ_=>[]⟩⟩
def QJ:Am.Fn:=Gz.fn C Cn.1 Tryz.f46
theorem ae0:ao Tryz.prog 46 QJ:=ok Cn.2 Tryz.func46 (by kernel_rfl)
def Co:Tb:=Cn.put 46 ae0
def GA:MF:=⟨[(oA,.ro)],[(mT,5)],[.tmp 2],[0,1,3,4,14,16,18],λk=>bif k==1000003 then some 25 else none,⟨λ_ _=>none,λs=>Nat.testBit 0 s,λ_=>[]⟩⟩
def QK:Am.Fn:=GA.fn C Co.1 Tryz.f162
theorem aeZ:ao Tryz.prog 162 QK:=ok Co.2 Tryz.func162 (by kernel_rfl)
def II:Tb:=Co.put 162 aeZ
def agK:MF:=⟨[(lL,.ro)],[(jI,5)],[.cell 2 107],[0,1,2,3,4,8],λk=>bif k==2 then some 14 else bif k==3 then some 14 else bif k==4 then some 12 else none,⟨λ_ _=>none,λs=>Nat.testBit 14 s,λr=>bif r==1 then [5,9]else bif r==2 then []else bif r==3 then [12]else []⟩⟩
def QN:Am.Fn:=agK.fn C II.1 Tryz.f59
theorem ae4:ao Tryz.prog 59 QN:=ok II.2 Tryz.func59 (by kernel_rfl)
def IK:Tb:=II.put 59 ae4
def agf:MF:=⟨[(al,.ro),(al,.ro),(al,.ro)],[(av,0)],[.tmp 6],[0,1,2,3,4,5],λ_=>none,⟨λ_ _=>none,λs=>Nat.testBit 0 s,λ_=>[]⟩⟩
def PH:Am.Fn:=agf.fn C IK.1 Tryz.f128
theorem adY:ao Tryz.prog 128 PH:=ok IK.2 Tryz.func128 (by kernel_rfl)
def BN:Tb:=IK.put 128 adY
def Gd:MF:=⟨[(bX,.ro),(jf,.ro),(jf,.ro)],[(av,0)],[.tmp 6],[0,1,2,3,4,5,7],λk=>bif k==1000002 then some 135 else none,⟨λ_ _=>none,λs=>Nat.testBit 0 s,λ_=>[]⟩⟩
def P5:Am.Fn:=Gd.fn C BN.1 Tryz.f184
theorem ael:ao Tryz.prog 184 P5:=ok BN.2 Tryz.func184 (by kernel_rfl)
def Ip:Tb:=BN.put 184 ael
def af9:MF:=⟨[(al,.ro)],[(av,0)],[.tmp 2],[0,1],λ_=>none,⟨λ_ _=>none,λs=>Nat.testBit 0 s,λ_=>[]⟩⟩
def Pt:Am.Fn:=af9.fn C Ip.1 Tryz.f129
theorem adK:ao Tryz.prog 129 Pt:=ok Ip.2 Tryz.func129 (by kernel_rfl)
def Ia:Tb:=Ip.put 129 adK
def age:MF:=⟨[(al,.ro)],[(al,0)],[.tmp 2],[0,1],λ_=>none,⟨λ_ _=>none,λs=>Nat.testBit 0 s,λ_=>[]⟩⟩
def PG:Am.Fn:=age.fn C Ia.1 Tryz.f232
theorem adX:ao Tryz.prog 232 PG:=ok Ia.2 Tryz.func232 (by kernel_rfl)
def BM:Tb:=Ia.put 232 adX
def F2:MF:=⟨[(bm,.ro),(al,.ro)],[(al,0)],[.tmp 4],[0,1,2,3,5,6,7,16,18],λk=>bif k==1000003 then some 97 else bif k==1000006 then some 225 else none,⟨λ_ _=>none,λs=>Nat.testBit 0 s,λ_=>[]⟩⟩
def PK:Am.Fn:=F2.fn C BM.1 Tryz.f325
theorem ad1:ao Tryz.prog 325 PK:=ok BM.2 Tryz.func325 (by kernel_rfl)
def BP:Tb:=BM.put 325 ad1
def FL:MF:=⟨[(aK,.ro)],[(av,0)],[.tmp 2],[0,1,3,4,9,15,21,22,24,28,30],λk=>bif k==1 then some 6 else bif k==4 then some 14 else bif k==1000004 then some 10 else none,⟨λ_ _=>none,λs=>Nat.testBit 2 s,λr=>bif r==1 then [5,16,22,24,29]else []⟩⟩
def Po:Am.Fn:=FL.fn C BP.1 Tryz.f280
theorem adF:ao Tryz.prog 280 Po:=ok BP.2 Tryz.func280 (by kernel_rfl)
def Bz:Tb:=BP.put 280 adF
def FM:MF:=⟨[(aw,.ro)],[(av,0)],[.tmp 2],[0,1,3,5,11,12,14,19,20,22,23,26,30,34],λk=>bif k==2 then some 14 else bif k==4 then some 14 else bif k==6 then some 6 else bif k==1000002 then some 10 else none,⟨λ_ _=>none,λs=>Nat.testBit 2 s,λr=>bif r==1 then [6,12,14,15,20,22,23,24,35]else []⟩⟩
def Pp:Am.Fn:=FM.fn C Bz.1 Tryz.f201
theorem adG:ao Tryz.prog 201 Pp:=ok Bz.2 Tryz.func201 (by kernel_rfl)
def BA:Tb:=Bz.put 201 adG
def FR:MF:=⟨[(fS,.ro)],[(av,0)],[.tmp 2],[0,1,3,5,11,12,14,15,20,21,23,24,30,31,33,34,35,37,41,45,50],λk=>bif k==2 then some 14 else bif k==6 then some 6 else bif k==1000002 then some 10 else none,⟨λ_ _=>none,λs=>Nat.testBit 2 s,λr=>bif r==1 then [6,12,14,15,21,23,24,25,31,33,34,35,51]else []⟩⟩
def Pv:Am.Fn:=FR.fn C BA.1 Tryz.f258
theorem adM:ao Tryz.prog 258 Pv:=ok BA.2 Tryz.func258 (by kernel_rfl)
def BE:Tb:=BA.put 258 adM
def FJ:MF:=⟨[(a6,.ro),(bX,.ro)],[(al,0)],[.tmp 4],[0,1,2,3,5,12,14,15],λk=>bif k==1000002 then some 35 else none,⟨λ_ _=>none,λs=>Nat.testBit 0 s,λ_=>[]⟩⟩
def Pl:Am.Fn:=FJ.fn C BE.1 Tryz.f259
theorem adC:ao Tryz.prog 259 Pl:=ok BE.2 Tryz.func259 (by kernel_rfl)
def Bx:Tb:=BE.put 259 adC
def FN:MF:=⟨[(a6,.ro)],[(av,0)],[.tmp 2],[0,1,3,10,12,17,20,22,23],λk=>bif k==1000002 then some 9 else none,⟨λ_ _=>none,λs=>Nat.testBit 0 s,λ_=>[]⟩⟩
def Pq:Am.Fn:=FN.fn C Bx.1 Tryz.f158
theorem adH:ao Tryz.prog 158 Pq:=ok Bx.2 Tryz.func158 (by kernel_rfl)
def BB:Tb:=Bx.put 158 adH
def Ge:MF:=⟨[(a6,.ro),(a6,.ro)],[(av,0)],[.tmp 4],[0,1,2,3,5,18,20,21,23,25,26,30,32,33,35,37,38],λk=>bif k==1000002 then some 35 else none,⟨λ_ _=>none,λs=>Nat.testBit 0 s,λ_=>[]⟩⟩
def P6:Am.Fn:=Ge.fn C BB.1 Tryz.f159
theorem aem:ao Tryz.prog 159 P6:=ok BB.2 Tryz.func159 (by kernel_rfl)
def Iq:Tb:=BB.put 159 aem
def ago:MF:=⟨[(aK,.ro)],[(av,0)],[.tmp 2],[0,1,3,8,13],λk=>bif k==1 then some 6 else none,⟨λ_ _=>none,λs=>Nat.testBit 2 s,λr=>bif r==1 then [4]else []⟩⟩
def P0:Am.Fn:=ago.fn C Iq.1 Tryz.f336
theorem aeg:ao Tryz.prog 336 P0:=ok Iq.2 Tryz.func336 (by kernel_rfl)
def BZ:Tb:=Iq.put 336 aeg
def Ga:MF:=⟨[(a6,.ro),(de,.ro)],[(av,0)],[.tmp 4],[0,1,2,3,5,6,7,11,17,21,25,30,37,41,46,51,55,60,66,70,75,79,83,84,92,96,102,103,105,112,114,115,117,123,127,132,136],λk=>bif k==1 then some 25 else bif k==7 then some 24 else bif k==11 then some 121 else bif k==15 then some 57 else bif k==1000011 then some 105 else bif k==2000003 then some 9 else bif k==2000005 then some 9 else none,⟨λ_ _=>none,λs=>Nat.testBit 8 s,λr=>bif r==3 then [12,31,80,85,97,103,105,118]else []⟩⟩
def P1:Am.Fn:=Ga.fn C BZ.1 Tryz.f314
theorem aeh:ao Tryz.prog 314 P1:=ok BZ.2 Tryz.func314 (by kernel_rfl)
def B0:Tb:=BZ.put 314 aeh
def FP:MF:=⟨[(a6,.ro),(bS,.ro)],[(av,0)],[.tmp 4],[0,1,2,3,5,6,7,8,26,28,32,34,35,39,41,42,46,48,49,61,64,66,68,69,78,81,83,85,86,90,93,95,97,98,105],λk=>bif k==1000005 then some 99 else bif k==2000014 then some 227 else bif k==2000017 then some 483 else none,⟨λ_ _=>none,λs=>Nat.testBit 0 s,λ_=>[]⟩⟩
def Ps:Am.Fn:=FP.fn C B0.1 Tryz.f251
theorem adJ:ao Tryz.prog 251 Ps:=ok B0.2 Tryz.func251 (by kernel_rfl)
def BD:Tb:=B0.put 251 adJ
def FK:MF:=⟨[(a6,.ro),(bS,.ro)],[(bm,1),(av,0)],[.tmp 4,.tmp 5],[0,1,2,3,6,7,8,9,10,11,12,13,14,30,32,33,39,41,42,44,45,47,48,50,53,55,56,61,63,64,76,78,80,81,82,83,85,92,94,95,101,102,104,105,106,108,118,120,121,123,124,126,127,129,132,133,135,136,138,139,141,145,154,158,159,161],λk=>bif k==1000005 then some 194 else bif k==1000010 then some 4546 else bif k==1000015 then some 962 else bif k==1000020 then some 1474 else bif k==1000026 then some 2498 else bif k==1000032 then some 24642 else none,⟨λ_ _=>none,λs=>Nat.testBit 0 s,λ_=>[]⟩⟩
def Pm:Am.Fn:=FK.fn C BD.1 Tryz.f250
theorem adD:ao Tryz.prog 250 Pm:=ok BD.2 Tryz.func250 (by kernel_rfl)
def H9:Tb:=BD.put 250 adD
def aga:MF:=⟨[(a6,.ro),(bS,.ro)],[(av,0)],[.tmp 4],[0,1,2,3,5,6,7],λ_=>none,⟨λd i=>bif d==7 then (bif i==0 then some 11 else bif i==1 then some 12 else none)else none,λs=>Nat.testBit 0 s,λ_=>[]⟩⟩
def Pw:Am.Fn:=aga.fn C H9.1 Tryz.f150
theorem adN:ao Tryz.prog 150 Pw:=ok H9.2 Tryz.func150 (by kernel_rfl)
def BF:Tb:=H9.put 150 adN
def F1:MF:=⟨[(aK,.ro)],[(av,0)],[.tmp 2],[0,1,3,5,11,12,14],λk=>bif k==2 then some 14 else bif k==1000002 then some 10 else none,⟨λ_ _=>none,λs=>Nat.testBit 2 s,λr=>bif r==1 then [6,12,14]else []⟩⟩
def PJ:Am.Fn:=F1.fn C BF.1 Tryz.f215
theorem ad0:ao Tryz.prog 215 PJ:=ok BF.2 Tryz.func215 (by kernel_rfl)
def Ih:Tb:=BF.put 215 ad0
def agj:MF:=⟨[(aK,.ro)],[(av,0)],[.tmp 2],[0,1,3,7,11],λ_=>none,⟨λ_ _=>none,λs=>Nat.testBit 2 s,λr=>bif r==1 then []else []⟩⟩
def PN:Am.Fn:=agj.fn C Ih.1 Tryz.f291
theorem ad4:ao Tryz.prog 291 PN:=ok Ih.2 Tryz.func291 (by kernel_rfl)
def Ii:Tb:=Ih.put 291 ad4
def agl:MF:=⟨[(al,.ro)],[(aw,0)],[.cell 2 45],[0,1,2],λk=>bif k==1 then some 5 else none,⟨λ_ _=>none,λs=>Nat.testBit 4 s,λr=>bif r==2 then []else []⟩⟩
def PU:Am.Fn:=agl.fn C Ii.1 Tryz.f290
theorem aea:ao Tryz.prog 290 PU:=ok Ii.2 Tryz.func290 (by kernel_rfl)
def Im:Tb:=Ii.put 290 aea
def agk:MF:=⟨[(aK,.ro)],[(aK,1)],[.cell 2 153],[0,1,2,4,7,9],λk=>bif k==1 then some 6 else none,⟨λ_ _=>none,λs=>Nat.testBit 6 s,λr=>bif r==1 then [5]else bif r==2 then []else []⟩⟩
def PQ:Am.Fn:=agk.fn C Im.1 Tryz.f242
theorem ad6:ao Tryz.prog 242 PQ:=ok Im.2 Tryz.func242 (by kernel_rfl)
def Ik:Tb:=Im.put 242 ad6
def agh:MF:=⟨[(aK,.ro)],[(al,0)],[.tmp 2],[0,1,3],λ_=>none,⟨λ_ _=>none,λs=>Nat.testBit 2 s,λr=>bif r==1 then [4]else []⟩⟩
def PL:Am.Fn:=agh.fn C Ik.1 Tryz.f354
theorem ad2:ao Tryz.prog 354 PL:=ok Ik.2 Tryz.func354 (by kernel_rfl)
def BQ:Tb:=Ik.put 354 ad2
def F3:MF:=⟨[(aK,.ro),(aK,.ro)],[(al,0)],[.tmp 4],[0,1,2,3,5,6,7,8,9,17,23,30,31,33,37,38,40],λk=>bif k==1 then some 28 else bif k==2 then some 60 else bif k==4 then some 252 else bif k==1000004 then some 236 else none,⟨λ_ _=>none,λs=>Nat.testBit 12 s,λr=>bif r==2 then [10,18,31,33]else bif r==3 then [13,24,38,40]else []⟩⟩
def PO:Am.Fn:=F3.fn C BQ.1 Tryz.f329
theorem ad5:ao Tryz.prog 329 PO:=ok BQ.2 Tryz.func329 (by kernel_rfl)
def Ij:Tb:=BQ.put 329 ad5
def agi:MF:=⟨[(aK,.ro),(aK,.ro)],[(av,0)],[.tmp 4],[0,1,2,3,5,6,7,13,27,30],λk=>bif k==1 then some 28 else bif k==2 then some 60 else none,⟨λ_ _=>none,λs=>Nat.testBit 12 s,λr=>bif r==2 then [15]else bif r==3 then [9]else []⟩⟩
def PM:Am.Fn:=agi.fn C Ij.1 Tryz.f330
theorem ad3:ao Tryz.prog 330 PM:=ok Ij.2 Tryz.func330 (by kernel_rfl)
def BR:Tb:=Ij.put 330 ad3
def F8:MF:=⟨[(dV,.ro),(aK,.ro)],[(dV,0)],[.tmp 4],[0,1,2,3,5,6,12,14,27,29,35,37,45,51,58],λk=>bif k==2 then some 121 else bif k==4 then some 121 else bif k==7 then some 121 else bif k==8 then some 121 else bif k==10 then some 121 else bif k==1000002 then some (2^1003+41)else none,⟨λ_ _=>none,λs=>Nat.testBit 8 s,λr=>bif r==3 then [16,31,39,47,55]else []⟩⟩
def PW:Am.Fn:=F8.fn C BR.1 Tryz.f292
theorem aec:ao Tryz.prog 292 PW:=ok BR.2 Tryz.func292 (by kernel_rfl)
def BV:Tb:=BR.put 292 aec
def F7:MF:=⟨[(al,.ro),(dV,.ro)],[(aw,0)],[.cell 4 45],[0,1,2,3,4,5,6,15,17,20,22,28,30,32],λk=>bif k==1 then some 19 else bif k==3 then some 115 else bif k==7 then some 17 else bif k==8 then some 115 else bif k==9 then some 48 else bif k==1000003 then some (2^1005+2^1004+115)else none,⟨λ_ _=>none,λs=>Nat.testBit 48 s,λr=>bif r==4 then []else bif r==5 then [29,37]else []⟩⟩
def PV:Am.Fn:=F7.fn C BV.1 Tryz.f214
theorem aeb:ao Tryz.prog 214 PV:=ok BV.2 Tryz.func214 (by kernel_rfl)
def BU:Tb:=BV.put 214 aeb
def F0:MF:=⟨[(bm,.ro),(al,.ro),(av,.ro)],[(aK,1),(av,0)],[.cell 6 153,.tmp 7],[0,1,2,3,4,5,6,8,9,10,26,28,30],λk=>bif k==1 then some 199 else bif k==2 then some 455 else bif k==4 then some 1985 else bif k==6 then some 1985 else bif k==8 then some 192 else bif k==9 then some 704 else bif k==1000004 then some 1857 else none,⟨λ_ _=>none,λs=>Nat.testBit 576 s,λr=>bif r==6 then []else bif r==9 then [27,37,41]else []⟩⟩
def PI:Am.Fn:=F0.fn C BU.1 Tryz.f288
theorem adZ:ao Tryz.prog 288 PI:=ok BU.2 Tryz.func288 (by kernel_rfl)
def BO:Tb:=BU.put 288 adZ
def FW:MF:=⟨[(aK,.ro),(al,.ro),(aK,.ro),(al,.ro)],[(aK,1),(av,0)],[.cell 8 153,.tmp 9],[0,1,2,3,4,5,6,7,8,10,11,12,13,23,26,44,52,53,55,59,60,62,68,71,75,79,86],λk=>bif k==1 then some 858 else bif k==2 then some 768 else bif k==3 then some 858 else bif k==5 then some 3930 else bif k==7 then some 3930 else bif k==8 then some 1882 else bif k==9 then some 13056 else bif k==1000005 then some 3418 else none,⟨λd i=>bif d==68 then (bif i==0 then some 94 else bif i==1 then some 95 else none)else none,λs=>Nat.testBit 4432 s,λr=>bif r==4 then [14,24,45,53,55]else bif r==6 then [18,27,60,62]else bif r==8 then []else bif r==12 then [96]else []⟩⟩
def PA:Am.Fn:=FW.fn C BO.1 Tryz.f321
theorem adR:ao Tryz.prog 321 PA:=ok BO.2 Tryz.func321 (by kernel_rfl)
def BH:Tb:=BO.put 321 adR
def F5:MF:=⟨[(aw,.ro),(al,.ro)],[(aw,0),(av,0)],[.cell 4 45,.tmp 5],[0,1,2,3,4,6,7,8,9,10,11,12,13,14,17,23,24,26,27,28,30,34,35,37,42,49,55,56,58,59,60,62,64,65,67,68,69,71,79,80,81,83,87,88,90,103,107],λk=>bif k==1 then some 54 else bif k==3 then some 246 else bif k==6 then some 246 else bif k==8 then some 374 else bif k==11 then some 886 else bif k==16 then some 3958 else bif k==18 then some 48 else bif k==19 then some 4982 else bif k==20 then some (2^1006+116)else bif k==21 then some 16432 else bif k==22 then some 48 else bif k==23 then some (2^1004+16432)else bif k==1000003 then some (2^2006+214)else bif k==1000008 then some 342 else bif k==1000011 then some 854 else none,⟨λd i=>bif d==79 then (bif i==0 then some 94 else bif i==1 then some 95 else none)else none,λs=>Nat.testBit 20500 s,λr=>bif r==2 then [18,24,26,27,28,30,35,37,38,43,50,56,58,59,60,62,65,67,68,69,71,81,83,84,88,90,91]else bif r==4 then []else bif r==12 then [100]else bif r==14 then [108,112]else []⟩⟩
def PS:Am.Fn:=F5.fn C BH.1 Tryz.f274
theorem ad8:ao Tryz.prog 274 PS:=ok BH.2 Tryz.func274 (by kernel_rfl)
def BT:Tb:=BH.put 274 ad8
def FO:MF:=⟨[(aw,.ro)],[(av,0),(av,0)],[.tmp 2,.tmp 3],[0,1,4,5,6,7,11,13,16,23,32],λk=>bif k==3 then some 14 else bif k==7 then some 60 else bif k==10 then some 124 else bif k==11 then some 28 else bif k==1000005 then some 48 else none,⟨λd i=>bif d==23 then (bif i==0 then some 27 else bif i==1 then some 28 else none)else none,λs=>Nat.testBit 82 s,λr=>bif r==1 then [8,14]else bif r==4 then [24,33]else bif r==6 then [31]else []⟩⟩
def Pr:Am.Fn:=FO.fn C BT.1 Tryz.f289
theorem adI:ao Tryz.prog 289 Pr:=ok BT.2 Tryz.func289 (by kernel_rfl)
def BC:Tb:=BT.put 289 adI
def F4:MF:=⟨[(aw,.ro)],[(aw,0)],[.cell 2 45],[0,1,2,3,4,5,9,15,17,18,20],λk=>bif k==1 then some 6 else bif k==3 then some 30 else bif k==5 then some 30 else bif k==6 then some 12 else bif k==1000003 then some 30 else none,⟨λ_ _=>none,λs=>Nat.testBit 14 s,λr=>bif r==1 then [10,18,20,21]else bif r==2 then []else bif r==3 then [16,26]else []⟩⟩
def PR:Am.Fn:=F4.fn C BC.1 Tryz.f141
theorem ad7:ao Tryz.prog 141 PR:=ok BC.2 Tryz.func141 (by kernel_rfl)
def BS:Tb:=BC.put 141 ad7
def FY:MF:=⟨[(aK,.ro)],[(aK,1),(av,0)],[.cell 2 153,.tmp 3],[0,1,2,4,5,10,13,18,24,26,27,29],λk=>bif k==2 then some 12 else bif k==3 then some 14 else bif k==5 then some 62 else bif k==7 then some 62 else bif k==8 then some 28 else bif k==1000005 then some 54 else none,⟨λ_ _=>none,λs=>Nat.testBit 22 s,λr=>bif r==1 then [6,19,27,29]else bif r==2 then []else bif r==4 then [25,35]else []⟩⟩
def PC:Am.Fn:=FY.fn C BS.1 Tryz.f307
theorem adT:ao Tryz.prog 307 PC:=ok BS.2 Tryz.func307 (by kernel_rfl)
def Ig:Tb:=BS.put 307 adT
def agb:MF:=⟨[(aw,.ro),(aw,.ro)],[(aw,0),(av,0)],[.cell 4 45,.tmp 5],[0,1,2,3,4,6,16,18,23,26,29,33],λk=>bif k==2 then some 48 else bif k==3 then some 60 else bif k==4 then some 112 else bif k==5 then some 48 else bif k==6 then some 112 else none,⟨λ_ _=>none,λs=>Nat.testBit 92 s,λr=>bif r==2 then [7,27]else bif r==3 then [11,30]else bif r==4 then []else bif r==6 then [34,38]else []⟩⟩
def Py:Am.Fn:=agb.fn C Ig.1 Tryz.f308
theorem adP:ao Tryz.prog 308 Py:=ok Ig.2 Tryz.func308 (by kernel_rfl)
def Ic:Tb:=Ig.put 308 adP
def af8:MF:=⟨[(aw,.ro),(aK,.ro)],[(av,0),(av,0)],[.tmp 4,.tmp 5],[0,1,2,3,6,7,8,9,10,11,12,17,19,34],λk=>bif k==1 then some 60 else bif k==2 then some 252 else none,⟨λd i=>bif d==12 then (bif i==0 then some 15 else bif i==1 then some 16 else none)else bif d==17 then (bif i==0 then some 26 else bif i==1 then some 27 else none)else bif d==34 then (bif i==0 then some 37 else bif i==1 then some 38 else none)else none,λs=>Nat.testBit 332 s,λr=>bif r==2 then [18]else bif r==3 then [13,20]else bif r==6 then [22]else bif r==8 then [35]else []⟩⟩
def Pn:Am.Fn:=af8.fn C Ic.1 Tryz.f241
theorem adE:ao Tryz.prog 241 Pn:=ok Ic.2 Tryz.func241 (by kernel_rfl)
def By:Tb:=Ic.put 241 adE
def F6:MF:=⟨[(aw,.ro)],[(aw,0),(av,0)],[.cell 2 45,.tmp 3],[0,1,2,4,5,6,7,8,9,10,11,20,26,30,33,34,38,39,45,47,48,50],λk=>bif k==3 then some 12 else bif k==5 then some 14 else bif k==6 then some 14 else bif k==8 then some 206 else bif k==9 then some 206 else bif k==12 then some 12 else bif k==14 then some 462 else bif k==16 then some 76 else bif k==1000008 then some (2^1006+2^1002+2^1001+198)else none,⟨λd i=>bif d==11 then (bif i==0 then some 14 else bif i==1 then some 15 else none)else bif d==45 then (bif i==0 then some 53 else bif i==1 then some 54 else none)else none,λs=>[1,2,6,8,8001,8002,8006,8008].contains s,λr=>bif r==1 then [12,23]else bif r==2 then []else bif r==6 then [27,34,36,39,42,48,50,51,63]else bif r==8 then [46,59]else []⟩⟩
def PT:Am.Fn:=F6.fn C By.1 Tryz.f213
theorem ad9:ao Tryz.prog 213 PT:=ok By.2 Tryz.func213 (by kernel_rfl)
def Il:Tb:=By.put 213 ad9
def agm:MF:=⟨[(aF,.ro),(aw,.ro)],[(aF,0),(av,0)],[.cell 4 37,.tmp 5],[0,1,2,3,4,6,7,8,9,10,12,21,27,32,33,34,39,42,50],λk=>bif k==1 then some 60 else bif k==2 then some 244 else bif k==3 then some 48 else bif k==4 then some 116 else bif k==5 then some 52 else bif k==6 then some 116 else bif k==7 then some 304 else none,⟨λd i=>bif d==9 then (bif i==0 then some 16 else bif i==1 then some 17 else none)else none,λs=>[2,3,4,6,8,8002,8003,8004,8006,8008].contains s,λr=>bif r==2 then [38,43]else bif r==3 then [13]else bif r==4 then []else bif r==6 then [22,28,33,34,35,45]else bif r==8 then [49,51]else []⟩⟩
def PX:Am.Fn:=agm.fn C Il.1 Tryz.f106
theorem aed:ao Tryz.prog 106 PX:=ok Il.2 Tryz.func106 (by kernel_rfl)
def BW:Tb:=Il.put 106 aed
def FG:MF:=⟨[(fS,.ro),(bX,.ro)],[(aF,0),(av,0)],[.cell 4 37,.tmp 5],[0,1,2,3,4,6,7,12,16,25,26,28,29,34,36,37,39,40],λk=>bif k==2 then some 48 else bif k==3 then some 54 else bif k==5 then some 246 else bif k==8 then some 246 else bif k==9 then some 112 else bif k==1000005 then some (2^2006+2^2004+2^2002+214)else none,⟨λ_ _=>none,λs=>Nat.testBit 84 s,λr=>bif r==2 then [8,17,26,28,29,37,39,40,41]else bif r==4 then []else bif r==6 then [35,46]else []⟩⟩
def Pf:Am.Fn:=FG.fn C BW.1 Tryz.f358
theorem adx:ao Tryz.prog 358 Pf:=ok BW.2 Tryz.func358 (by kernel_rfl)
def Bv:Tb:=BW.put 358 adx
def FZ:MF:=⟨[(aw,.ro),(bm,.ro)],[(aw,0),(av,0)],[.cell 4 45,.tmp 5],[0,1,2,3,4,6,7,8,9,10,11,18,25,38,40,45,46,48,50,51,53,55,57,58,60,61,62,64,68,70,71,73,74,76,77,79,80,88],λk=>bif k==1 then some 54 else bif k==2 then some 48 else bif k==3 then some 54 else bif k==5 then some 246 else bif k==9 then some 1014 else bif k==12 then some 48 else bif k==13 then some 1014 else bif k==14 then some 502 else bif k==16 then some 48 else bif k==17 then some 1270 else bif k==18 then some 112 else bif k==1000005 then some 214 else bif k==1000009 then some 982 else none,⟨λd i=>bif d==68 then (bif i==0 then some 83 else bif i==1 then some 84 else none)else none,λs=>Nat.testBit 1108 s,λr=>bif r==2 then [12,26,58,60,61,62,64,71,73,74,77,79,80]else bif r==4 then []else bif r==6 then [89,94]else bif r==10 then [90]else []⟩⟩
def PD:Am.Fn:=FZ.fn C Bv.1 Tryz.f349
theorem adU:ao Tryz.prog 349 PD:=ok Bv.2 Tryz.func349 (by kernel_rfl)
def BJ:Tb:=Bv.put 349 adU
def Gc:MF:=⟨[(a6,.ro),(de,.ro)],[(aF,0),(av,0)],[.cell 4 37,.tmp 5],[0,1,2,3,4,6,7,8,9,10,11,12,13,15,16,18,21,23,29,35,36,37,39,41,49],λk=>bif k==1 then some 57 else bif k==2 then some 121 else bif k==4 then some 760 else bif k==6 then some 760 else bif k==8 then some 48 else bif k==9 then some 1784 else bif k==11 then some 48 else bif k==12 then some 4856 else bif k==13 then some 112 else bif k==1000004 then some (2^1007+2^1006+2^1004+2^1003+728)else none,⟨λd i=>bif d==15 then (bif i==0 then some 26 else bif i==1 then some 27 else none)else bif d==35 then (bif i==0 then some 44 else bif i==1 then some 45 else none)else bif d==49 then (bif i==0 then some 53 else bif i==1 then some 54 else none)else none,λs=>[3,4,6,7,10,12,8003,8004,8006,8007,8010,8012].contains s,λr=>bif r==3 then [42]else bif r==4 then []else bif r==6 then [50,59]else bif r==7 then [30,37,39,40]else bif r==10 then [51]else bif r==12 then [58]else []⟩⟩
def P3:Am.Fn:=Gc.fn C BJ.1 Tryz.f337
theorem aej:ao Tryz.prog 337 P3:=ok BJ.2 Tryz.func337 (by kernel_rfl)
def B1:Tb:=BJ.put 337 aej
def FQ:MF:=⟨[(aF,.ro)],[(av,0)],[.tmp 2],[0,1,3,5,11,12,14,19,20,22,23,25,29,33],λk=>bif k==2 then some 14 else bif k==6 then some 6 else bif k==1000002 then some 10 else none,⟨λ_ _=>none,λs=>Nat.testBit 2 s,λr=>bif r==1 then [6,12,14,15,20,22,23,34]else []⟩⟩
def Pu:Am.Fn:=FQ.fn C B1.1 Tryz.f135
theorem adL:ao Tryz.prog 135 Pu:=ok B1.2 Tryz.func135 (by kernel_rfl)
def Ib:Tb:=B1.put 135 adL
def agn:MF:=⟨[(al,.ro)],[(aF,0)],[.cell 2 37],[0,1,2],λk=>bif k==1 then some 5 else none,⟨λ_ _=>none,λs=>Nat.testBit 4 s,λr=>bif r==2 then []else []⟩⟩
def PY:Am.Fn:=agn.fn C Ib.1 Tryz.f360
theorem aee:ao Tryz.prog 360 PY:=ok Ib.2 Tryz.func360 (by kernel_rfl)
def BX:Tb:=Ib.put 360 aee
def FX:MF:=⟨[(aF,.ro)],[(aF,0),(av,0)],[.cell 2 37,.tmp 3],[0,1,2,4,5,6,7,12,16,22,24,25,27],λk=>bif k==2 then some 12 else bif k==3 then some 14 else bif k==5 then some 62 else bif k==7 then some 62 else bif k==9 then some 12 else bif k==10 then some 126 else bif k==11 then some 28 else bif k==1000005 then some (2^1004+2^1002+2^1001+54)else none,⟨λd i=>bif d==22 then (bif i==0 then some 30 else bif i==1 then some 31 else none)else none,λs=>[1,2,4,6,8001,8002,8004,8006].contains s,λr=>bif r==1 then [8,17,25,27,28]else bif r==2 then []else bif r==4 then [23,36]else bif r==6 then [35]else []⟩⟩
def PB:Am.Fn:=FX.fn C BX.1 Tryz.f361
theorem adS:ao Tryz.prog 361 PB:=ok BX.2 Tryz.func361 (by kernel_rfl)
def BI:Tb:=BX.put 361 adS
def F9:MF:=⟨[(aF,.ro),(aw,.ro)],[(aF,0),(av,0)],[.cell 4 37,.tmp 5],[0,1,2,3,4,6,7,8,9,10,11,12,13,14,15,16,17,18,19,21,30,34,41,47,48,49,51,56,59,60,68,69,70,72,81],λk=>bif k==1 then some 60 else bif k==3 then some 48 else bif k==4 then some 116 else bif k==6 then some 884 else bif k==9 then some 1908 else bif k==11 then some 1908 else bif k==12 then some 3956 else bif k==13 then some 10100 else bif k==15 then some 48 else bif k==16 then some 18292 else bif k==18 then some 48 else bif k==19 then some 67444 else bif k==20 then some 304 else bif k==1000006 then some (2^1008+2^1006+2^1004+2^1002+852)else bif k==1000009 then some (2^1008+2^1006+2^1004+2^1002+1876)else none,⟨λd i=>bif d==18 then (bif i==0 then some 25 else bif i==1 then some 26 else none)else bif d==47 then (bif i==0 then some 54 else bif i==1 then some 55 else none)else bif d==68 then (bif i==0 then some 76 else bif i==1 then some 77 else none)else bif d==81 then (bif i==0 then some 85 else bif i==1 then some 86 else none)else none,λs=>[2,3,4,6,8,11,13,14,16,8002,8003,8004,8006,8008,8011,8013,8014,8016].contains s,λr=>bif r==2 then [35,70,72,73]else bif r==3 then [22]else bif r==4 then []else bif r==6 then [42,49,51,52,60,62]else bif r==8 then [82,91]else bif r==11 then [64]else bif r==13 then [74]else bif r==14 then [83]else bif r==16 then [90]else []⟩⟩
def PZ:Am.Fn:=F9.fn C BI.1 Tryz.f375
theorem aef:ao Tryz.prog 375 PZ:=ok BI.2 Tryz.func375 (by kernel_rfl)
def BY:Tb:=BI.put 375 aef
def FH:MF:=⟨[(aF,.ro),(aF,.ro)],[(aF,0),(av,0)],[.cell 4 37,.tmp 5],[0,1,2,3,4,6,7,8,9,10,11,24,26,32,38,40,41,43],λk=>bif k==1 then some 60 else bif k==3 then some 48 else bif k==5 then some 376 else bif k==7 then some 376 else bif k==9 then some 48 else bif k==10 then some 888 else bif k==11 then some 112 else bif k==1000005 then some (2^1006+2^1004+2^1003+344)else none,⟨λd i=>bif d==11 then (bif i==0 then some 14 else bif i==1 then some 15 else none)else bif d==38 then (bif i==0 then some 46 else bif i==1 then some 47 else none)else none,λs=>[2,3,4,6,9,8002,8003,8004,8006,8009].contains s,λr=>bif r==2 then [12]else bif r==3 then [19,33,41,43,44]else bif r==4 then []else bif r==6 then [39,52]else bif r==9 then [51]else []⟩⟩
def Ph:Am.Fn:=FH.fn C BY.1 Tryz.f359
theorem adz:ao Tryz.prog 359 Ph:=ok BY.2 Tryz.func359 (by kernel_rfl)
def H6:Tb:=BY.put 359 adz
def af6:MF:=⟨[(aF,.ro)],[(aF,0),(av,0)],[.cell 2 37,.tmp 3],[0,1,2,4,5,10,11],λk=>bif k==2 then some 12 else bif k==3 then some 14 else bif k==4 then some 60 else none,⟨λd i=>bif d==10 then (bif i==0 then some 16 else bif i==1 then some 17 else none)else none,λs=>[1,2,4,8001,8002,8004].contains s,λr=>bif r==1 then [6,14]else bif r==2 then []else bif r==4 then [18]else []⟩⟩
def Pg:Am.Fn:=af6.fn C H6.1 Tryz.f338
theorem ady:ao Tryz.prog 338 Pg:=ok H6.2 Tryz.func338 (by kernel_rfl)
def Bw:Tb:=H6.put 338 ady
def FV:MF:=⟨[(aF,.ro),(aF,.ro)],[(aF,0),(av,0)],[.cell 4 37,.tmp 5],[0,1,2,3,4,6,7,8,9,10,11,12,22,24,29,33,40,46,47,48,50,52,53,55,63],λk=>bif k==2 then some 48 else bif k==3 then some 60 else bif k==5 then some 252 else bif k==8 then some 508 else bif k==10 then some 508 else bif k==12 then some 48 else bif k==13 then some 1020 else bif k==15 then some 48 else bif k==16 then some 2556 else bif k==17 then some 112 else bif k==1000005 then some (2^1006+2^1004+2^1003+2^1002+220)else bif k==1000008 then some (2^1006+2^1004+2^1003+2^1002+476)else none,⟨λd i=>bif d==46 then (bif i==0 then some 58 else bif i==1 then some 59 else none)else bif d==63 then (bif i==0 then some 67 else bif i==1 then some 68 else none)else none,λs=>[2,3,4,6,9,11,8002,8003,8004,8006,8009,8011].contains s,λr=>bif r==2 then [13,34,48,50,51]else bif r==3 then [17,41,53,55,56]else bif r==4 then []else bif r==6 then [64,73]else bif r==9 then [65]else bif r==11 then [72]else []⟩⟩
def Pz:Am.Fn:=FV.fn C Bw.1 Tryz.f339
theorem adQ:ao Tryz.prog 339 Pz:=ok Bw.2 Tryz.func339 (by kernel_rfl)
def Ie:Tb:=Bw.put 339 adQ
def agd:MF:=⟨[(aF,.ro),(aF,.ro)],[(aF,0),(av,0)],[.cell 4 37,.tmp 5],[0,1,2,3,4,6,7,8,9,10,15,27,29,34,37,44,47,50],λk=>bif k==1 then some 60 else bif k==2 then some 252 else bif k==3 then some 1020 else bif k==4 then some 48 else bif k==5 then some 372 else none,⟨λd i=>bif d==10 then (bif i==0 then some 13 else bif i==1 then some 14 else none)else bif d==15 then (bif i==0 then some 18 else bif i==1 then some 19 else none)else none,λs=>[2,3,4,6,8,8002,8003,8004,8006,8008].contains s,λr=>bif r==2 then [11]else bif r==3 then [16]else bif r==4 then []else bif r==6 then [35,48]else bif r==8 then [38,51]else []⟩⟩
def PF:Am.Fn:=agd.fn C Ie.1 Tryz.f340
theorem adW:ao Tryz.prog 340 PF:=ok Ie.2 Tryz.func340 (by kernel_rfl)
def BL:Tb:=Ie.put 340 adW
def FI:MF:=⟨[(aF,.ro),(al,.ro)],[(aF,0),(av,0)],[.cell 4 37,.tmp 5],[0,1,2,3,4,6,7,8,9,10,11,17,24,28,34,35,37,38,40,41,51],λk=>bif k==2 then some 48 else bif k==3 then some 54 else bif k==5 then some 246 else bif k==7 then some 246 else bif k==9 then some 48 else bif k==10 then some 502 else bif k==12 then some 48 else bif k==13 then some 1270 else bif k==14 then some 112 else bif k==1000005 then some (2^1006+2^1004+2^1002+214)else none,⟨λd i=>bif d==34 then (bif i==0 then some 46 else bif i==1 then some 47 else none)else bif d==51 then (bif i==0 then some 55 else bif i==1 then some 56 else none)else none,λs=>[2,4,6,8,10,8002,8004,8006,8008,8010].contains s,λr=>bif r==2 then [12,29,38,40,41,42]else bif r==4 then []else bif r==6 then [52,61]else bif r==8 then [53]else bif r==10 then [60]else []⟩⟩
def Pj:Am.Fn:=FI.fn C BL.1 Tryz.f341
theorem adA:ao Tryz.prog 341 Pj:=ok BL.2 Tryz.func341 (by kernel_rfl)
def H7:Tb:=BL.put 341 adA
def agp:MF:=⟨[(a6,.ro),(de,.ro),(xX,.mut 1)],[(aF,0),(av,0)],[.cell 6 37,.tmp 7],[0,1,2,3,4,5,6,8,9,10,11,12,13,14,15,16,17,18,19,20,21,22,23,24,25,26,30,32,43,53,54,55,57,66,67,68,70,72,73,75,84,85,86,88,90,91,93,102,103,104,106,108,115,116,117,119,124,126,138],λk=>bif k==3 then some 212 else bif k==4 then some 964 else bif k==6 then some 213 else bif k==7 then some 3268 else bif k==9 then some 212 else bif k==10 then some 12484 else bif k==12 then some 212 else bif k==13 then some 49348 else bif k==15 then some 212 else bif k==16 then some 196804 else bif k==18 then some 212 else bif k==19 then some 786628 else bif k==20 then some 212 else bif k==21 then some 3145940 else bif k==23 then some 196 else bif k==24 then some 4194500 else bif k==25 then some 50331844 else none,⟨λd i=>bif d==30 then (bif i==0 then some 37 else bif i==1 then some 38 else none)else bif d==43 then (bif i==0 then some 47 else bif i==1 then some 48 else none)else bif d==53 then (bif i==0 then some 60 else bif i==1 then some 61 else none)else bif d==66 then (bif i==0 then some 78 else bif i==1 then some 79 else none)else bif d==84 then (bif i==0 then some 96 else bif i==1 then some 97 else none)else bif d==102 then (bif i==0 then some 111 else bif i==1 then some 112 else none)else bif d==115 then (bif i==0 then some 122 else bif i==1 then some 123 else none)else bif d==124 then (bif i==0 then some 129 else bif i==1 then some 130 else none)else bif d==138 then (bif i==0 then some 141 else bif i==1 then some 142 else none)else none,λs=>[4,6,8,10,12,14,16,18,20,22,24,8004,8006,8008,8010,8012,8014,8016,8018,8020,8022,8024].contains s,λr=>bif r==4 then [33,45,57,58,70,71,75,76,88,89,93,94,106,107,119,120]else bif r==6 then []else bif r==8 then [39]else bif r==10 then [49]else bif r==12 then [62]else bif r==14 then [80]else bif r==16 then [98]else bif r==18 then [113]else bif r==20 then [125]else bif r==22 then [139]else bif r==24 then [143]else []⟩⟩
def P4:Am.Fn:=agp.fn C H7.1 Tryz.f315
theorem aek:ao Tryz.prog 315 P4:=ok H7.2 Tryz.func315 (by kernel_rfl)
def B2:Tb:=H7.put 315 aek
def Gb:MF:=⟨[(a6,.ro),(bS,.ro)],[(xX,0),(av,0)],[.tmp 4,.tmp 5],[0,1,2,3,6,7,8,9,17,19,21],λk=>bif k==1 then some 115 else bif k==3 then some 243 else bif k==5 then some 243 else bif k==7 then some 112 else bif k==8 then some 499 else bif k==1000003 then some (2^2006+195)else none,⟨λd i=>bif d==17 then (bif i==0 then some 25 else bif i==1 then some 26 else none)else none,λs=>Nat.testBit 256 s,λr=>bif r==8 then [31]else []⟩⟩
def P2:Am.Fn:=Gb.fn C B2.1 Tryz.f252
theorem aei:ao Tryz.prog 252 P2:=ok B2.2 Tryz.func252 (by kernel_rfl)
def Io:Tb:=B2.put 252 aei
def af7:MF:=⟨[(a6,.ro),(bS,.ro)],[(aF,0),(av,0)],[.cell 4 37,.tmp 5],[0,1,2,3,4,6,7,13,22,26],λk=>bif k==2 then some 48 else bif k==5 then some 48 else bif k==6 then some 112 else none,⟨λd i=>bif d==13 then (bif i==0 then some 17 else bif i==1 then some 18 else none)else none,λs=>[4,8004].contains s,λr=>bif r==4 then []else []⟩⟩
def Pk:Am.Fn:=af7.fn C Io.1 Tryz.f151
theorem adB:ao Tryz.prog 151 Pk:=ok Io.2 Tryz.func151 (by kernel_rfl)
def H8:Tb:=Io.put 151 adB
def agc:MF:=⟨[(a6,.ro),(bS,.ro)],[(av,0),(av,0)],[.tmp 4,.tmp 5],[0,1,2,3,6,7,12,20],λk=>bif k==3 then some 51 else bif k==4 then some 240 else none,⟨λd i=>bif d==12 then (bif i==0 then some 16 else bif i==1 then some 17 else none)else none,λs=>Nat.testBit 64 s,λr=>bif r==6 then [21]else []⟩⟩
def PE:Am.Fn:=agc.fn C H8.1 Tryz.f53
theorem adV:ao Tryz.prog 53 PE:=ok H8.2 Tryz.func53 (by kernel_rfl)
def BK:Tb:=H8.put 53 adV
def Gf:MF:=⟨[(a6,.ro),(gF,.ro)],[(av,0)],[.tmp 4],[0,1,2,3,5,6,7,14,16,18],λk=>bif k==1000002 then some 35 else none,⟨λd i=>bif d==14 then (bif i==0 then some 21 else bif i==1 then some 22 else none)else none,λs=>Nat.testBit 0 s,λ_=>[]⟩⟩
def P7:Am.Fn:=Gf.fn C BK.1 Tryz.f160
theorem aen:ao Tryz.prog 160 P7:=ok BK.2 Tryz.func160 (by kernel_rfl)
def B3:Tb:=BK.put 160 aen
def FU:MF:=⟨[(jI,.ro)],[(av,0)],[.tmp 2],[0,1,3,4,6,12,13,15,20,21,22,24,25,27,32,38,44,50,51,53,55],λk=>bif k==2 then some 14 else bif k==6 then some 6 else bif k==9 then some 22 else bif k==1000002 then some 10 else bif k==1000009 then some 18 else none,⟨λ_ _=>none,λs=>Nat.testBit 2 s,λr=>bif r==1 then [7,13,15,16,21,22,23,25,27,28,33,39,45,51,53,54,56]else []⟩⟩
def Px:Am.Fn:=FU.fn C B3.1 Tryz.f58
theorem adO:ao Tryz.prog 58 Px:=ok B3.2 Tryz.func58 (by kernel_rfl)
def BG:Tb:=B3.put 58 adO
def Fw:MF:=⟨[(bX,.ro),(jf,.ro),(jf,.ro)],[(av,0)],[.tmp 6],[0,1,2,3,4,5,7],λk=>bif k==1000004 then some 135 else none,⟨λ_ _=>none,λs=>Nat.testBit 0 s,λ_=>[]⟩⟩
def OX:Am.Fn:=Fw.fn C BG.1 Tryz.f269
theorem ade:ao Tryz.prog 269 OX:=ok BG.2 Tryz.func269 (by kernel_rfl)
def HT:Tb:=BG.put 269 ade
def afW:MF:=⟨[(bX,.ro)],[(av,0)],[.tmp 2],[0,1],λ_=>none,⟨λ_ _=>none,λs=>Nat.testBit 0 s,λ_=>[]⟩⟩
def OV:Am.Fn:=afW.fn C HT.1 Tryz.f190
theorem ada:ao Tryz.prog 190 OV:=ok HT.2 Tryz.func190 (by kernel_rfl)
def HR:Tb:=HT.put 190 ada
def afV:MF:=⟨[(bX,.ro)],[(av,0)],[.tmp 2],[0,1],λ_=>none,⟨λ_ _=>none,λs=>Nat.testBit 0 s,λ_=>[]⟩⟩
def OU:Am.Fn:=afV.fn C HR.1 Tryz.f267
theorem ac9:ao Tryz.prog 267 OU:=ok HR.2 Tryz.func267 (by kernel_rfl)
def HQ:Tb:=HR.put 267 ac9
def afF:MF:=⟨[(al,.ro)],[(av,0)],[.tmp 2],[0,1],λ_=>none,⟨λ_ _=>none,λs=>Nat.testBit 0 s,λ_=>[]⟩⟩
def Om:Am.Fn:=afF.fn C HQ.1 Tryz.f216
theorem acF:ao Tryz.prog 216 Om:=ok HQ.2 Tryz.func216 (by kernel_rfl)
def Hx:Tb:=HQ.put 216 acF
def afN:MF:=⟨[(al,.ro)],[(al,0)],[.tmp 2],[0,1],λ_=>none,⟨λ_ _=>none,λs=>Nat.testBit 0 s,λ_=>[]⟩⟩
def OF:Am.Fn:=afN.fn C Hx.1 Tryz.f328
theorem acV:ao Tryz.prog 328 OF:=ok Hx.2 Tryz.func328 (by kernel_rfl)
def Be:Tb:=Hx.put 328 acV
def Fq:MF:=⟨[(al,.ro),(al,.ro)],[(al,0)],[.tmp 4],[0,1,2,3],λk=>bif k==1000002 then some 3 else none,⟨λ_ _=>none,λs=>Nat.testBit 0 s,λ_=>[]⟩⟩
def OI:Am.Fn:=Fq.fn C Be.1 Tryz.f286
theorem acY:ao Tryz.prog 286 OI:=ok Be.2 Tryz.func286 (by kernel_rfl)
def Bh:Tb:=Be.put 286 acY
def Fu:MF:=⟨[(bm,.ro)],[(al,0)],[.tmp 2],[0,1,3,4,5,6,10],λk=>bif k==1000003 then some 457 else none,⟨λ_ _=>none,λs=>Nat.testBit 0 s,λ_=>[]⟩⟩
def OO:Am.Fn:=Fu.fn C Bh.1 Tryz.f287
theorem ac4:ao Tryz.prog 287 OO:=ok Bh.2 Tryz.func287 (by kernel_rfl)
def Bj:Tb:=Bh.put 287 ac4
def Fb:MF:=⟨[(aK,.ro)],[(av,0)],[.tmp 2],[0,1,3,4,5,10,15,16,20,26,29],λk=>bif k==1 then some 6 else bif k==3 then some 6 else bif k==1000004 then some 458754 else none,⟨λ_ _=>none,λs=>Nat.testBit 2 s,λr=>bif r==1 then [6,16,20,27]else []⟩⟩
def Og:Am.Fn:=Fb.fn C Bj.1 Tryz.f206
theorem acA:ao Tryz.prog 206 Og:=ok Bj.2 Tryz.func206 (by kernel_rfl)
def A4:Tb:=Bj.put 206 acA
def Fc:MF:=⟨[(aw,.ro)],[(av,0)],[.tmp 2],[0,1,3,4,5,9,14,19,20,24,30,33],λk=>bif k==1 then some 6 else bif k==3 then some 6 else bif k==5 then some 7340038 else bif k==6 then some 7340054 else bif k==1000004 then some 7340034 else none,⟨λ_ _=>none,λs=>Nat.testBit 18 s,λr=>bif r==1 then [15,20,24,25]else bif r==4 then [26,31]else []⟩⟩
def Oh:Am.Fn:=Fc.fn C A4.1 Tryz.f97
theorem acB:ao Tryz.prog 97 Oh:=ok A4.2 Tryz.func97 (by kernel_rfl)
def A5:Tb:=A4.put 97 acB
def Fh:MF:=⟨[(fS,.ro)],[(av,0)],[.tmp 2],[0,1,3,4,5,10,15,20,25,26,30,32,37,43,44,46],λk=>bif k==1 then some 6 else bif k==3 then some 6 else bif k==5 then some 469762054 else bif k==1000004 then some 469762050 else none,⟨λ_ _=>none,λs=>Nat.testBit 18 s,λr=>bif r==1 then [21,26,30,31]else bif r==4 then [38]else []⟩⟩
def Oo:Am.Fn:=Fh.fn C A5.1 Tryz.f260
theorem acH:ao Tryz.prog 260 Oo:=ok A5.2 Tryz.func260 (by kernel_rfl)
def A7:Tb:=A5.put 260 acH
def E9:MF:=⟨[(a6,.ro),(bX,.ro)],[(al,0)],[.tmp 4],[0,1,2,3,5,6,7,12,14],λk=>bif k==1 then some 19 else bif k==3 then some 915 else bif k==1000002 then some 899 else none,⟨λ_ _=>none,λs=>Nat.testBit 64 s,λr=>bif r==6 then []else []⟩⟩
def Od:Am.Fn:=E9.fn C A7.1 Tryz.f261
theorem acx:ao Tryz.prog 261 Od:=ok A7.2 Tryz.func261 (by kernel_rfl)
def A2:Tb:=A7.put 261 acx
def Fe:MF:=⟨[(a6,.ro)],[(av,0)],[.tmp 2],[0,1,3,4,8,13,20],λk=>bif k==1 then some 5 else bif k==3 then some 5 else bif k==5 then some 1797 else bif k==1000004 then some 1793 else none,⟨λ_ _=>none,λs=>Nat.testBit 16 s,λr=>bif r==4 then [15]else []⟩⟩
def Oi:Am.Fn:=Fe.fn C A2.1 Tryz.f163
theorem acC:ao Tryz.prog 163 Oi:=ok A2.2 Tryz.func163 (by kernel_rfl)
def A6:Tb:=A2.put 163 acC
def FE:MF:=⟨[(a6,.ro),(a6,.ro)],[(av,0)],[.tmp 4],[0,1,2,3,5,16,18,19,21,23,24,28,30,31,33,35,36],λk=>bif k==1000004 then some 12291 else none,⟨λ_ _=>none,λs=>Nat.testBit 0 s,λ_=>[]⟩⟩
def Pc:Am.Fn:=FE.fn C A6.1 Tryz.f164
theorem adt:ao Tryz.prog 164 Pc:=ok A6.2 Tryz.func164 (by kernel_rfl)
def H5:Tb:=A6.put 164 adt
def afY:MF:=⟨[(aK,.ro)],[(av,0)],[.tmp 2],[0,1,3,8,13],λk=>bif k==1 then some 6 else none,⟨λ_ _=>none,λs=>Nat.testBit 2 s,λr=>bif r==1 then [4]else []⟩⟩
def OY:Am.Fn:=afY.fn C H5.1 Tryz.f351
theorem adf:ao Tryz.prog 351 OY:=ok H5.2 Tryz.func351 (by kernel_rfl)
def HU:Tb:=H5.put 351 adf
def afX:MF:=⟨[(al,.ro)],[(av,0)],[.tmp 2],[0,1],λ_=>none,⟨λ_ _=>none,λs=>Nat.testBit 0 s,λ_=>[]⟩⟩
def OW:Am.Fn:=afX.fn C HU.1 Tryz.f352
theorem adb:ao Tryz.prog 352 OW:=ok HU.2 Tryz.func352 (by kernel_rfl)
def Bl:Tb:=HU.put 352 adb
def Fv:MF:=⟨[(a6,.ro),(de,.ro)],[(av,0)],[.tmp 4],[0,1,2,3,5,6,7,8,12,17,21,25,30,36,40,44,49,50,58,61,69,71,72,74,80,84,90,91,95,104,107],λk=>bif k==3 then some 25 else bif k==7 then some 24 else bif k==10 then some 57 else bif k==12 then some 24 else bif k==1000013 then some (2^93+2^92+2^91+8)else bif k==2000003 then some 9 else bif k==2000005 then some 9 else bif k==2000012 then some 8 else bif k==2000021 then some (2^101+8)else none,⟨λ_ _=>none,λs=>Nat.testBit 8 s,λr=>bif r==3 then [13,31,45,51,75,91,95]else []⟩⟩
def OQ:Am.Fn:=Fv.fn C Bl.1 Tryz.f323
theorem ac6:ao Tryz.prog 323 OQ:=ok Bl.2 Tryz.func323 (by kernel_rfl)
def HM:Tb:=Bl.put 323 ac6
def af2:MF:=⟨[(al,.ro)],[(al,0)],[.tmp 2],[0,1],λ_=>none,⟨λ_ _=>none,λs=>Nat.testBit 0 s,λ_=>[]⟩⟩
def O7:Am.Fn:=af2.fn C HM.1 Tryz.f324
theorem ado:ao Tryz.prog 324 O7:=ok HM.2 Tryz.func324 (by kernel_rfl)
def Bp:Tb:=HM.put 324 ado
def Ff:MF:=⟨[(a6,.ro),(bS,.ro)],[(av,0)],[.tmp 4],[0,1,2,3,5,6,7,24,29,35,40,44,48,57,64,68,70,73,81,88,91,96,98,101,106,108,109,111,115,119],λk=>bif k==1 then some 19 else bif k==3 then some 19 else bif k==4 then some 51 else bif k==6 then some 117440563 else bif k==14 then some 117440627 else bif k==18 then some 117440627 else bif k==22 then some 117440755 else bif k==24 then some 50 else bif k==1000005 then some 117440547 else bif k==2000023 then some 117440547 else none,⟨λ_ _=>none,λs=>Nat.testBit 128 s,λr=>bif r==7 then [32,111]else []⟩⟩
def Ol:Am.Fn:=Ff.fn C Bp.1 Tryz.f279
theorem acE:ao Tryz.prog 279 Ol:=ok Bp.2 Tryz.func279 (by kernel_rfl)
def sn:Tb:=Bp.put 279 acE
def ux(t:cX):Am.Fn:=Lm C t [0,1,2,3,4,5,6,7,8,9,10,11,12,13,15,18,21,24,29,30,31,36,45,46,50,59,63,72,82] 86 (λk=>bif k==1 then some 19 else bif k==2 then some 49 else bif k==4 then some 113 else bif k==5 then some 112 else bif k==7 then some 112 else bif k==10 then some 15032386032 else bif k==13 then some 112 else bif k==16 then some 492581209244784 else bif k==20 then some 113 else bif k==24 then some 110680464442257315920 else bif k==27 then some 113 else bif k==28 then some 80 else bif k==1000008 then some 15032385648 else bif k==1000014 then some 492581209243760 else bif k==1000022 then some 110680464442257309776 else bif k==2000020 then some 36028797019488369 else bif k==2000028 then some 80 else none) ⟨λ_ _=>none,λs=>Nat.testBit 32 s,λr=>bif r==5 then [26,31,36,46,50,53]else []⟩ [(bS,.ro),(al,.ro)] [(ep,0)] [.cell 4 358] (Tryz.f316.body.getD .skip)
theorem OR{t:cX}(h:fC Tryz.prog t):ao Tryz.prog 316 (ux t):=by
 unfold ux;exact aaw (fn:=Tryz.f316) mix En h Tryz.func316 (by kernel_rfl) (by kernel_rfl) (by kernel_rfl) (by kernel_rfl) (by decide)
def D5:Nat->cX:=λd=>Nat.rec (motive:=λ_=>cX) sn.1 (λ_ t=>λf=>bif f==316 then some (ux t)else sn.1 f) d
theorem abU:∀d,fC Tryz.prog (D5 d)
 | 0=>sn.2
 | d+1=>(D6 (sn.2) (OR (abU d)))
def abV:cX:=λf=>bif f==316 then some (ux (D5 fuel))else sn.1 f
theorem arz:fC Tryz.prog abV:=(D6 sn.2 (OR (abU fuel)))
def Bk:Tb:=⟨abV,arz⟩
def Fa:MF:=⟨[(a6,.ro),(bS,.ro)],[(bm,1),(av,0)],[.tmp 4,.tmp 5],[0,1,2,3,6,7,8],λk=>bif k==1000005 then some 786496 else none,⟨λ_ _=>none,λs=>Nat.testBit 0 s,λ_=>[]⟩⟩
def Oe:Am.Fn:=Fa.fn C Bk.1 Tryz.f255
theorem acy:ao Tryz.prog 255 Oe:=ok Bk.2 Tryz.func255 (by kernel_rfl)
def Hv:Tb:=Bk.put 255 acy
def afG:MF:=⟨[(a6,.ro),(bS,.ro)],[(av,0)],[.tmp 4],[0,1,2,3,5,6,7],λ_=>none,⟨λd i=>bif d==7 then (bif i==0 then some 11 else bif i==1 then some 12 else none)else none,λs=>Nat.testBit 0 s,λ_=>[]⟩⟩
def Oq:Am.Fn:=afG.fn C Hv.1 Tryz.f153
theorem acI:ao Tryz.prog 153 Oq:=ok Hv.2 Tryz.func153 (by kernel_rfl)
def Hz:Tb:=Hv.put 153 acI
def afQ:MF:=⟨[(bm,.ro)],[(bm,1)],[.tmp 2],[0,1],λ_=>none,⟨λ_ _=>none,λs=>Nat.testBit 0 s,λ_=>[]⟩⟩
def OM:Am.Fn:=afQ.fn C Hz.1 Tryz.f285
theorem ac2:ao Tryz.prog 285 OM:=ok Hz.2 Tryz.func285 (by kernel_rfl)
def HJ:Tb:=Hz.put 285 ac2
def afP:MF:=⟨[(aK,.ro)],[(aK,1)],[.cell 2 153],[0,1,2,3,6,8],λk=>bif k==1 then some 6 else none,⟨λ_ _=>none,λs=>Nat.testBit 6 s,λr=>bif r==1 then [4]else bif r==2 then []else []⟩⟩
def OK:Am.Fn:=afP.fn C HJ.1 Tryz.f205
theorem ac0:ao Tryz.prog 205 OK:=ok HJ.2 Tryz.func205 (by kernel_rfl)
def HI:Tb:=HJ.put 205 ac0
def afT:MF:=⟨[(aK,.ro)],[(av,0)],[.tmp 2],[0,1,3],λ_=>none,⟨λ_ _=>none,λs=>Nat.testBit 2 s,λr=>bif r==1 then [4]else []⟩⟩
def OS:Am.Fn:=afT.fn C HI.1 Tryz.f297
theorem ac7:ao Tryz.prog 297 OS:=ok HI.2 Tryz.func297 (by kernel_rfl)
def HN:Tb:=HI.put 297 ac7
def afS:MF:=⟨[(al,.ro)],[(aw,2)],[.cell 2 45],[0,1,2],λk=>bif k==1 then some 5 else none,⟨λ_ _=>none,λs=>Nat.testBit 4 s,λr=>bif r==2 then []else []⟩⟩
def OP:Am.Fn:=afS.fn C HN.1 Tryz.f295
theorem ac5:ao Tryz.prog 295 OP:=ok HN.2 Tryz.func295 (by kernel_rfl)
def HL:Tb:=HN.put 295 ac5
def afR:MF:=⟨[(aK,.ro)],[(al,0)],[.tmp 2],[0,1,3,4],λ_=>none,⟨λ_ _=>none,λs=>Nat.testBit 2 s,λr=>bif r==1 then [5]else []⟩⟩
def ON:Am.Fn:=afR.fn C HL.1 Tryz.f374
theorem ac3:ao Tryz.prog 374 ON:=ok HL.2 Tryz.func374 (by kernel_rfl)
def HK:Tb:=HL.put 374 ac3
def af5:MF:=⟨[(al,.ro),(al,.ro)],[(al,0)],[.tmp 4],[0,1,2,3],λ_=>none,⟨λ_ _=>none,λs=>Nat.testBit 0 s,λ_=>[]⟩⟩
def Pd:Am.Fn:=af5.fn C HK.1 Tryz.f373
theorem adu:ao Tryz.prog 373 Pd:=ok HK.2 Tryz.func373 (by kernel_rfl)
def Bt:Tb:=HK.put 373 adu
def Fs:MF:=⟨[(aK,.ro),(aK,.ro)],[(al,0)],[.tmp 4],[0,1,2,3,5,6,7,8,13,19,20,22,26,27,29],λk=>bif k==2 then some 124 else bif k==1000003 then some 98412 else none,⟨λ_ _=>none,λs=>Nat.testBit 12 s,λr=>bif r==2 then [9,14,20,22]else bif r==3 then [11,27,29]else []⟩⟩
def OJ:Am.Fn:=Fs.fn C Bt.1 Tryz.f357
theorem acZ:ao Tryz.prog 357 OJ:=ok Bt.2 Tryz.func357 (by kernel_rfl)
def HH:Tb:=Bt.put 357 acZ
def afy:MF:=⟨[(aK,.ro),(aK,.ro)],[(al,0)],[.tmp 4],[0,1,2,3,5,6,16,19,30,35,44,46,49],λk=>bif k==1 then some 28 else none,⟨λ_ _=>none,λs=>Nat.testBit 12 s,λr=>bif r==2 then [7,17,24,37]else bif r==3 then [11,20,25,32]else []⟩⟩
def yn:Am.Fn:=afy.fn C HH.1 Tryz.f356
theorem N6:ao Tryz.prog 356 yn:=ok HH.2 Tryz.func356 (by kernel_rfl)
def VL:Tb:=HH.put 356 N6
def oi:(dj [(.agg (.pair bm (.pair al av)),.ro),(.agg (.pair bm (.pair al av)),.ro)]).den->Option (Ty.pair (cV [(.int .i64,0)]) (cI [(.agg (.pair bm (.pair al av)),.ro),(.agg (.pair bm (.pair al av)),.ro)])).den:=yn.an
theorem aqH:yn=⟨[(.agg (.pair bm (.pair al av)),.ro),(.agg (.pair bm (.pair al av)),.ro)],[(.int .i64,0)],oi⟩:=by kernel_rfl
def EC:Am.Fn:=⟨[(.slice 153 (.agg (.pair bm (.pair al av))),.mut 2),(.raw 1,.ro)],[],tZ 153 (.pair bm (.pair al av)) 2 356 oi⟩
theorem aeq:ao Tryz.prog 355 EC:=by
 have e6:Tryz.Md.f 6=355:=by kernel_rfl
 have WG:Tryz.Md.t 24=153:=by kernel_rfl
 have h:=aqS (e:=153) (u:=(.pair bm (.pair al av))) (n:=2) (g:=356) Tryz.aqP (by decide) (by decide) (by rw[WG];exact Tryz.isAgg153) (by rw[WG];exact Tryz.sizeOf153) (by rw[e6];exact⟨_,Tryz.func355,by kernel_rfl,by kernel_rfl⟩) (enters_of Tryz.func356 (by kernel_rfl) rfl) (aqH▸N6);rw[e6]at h;exact h
def abW:cX:=λf=>bif f==355 then some EC else VL.1 f
theorem arA:fC Tryz.prog abW:=D6 VL.2 aeq
def B6:Tb:=⟨abW,arA⟩
def FB:MF:=⟨[(al,.ro),(dV,.ro)],[(aw,2)],[.cell 4 45],[0,1,2,3,4,5,6,7,8,9,10,12,16,21,25,29,46,51,60,63,68],λk=>bif k==1 then some 19 else bif k==2 then some 51 else bif k==4 then some 28723 else bif k==7 then some 17 else bif k==8 then some 28851 else bif k==11 then some 49 else bif k==12 then some 304 else bif k==14 then some 492581209243952 else bif k==15 then some 492581209245488 else bif k==16 then some 492581209244976 else bif k==18 then some 272 else bif k==1000003 then some 28723 else bif k==1000013 then some 492581209243952 else none,⟨λ_ _=>none,λs=>[4,7,8,10,1046,1052].contains s,λr=>bif r==4 then []else bif r==7 then [18,36]else bif r==8 then [69,75]else bif r==10 then [59,70]else []⟩⟩
def O5:Am.Fn:=FB.fn C B6.1 Tryz.f331
theorem adm:ao Tryz.prog 331 O5:=ok B6.2 Tryz.func331 (by kernel_rfl)
def HY:Tb:=B6.put 331 adm
def afK:MF:=⟨[(aw,.ro)],[(aw,2),(av,0)],[.cell 2 45,.tmp 3],[0,1,2,8,10],λk=>bif k==2 then some 12 else bif k==3 then some 14 else none,⟨λ_ _=>none,λs=>Nat.testBit 6 s,λr=>bif r==1 then [4,11]else bif r==2 then []else []⟩⟩
def OB:Am.Fn:=afK.fn C HY.1 Tryz.f294
theorem acR:ao Tryz.prog 294 OB:=ok HY.2 Tryz.func294 (by kernel_rfl)
def Bb:Tb:=HY.put 294 acR
def Fx:MF:=⟨[(bm,.ro),(al,.ro),(av,.ro)],[(aK,1),(av,0)],[.cell 6 153,.tmp 7],[0,1,2,3,4,5,6,8,9,10,11,26,31,33,34],λk=>bif k==4 then some 455 else bif k==5 then some 961 else bif k==8 then some 469766081 else bif k==11 then some 192 else bif k==12 then some 704 else bif k==1000006 then some 469762881 else none,⟨λ_ _=>none,λs=>Nat.testBit 576 s,λr=>bif r==6 then []else bif r==9 then [34,39,41,45]else []⟩⟩
def O0:Am.Fn:=Fx.fn C Bb.1 Tryz.f220
theorem adh:ao Tryz.prog 220 O0:=ok Bb.2 Tryz.func220 (by kernel_rfl)
def Bn:Tb:=Bb.put 220 adh
def Fl:MF:=⟨[(aK,.ro),(al,.ro),(aK,.ro),(al,.ro)],[(aK,1),(av,0)],[.cell 8 153,.tmp 9],[0,1,2,3,4,5,6,7,8,10,11,21,24,45,54,57,58,60,64,65,67,75,79,83,90,97],λk=>bif k==1 then some 858 else bif k==2 then some 768 else bif k==4 then some 768 else bif k==5 then some 858 else bif k==6 then some 1882 else bif k==9 then some 3377699720531802 else bif k==11 then some 1882 else bif k==1000007 then some 3377699720529242 else none,⟨λd i=>bif d==97 then (bif i==0 then some 98 else bif i==1 then some 99 else none)else none,λs=>Nat.testBit 336 s,λr=>bif r==4 then [12,22,46,58,60]else bif r==6 then [16,25,65,67]else bif r==8 then []else []⟩⟩
def Ox:Am.Fn:=Fl.fn C Bn.1 Tryz.f370
theorem acN:ao Tryz.prog 370 Ox:=ok Bn.2 Tryz.func370 (by kernel_rfl)
def HD:Tb:=Bn.put 370 acN
def afZ:MF:=⟨[(al,.ro),(dV,.ro)],[(aw,2),(av,0)],[.cell 4 45,.tmp 5],[0,1,2,3,4,6,10],λk=>bif k==1 then some 51 else bif k==2 then some 112 else bif k==3 then some 48 else bif k==4 then some 112 else none,⟨λ_ _=>none,λs=>Nat.testBit 80 s,λr=>bif r==4 then []else bif r==6 then [11,15]else []⟩⟩
def OZ:Am.Fn:=afZ.fn C HD.1 Tryz.f326
theorem adg:ao Tryz.prog 326 OZ:=ok HD.2 Tryz.func326 (by kernel_rfl)
def Bm:Tb:=HD.put 326 adg
def E8:MF:=⟨[(aw,.ro),(al,.ro)],[(aw,2),(av,0)],[.cell 4 45,.tmp 5],[0,1,2,3,4,6,7,8,9,10,11,12,13,14,24,30,31,35,37,38,40,48,49,53,55,56,58,61,62,66,68,69,71,74,76,77,79,83,84,86,100,103],λk=>bif k==2 then some 48 else bif k==3 then some 54 else bif k==4 then some 118 else bif k==6 then some 15032385654 else bif k==8 then some 15032385910 else bif k==10 then some 118 else bif k==12 then some 3940649673949302 else bif k==14 then some 3940649673950326 else bif k==16 then some 32285742778665665654 else bif k==18 then some 32285742778665669750 else bif k==20 then some 48 else bif k==21 then some 32285742778665673846 else bif k==24 then some 116 else bif k==1000005 then some (2^2006+15032385622)else bif k==1000011 then some 3940649673949270 else bif k==1000015 then some 32285742778665665622 else none,⟨λd i=>bif d==74 then (bif i==0 then some 89 else bif i==1 then some 90 else none)else bif d==103 then (bif i==0 then some 104 else bif i==1 then some 105 else none)else none,λs=>Nat.testBit 13588 s,λr=>bif r==2 then [15,31,35,36,49,53,54,62,66,67]else bif r==4 then []else bif r==8 then [38,40,44]else bif r==10 then [56,58,75,84,86]else bif r==12 then [69,71,77,79,82]else bif r==13 then [95]else []⟩⟩
def Ob:Am.Fn:=E8.fn C Bm.1 Tryz.f353
theorem acv:ao Tryz.prog 353 Ob:=ok Bm.2 Tryz.func353 (by kernel_rfl)
def A1:Tb:=Bm.put 353 acv
def FC:MF:=⟨[(aw,.ro)],[(lM,3),(av,0)],[.tmp 2,.tmp 3],[0,1,4,5,6,7,11,15,16,18,20,24,31,32,35,43],λk=>bif k==4 then some 30 else bif k==8 then some 60 else bif k==11 then some 124 else bif k==1000006 then some 48 else none,⟨λd i=>bif d==31 then (bif i==0 then some 39 else bif i==1 then some 40 else none)else none,λs=>Nat.testBit 66 s,λr=>bif r==1 then [8,21,23]else bif r==6 then [45]else []⟩⟩
def O8:Am.Fn:=FC.fn C A1.1 Tryz.f327
theorem adp:ao Tryz.prog 327 O8:=ok A1.2 Tryz.func327 (by kernel_rfl)
def H0:Tb:=A1.put 327 adp
def afE:MF:=⟨[(aw,.ro)],[(av,0),(av,0)],[.tmp 2,.tmp 3],[0,1,4,5,6,13,14,15],λk=>bif k==4 then some 28 else none,⟨λd i=>bif d==6 then (bif i==0 then some 9 else bif i==1 then some 10 else none)else none,λs=>Nat.testBit 2 s,λr=>bif r==1 then [7]else []⟩⟩
def Oj:Am.Fn:=afE.fn C H0.1 Tryz.f284
theorem acD:ao Tryz.prog 284 Oj:=ok H0.2 Tryz.func284 (by kernel_rfl)
def Hw:Tb:=H0.put 284 acD
def agq:MF:=⟨[((.cap (some 1000007) .unit),.ro),(al,.ro)],[(dV,1)],[.tmp 4],[0,1,2,3,17],λ_=>none,⟨λ_ _=>none,λs=>[6025,6026].contains s,λr=>bif r==1025 then []else bif r==1026 then []else []⟩⟩
def P9:Am.Fn:=agq.fn C Hw.1 Tryz.f332
theorem aep:ao Tryz.prog 332 P9:=ok Hw.2 Tryz.func332 (by kernel_rfl)
def B5:Tb:=Hw.put 332 aep
def Gg:MF:=⟨[(q8,.ro)],[(dV,1)],[.tmp 2],[0,1,3,4,5,6,7,8,9,13,25,29],λk=>bif k==1000003 then some 3593 else bif k==1000011 then some 234881089 else none,⟨λ_ _=>none,λs=>Nat.testBit 0 s,λ_=>[]⟩⟩
def P8:Am.Fn:=Gg.fn C B5.1 Tryz.f296
theorem aeo:ao Tryz.prog 296 P8:=ok B5.2 Tryz.func296 (by kernel_rfl)
def B4:Tb:=B5.put 296 aeo
def Fm:MF:=⟨[(aK,.ro)],[(aK,0),(av,0)],[.cell 2 153,.tmp 3],[0,1,2,4,5,6,11,15,18,22,23,28,30,31],λk=>bif k==2 then some 12 else bif k==3 then some 14 else bif k==4 then some 30 else bif k==7 then some 58720382 else bif k==9 then some 28 else bif k==1000005 then some 58720278 else none,⟨λ_ _=>none,λs=>Nat.testBit 22 s,λr=>bif r==1 then [7,12,23,28]else bif r==2 then []else bif r==4 then [31,35,37]else []⟩⟩
def OA:Am.Fn:=Fm.fn C B4.1 Tryz.f282
theorem acQ:ao Tryz.prog 282 OA:=ok B4.2 Tryz.func282 (by kernel_rfl)
def HE:Tb:=B4.put 282 acQ
def afH:MF:=⟨[(aw,.ro),(aw,.ro)],[(aw,0),(av,0)],[.cell 4 45,.tmp 5],[0,1,2,3,4,15,17,22,24,26,30],λk=>bif k==2 then some 48 else bif k==3 then some 60 else none,⟨λd i=>bif d==30 then (bif i==0 then some 31 else bif i==1 then some 32 else none)else none,λs=>Nat.testBit 28 s,λr=>bif r==2 then [6,25]else bif r==3 then [10,27]else bif r==4 then []else []⟩⟩
def Ou:Am.Fn:=afH.fn C HE.1 Tryz.f283
theorem acK:ao Tryz.prog 283 Ou:=ok HE.2 Tryz.func283 (by kernel_rfl)
def HA:Tb:=HE.put 283 acK
def afD:MF:=⟨[(aw,.ro),(aK,.ro)],[(av,0),(av,0)],[.tmp 4,.tmp 5],[0,1,2,3,6,7,8,9,16,18,30],λk=>bif k==1 then some 60 else bif k==4 then some (2^1006+116)else none,⟨λd i=>bif d==9 then (bif i==0 then some 12 else bif i==1 then some 13 else none)else bif d==16 then (bif i==0 then some 25 else bif i==1 then some 26 else none)else bif d==30 then (bif i==0 then some 31 else bif i==1 then some 32 else none)else none,λs=>Nat.testBit 332 s,λr=>bif r==2 then [17]else bif r==3 then [10]else bif r==6 then [19,21]else bif r==8 then [29]else []⟩⟩
def Of:Am.Fn:=afD.fn C HA.1 Tryz.f204
theorem acz:ao Tryz.prog 204 Of:=ok HA.2 Tryz.func204 (by kernel_rfl)
def A3:Tb:=HA.put 204 acz
def Fk:MF:=⟨[(aw,.ro)],[(aw,0),(av,0)],[.cell 2 45,.tmp 3],[0,1,2,4,5,6,7,8,9,10,11,19,28,32,36,38,39,42,43,50,52,53,55],λk=>bif k==1 then some 14 else bif k==3 then some 12 else bif k==6 then some 12 else bif k==8 then some 14 else bif k==10 then some 158 else bif k==11 then some 158 else bif k==14 then some 12 else bif k==16 then some 414 else bif k==18 then some 28 else bif k==1000010 then some (2^1004+2^1002+2^1001+150)else none,⟨λd i=>bif d==11 then (bif i==0 then some 14 else bif i==1 then some 15 else none)else bif d==19 then (bif i==0 then some 22 else bif i==1 then some 23 else none)else bif d==50 then (bif i==0 then some 58 else bif i==1 then some 59 else none)else none,λs=>[1,2,4,8,8001,8002,8004,8008].contains s,λr=>bif r==1 then [12]else bif r==2 then []else bif r==4 then [20,33,39,41,43,46,53,55,56,67]else bif r==8 then [51,64]else []⟩⟩
def Ow:Am.Fn:=Fk.fn C A3.1 Tryz.f221
theorem acM:ao Tryz.prog 221 Ow:=ok A3.2 Tryz.func221 (by kernel_rfl)
def HC:Tb:=A3.put 221 acM
def afU:MF:=⟨[(aw,.ro)],[(av,0)],[.tmp 2],[0,1,3,8,9,10,16,17,18,19,24,25,26,27],λk=>bif k==1 then some 6 else none,⟨λ_ _=>none,λs=>Nat.testBit 2 s,λr=>bif r==1 then [4,9,10,11,17,18,19,25,26,27]else []⟩⟩
def OT:Am.Fn:=afU.fn C HC.1 Tryz.f222
theorem ac8:ao Tryz.prog 222 OT:=ok HC.2 Tryz.func222 (by kernel_rfl)
def HP:Tb:=HC.put 222 ac8
def afO:MF:=⟨[(aF,.ptr 1),(aw,.ro)],[(av,0)],[.tmp 4],[0,1,2,3,5,6,7,17,18,24,25,30],λk=>bif k==1 then some 25 else bif k==6 then some 49 else bif k==8 then some 49 else none,⟨λd i=>bif d==7 then (bif i==0 then some 10 else bif i==1 then some 11 else none)else none,λs=>[0,3,5,10022].contains s,λr=>bif r==0 then [16,19,23,26]else bif r==3 then [8]else bif r==5 then [14,27]else bif r==5022 then []else bif r==10022 then [37]else []⟩⟩
def OG:Am.Fn:=afO.fn C HP.1 Tryz.f113
theorem acW:ao Tryz.prog 113 OG:=ok HP.2 Tryz.func113 (by kernel_rfl)
def Bf:Tb:=HP.put 113 acW
def Ft:MF:=⟨[(aw,.ro)],[(aw,2)],[.cell 2 45],[0,1,2,3,4,5,6,8,13,14,18,20],λk=>bif k==1 then some 6 else bif k==2 then some 14 else bif k==4 then some 114702 else bif k==5 then some 114734 else bif k==7 then some 12 else bif k==1000003 then some 114702 else none,⟨λ_ _=>none,λs=>Nat.testBit 46 s,λr=>bif r==1 then [9,14,18,19]else bif r==2 then []else bif r==3 then [21,28]else bif r==5 then [22]else []⟩⟩
def OL:Am.Fn:=Ft.fn C Bf.1 Tryz.f95
theorem ac1:ao Tryz.prog 95 OL:=ok Bf.2 Tryz.func95 (by kernel_rfl)
def Bi:Tb:=Bf.put 95 ac1
def E6:MF:=⟨[(fS,.ro),(bX,.ro)],[(aF,0),(av,0)],[.cell 4 37,.tmp 5],[0,1,2,3,4,6,7,8,13,17,18,22,27,32,34],λk=>bif k==2 then some 48 else bif k==3 then some 54 else bif k==4 then some 118 else bif k==6 then some 1835126 else bif k==8 then some 1835382 else bif k==10 then some 112 else bif k==1000005 then some 1835094 else none,⟨λ_ _=>none,λs=>Nat.testBit 340 s,λr=>bif r==2 then [9,18,22,23]else bif r==4 then []else bif r==6 then [33,41]else bif r==8 then [35]else []⟩⟩
def N5:Am.Fn:=E6.fn C Bi.1 Tryz.f362
theorem acp:ao Tryz.prog 362 N5:=ok Bi.2 Tryz.func362 (by kernel_rfl)
def AX:Tb:=Bi.put 362 acp
def Fo:MF:=⟨[(aw,.ro),(bm,.ro)],[(aw,0),(av,0)],[.cell 4 45,.tmp 5],[0,1,2,3,4,6,7,8,9,10,11,12,13,20,27,28,32,35,40,46,48,50,51,53,58,60,62,70],λk=>bif k==1 then some 54 else bif k==2 then some 48 else bif k==3 then some 54 else bif k==4 then some 118 else bif k==6 then some 1879048310 else bif k==8 then some 1879049078 else bif k==12 then some 48 else bif k==13 then some 242397220726 else bif k==15 then some 1879049078 else bif k==17 then some 48 else bif k==18 then some 1879052406 else bif k==20 then some 112 else bif k==1000005 then some 1879048278 else bif k==1000009 then some 242397217622 else none,⟨λd i=>bif d==58 then (bif i==0 then some 65 else bif i==1 then some 66 else none)else none,λs=>Nat.testBit 4436 s,λr=>bif r==2 then [14,28,32,33]else bif r==4 then []else bif r==6 then [71,77]else bif r==8 then [51,53]else bif r==12 then [72]else []⟩⟩
def OC:Am.Fn:=Fo.fn C AX.1 Tryz.f365
theorem acS:ao Tryz.prog 365 OC:=ok AX.2 Tryz.func365 (by kernel_rfl)
def HF:Tb:=AX.put 365 acS
def af4:MF:=⟨[(aw,.ro),((.cap none de),.ro)],[(aw,0),(av,0)],[.cell 3 45,.tmp 4],[0,1,2,3,6,8],λk=>bif k==1 then some 30 else none,⟨λd i=>bif d==8 then (bif i==0 then some 9 else bif i==1 then some 10 else none)else none,λs=>[2,3,8002,8003].contains s,λr=>bif r==2 then [5]else bif r==3 then []else []⟩⟩
def Pb:Am.Fn:=af4.fn C HF.1 Tryz.f364
theorem adr:ao Tryz.prog 364 Pb:=ok HF.2 Tryz.func364 (by kernel_rfl)
def Br:Tb:=HF.put 364 adr
def FA:MF:=⟨[(aF,.ro),((.cap (some 364) (.pair (.cap none de) .unit)),.ro)],[(aF,0),(av,0)],[.cell 4 37,.tmp 5],[0,1,2,3,4,6,7,8,9,10,11,15,16,20,22],λk=>bif k==1 then some 54 else bif k==2 then some 118 else bif k==4 then some 458870 else bif k==5 then some 459126 else bif k==7 then some 48 else bif k==9 then some 112 else bif k==1000003 then some (2^2006+2^2004+2^2002+458838)else none,⟨λd i=>bif d==22 then (bif i==0 then some 26 else bif i==1 then some 27 else none)else none,λs=>[2,4,6,8,9,9006].contains s,λr=>bif r==2 then [16,20,21]else bif r==4 then []else bif r==6 then [37]else bif r==8 then [24]else bif r==9 then [31]else bif r==4006 then []else []⟩⟩
def O3:Am.Fn:=FA.fn C Br.1 Tryz.f363
theorem adk:ao Tryz.prog 363 O3:=ok Br.2 Tryz.func363 (by kernel_rfl)
def HX:Tb:=Br.put 363 adk
def af3:MF:=⟨[(a6,.ro),(de,.ro)],[(aF,0),(av,0)],[.cell 4 37,.tmp 5],[0,1,2,3,4,6,7,8,9,11,14,16,27],λk=>bif k==1 then some 57 else bif k==3 then some 48 else bif k==4 then some 120 else bif k==5 then some 120 else none,⟨λd i=>bif d==8 then (bif i==0 then some 19 else bif i==1 then some 20 else none)else bif d==27 then (bif i==0 then some 28 else bif i==1 then some 29 else none)else none,λs=>[3,4,6,8003,8004,8006].contains s,λr=>bif r==3 then []else bif r==4 then []else bif r==6 then [25]else []⟩⟩
def Pa:Am.Fn:=af3.fn C HX.1 Tryz.f342
theorem ads:ao Tryz.prog 342 Pa:=ok HX.2 Tryz.func342 (by kernel_rfl)
def Bq:Tb:=HX.put 342 ads
def Fg:MF:=⟨[(aF,.ro)],[(av,0)],[.tmp 2],[0,1,3,4,5,9,14,19,20,24,30,32],λk=>bif k==1 then some 6 else bif k==3 then some 6 else bif k==5 then some 7340038 else bif k==1000004 then some 7340034 else none,⟨λ_ _=>none,λs=>Nat.testBit 18 s,λr=>bif r==1 then [15,20,24,25]else bif r==4 then [26]else []⟩⟩
def On:Am.Fn:=Fg.fn C Bq.1 Tryz.f133
theorem acG:ao Tryz.prog 133 On:=ok Bq.2 Tryz.func133 (by kernel_rfl)
def Hy:Tb:=Bq.put 133 acG
def af1:MF:=⟨[(aw,.ro)],[(aF,0)],[.cell 2 37],[0,1,2,3],λk=>bif k==1 then some 6 else none,⟨λ_ _=>none,λs=>[1,2,8001,8002].contains s,λr=>bif r==1 then [5]else bif r==2 then []else []⟩⟩
def O6:Am.Fn:=af1.fn C Hy.1 Tryz.f367
theorem adn:ao Tryz.prog 367 O6:=ok Hy.2 Tryz.func367 (by kernel_rfl)
def HZ:Tb:=Hy.put 367 adn
def afJ:MF:=⟨[(aw,.ro)],[(aw,0),(av,0)],[.cell 2 45,.tmp 3],[0,1,2],λk=>bif k==1 then some 14 else none,⟨λ_ _=>none,λs=>[1,2,8001,8002].contains s,λr=>bif r==1 then [4]else bif r==2 then []else []⟩⟩
def Oz:Am.Fn:=afJ.fn C HZ.1 Tryz.f377
theorem acO:ao Tryz.prog 377 Oz:=ok HZ.2 Tryz.func377 (by kernel_rfl)
def Ba:Tb:=HZ.put 377 acO
def Fz:MF:=⟨[(aF,.ro),((.cap (some 377) .unit),.ro)],[(aF,1),(av,0)],[.cell 4 37,.tmp 5],[0,1,2,3,4,6,7,8,9,10,11,15,16,20,22],λk=>bif k==1 then some 54 else bif k==2 then some 118 else bif k==4 then some 458870 else bif k==5 then some 459126 else bif k==7 then some 48 else bif k==9 then some 112 else bif k==1000003 then some (2^2006+2^2004+2^2002+458838)else none,⟨λd i=>bif d==22 then (bif i==0 then some 26 else bif i==1 then some 27 else none)else none,λs=>[2,4,6,8,9,9004,9006].contains s,λr=>bif r==2 then [16,20,21]else bif r==4 then []else bif r==6 then [37]else bif r==8 then [24]else bif r==9 then [31]else bif r==4004 then []else bif r==4006 then []else []⟩⟩
def O2:Am.Fn:=Fz.fn C Ba.1 Tryz.f363
theorem adj:ao Tryz.prog 363 O2:=ok Ba.2 Tryz.func363 (by kernel_rfl)
def HW:Tb:=Ba.put 363 adj
def afI:MF:=⟨[(aF,.ro)],[(aF,1),(av,0)],[.cell 2 37,.tmp 3],[0,1,2,9],λk=>bif k==2 then some 12 else bif k==3 then some 14 else none,⟨λd i=>bif d==9 then (bif i==0 then some 10 else bif i==1 then some 11 else none)else none,λs=>[1,2,8001,9002].contains s,λr=>bif r==1 then [4,8]else bif r==2 then []else bif r==4002 then []else []⟩⟩
def Oy:Am.Fn:=afI.fn C HW.1 Tryz.f368
theorem acP:ao Tryz.prog 368 Oy:=ok HW.2 Tryz.func368 (by kernel_rfl)
def A9:Tb:=HW.put 368 acP
def FF:MF:=⟨[(aF,.ro),(aw,.ro)],[(aF,0),(av,0)],[.cell 4 37,.tmp 5],[0,1,2,3,4,6,7,8,9,10,11,12,13,14,15,19,20,24,26,27,32,34,42,45,46,54],λk=>bif k==1 then some 60 else bif k==2 then some 124 else bif k==4 then some 7340156 else bif k==5 then some 7340412 else bif k==7 then some 946864508 else bif k==8 then some 946866044 else bif k==10 then some 48 else bif k==11 then some 946867068 else bif k==12 then some 946872700 else bif k==14 then some 48 else bif k==17 then some 112 else bif k==1000003 then some (2^2006+2^2004+2^2003+2^2002+7340124)else bif k==1000006 then some (2^2008+2^2006+2^2004+2^2003+2^2002+946864476)else none,⟨λd i=>bif d==34 then (bif i==0 then some 37 else bif i==1 then some 38 else none)else bif d==54 then (bif i==0 then some 58 else bif i==1 then some 59 else none)else none,λs=>[2,3,4,6,8,10,11,13,14,8013,9006].contains s,λr=>bif r==2 then [20,24,25]else bif r==3 then [27,32,33,46,48]else bif r==4 then []else bif r==6 then [70]else bif r==8 then [55]else bif r==10 then [35]else bif r==11 then [50]else bif r==13 then [56]else bif r==14 then [63]else bif r==3013 then []else bif r==4006 then []else []⟩⟩
def Pe:Am.Fn:=FF.fn C A9.1 Tryz.f376
theorem adv:ao Tryz.prog 376 Pe:=ok A9.2 Tryz.func376 (by kernel_rfl)
def Bu:Tb:=A9.put 376 adv
def E7:MF:=⟨[(aF,.ro),(aF,.ro)],[(aF,0),(av,0)],[.cell 4 37,.tmp 5],[0,1,2,3,4,6,7,8,9,10,11,21,23,28,36,37,41,43,51],λk=>bif k==2 then some 48 else bif k==3 then some 60 else bif k==5 then some 48 else bif k==6 then some 120 else bif k==8 then some 962072674424 else bif k==9 then some 962072674936 else bif k==11 then some 48 else bif k==12 then some 962072675448 else bif k==14 then some 48 else bif k==16 then some 112 else bif k==1000007 then some (2^1006+2^1004+2^1003+962072674392)else none,⟨λd i=>bif d==28 then (bif i==0 then some 31 else bif i==1 then some 32 else none)else bif d==43 then (bif i==0 then some 46 else bif i==1 then some 47 else none)else bif d==51 then (bif i==0 then some 55 else bif i==1 then some 56 else none)else none,λs=>[2,3,4,6,9,10,8002,8003,8004,8006,8009,8010].contains s,λr=>bif r==2 then [12,29]else bif r==3 then [16,37,41,42]else bif r==4 then []else bif r==6 then [52,61]else bif r==9 then [44]else bif r==10 then [53]else []⟩⟩
def N8:Am.Fn:=E7.fn C Bu.1 Tryz.f366
theorem acr:ao Tryz.prog 366 N8:=ok Bu.2 Tryz.func366 (by kernel_rfl)
def Hs:Tb:=Bu.put 366 acr
def afz:MF:=⟨[(aF,.ro)],[(aF,0),(av,0)],[.cell 2 37,.tmp 3],[0,1,2,8,13],λk=>bif k==2 then some 12 else bif k==3 then some 14 else none,⟨λd i=>bif d==13 then (bif i==0 then some 14 else bif i==1 then some 15 else none)else none,λs=>[1,2,8001,8002].contains s,λr=>bif r==1 then [4,12]else bif r==2 then []else []⟩⟩
def N7:Am.Fn:=afz.fn C Hs.1 Tryz.f343
theorem acq:ao Tryz.prog 343 N7:=ok Hs.2 Tryz.func343 (by kernel_rfl)
def AY:Tb:=Hs.put 343 acq
def Fj:MF:=⟨[(aF,.ro),(aF,.ro)],[(aF,0),(av,0)],[.cell 4 37,.tmp 5],[0,1,2,3,4,6,7,8,9,10,11,12,22,24,29,33,34,38,40,41,45,47],λk=>bif k==2 then some 48 else bif k==3 then some 60 else bif k==4 then some 124 else bif k==6 then some 120259084412 else bif k==7 then some 120259084668 else bif k==9 then some 15513421873532 else bif k==10 then some 15513421874556 else bif k==12 then some 48 else bif k==15 then some 112 else bif k==1000005 then some (2^2006+2^2004+2^2003+2^2002+120259084380)else bif k==1000008 then some (2^2008+2^2006+2^2004+2^2003+2^2002+15513421873500)else none,⟨λd i=>bif d==47 then (bif i==0 then some 51 else bif i==1 then some 52 else none)else none,λs=>[2,3,4,6,8,10,11,9006].contains s,λr=>bif r==2 then [13,34,38,39]else bif r==3 then [17,41,45,46]else bif r==4 then []else bif r==6 then [63]else bif r==8 then [48]else bif r==10 then [49]else bif r==11 then [56]else bif r==4006 then []else []⟩⟩
def Ov:Am.Fn:=Fj.fn C AY.1 Tryz.f344
theorem acL:ao Tryz.prog 344 Ov:=ok AY.2 Tryz.func344 (by kernel_rfl)
def HB:Tb:=AY.put 344 acL
def afM:MF:=⟨[(aF,.ro),(aF,.ro)],[(aF,0),(av,0)],[.cell 4 37,.tmp 5],[0,1,2,3,4,6,7,8,18,20,25,33,41,44,51,53],λk=>bif k==2 then some 48 else bif k==3 then some 60 else bif k==5 then some 48 else bif k==6 then some 120 else bif k==7 then some 496 else bif k==8 then some 48 else bif k==9 then some 368 else bif k==10 then some (2^1006+112)else none,⟨λd i=>bif d==25 then (bif i==0 then some 28 else bif i==1 then some 29 else none)else bif d==33 then (bif i==0 then some 36 else bif i==1 then some 37 else none)else none,λs=>[2,3,4,6,8,8002,8003,8004,8008,9006].contains s,λr=>bif r==2 then [9,26]else bif r==3 then [13,34]else bif r==4 then []else bif r==6 then [42,52,57]else bif r==8 then [45,54]else bif r==4006 then []else []⟩⟩
def OE:Am.Fn:=afM.fn C HB.1 Tryz.f345
theorem acU:ao Tryz.prog 345 OE:=ok HB.2 Tryz.func345 (by kernel_rfl)
def HG:Tb:=HB.put 345 acU
def afB:MF:=⟨[(aw,.ro),((.cap none al),.ro)],[(aw,0),(av,0)],[.cell 3 45,.tmp 4],[0,1,2,3,5,6,7,17],λk=>bif k==1 then some 30 else bif k==3 then some 24 else bif k==4 then some 58 else none,⟨λd i=>bif d==7 then (bif i==0 then some 10 else bif i==1 then some 11 else none)else bif d==17 then (bif i==0 then some 18 else bif i==1 then some 19 else none)else none,λs=>[2,3,5,8002,8003,8005].contains s,λr=>bif r==2 then [8]else bif r==3 then []else bif r==5 then [15]else []⟩⟩
def Oa:Am.Fn:=afB.fn C HG.1 Tryz.f369
theorem acs:ao Tryz.prog 369 Oa:=ok HG.2 Tryz.func369 (by kernel_rfl)
def AZ:Tb:=HG.put 369 acs
def Fy:MF:=⟨[(aF,.ro),((.cap (some 369) (.pair (.cap none al) .unit)),.ro)],[(aF,0),(av,0)],[.cell 4 37,.tmp 5],[0,1,2,3,4,6,7,8,9,10,11,15,16,20,22],λk=>bif k==1 then some 54 else bif k==2 then some 118 else bif k==4 then some 458870 else bif k==5 then some 459126 else bif k==7 then some 48 else bif k==9 then some 112 else bif k==1000003 then some (2^2006+2^2004+2^2002+458838)else none,⟨λd i=>bif d==22 then (bif i==0 then some 26 else bif i==1 then some 27 else none)else none,λs=>[2,4,6,8,9,9006].contains s,λr=>bif r==2 then [16,20,21]else bif r==4 then []else bif r==6 then [37]else bif r==8 then [24]else bif r==9 then [31]else bif r==4006 then []else []⟩⟩
def O1:Am.Fn:=Fy.fn C AZ.1 Tryz.f363
theorem adi:ao Tryz.prog 363 O1:=ok AZ.2 Tryz.func363 (by kernel_rfl)
def HV:Tb:=AZ.put 363 adi
def afA:MF:=⟨[(aF,.ro),(al,.ro)],[(aF,0),(av,0)],[.cell 4 37,.tmp 5],[0,1,2,3,4,15,22],λk=>bif k==2 then some 48 else bif k==3 then some 60 else none,⟨λd i=>bif d==22 then (bif i==0 then some 23 else bif i==1 then some 24 else none)else none,λs=>[2,4,8002,8004].contains s,λr=>bif r==2 then [6,20]else bif r==4 then []else []⟩⟩
def N9:Am.Fn:=afA.fn C HV.1 Tryz.f346
theorem acu:ao Tryz.prog 346 N9:=ok HV.2 Tryz.func346 (by kernel_rfl)
def Ht:Tb:=HV.put 346 acu
def af0:MF:=⟨[(a6,.ro),(de,.ro),(xX,.mut 1)],[(aF,0),(av,0)],[.cell 6 37,.tmp 7],[0,1,2,3,4,5,6,8,9,10,11,12,13,19,31,36,37,39,41,46,47,49,51,52,54,56,61,62,64,66,67,69,71,76,77,79,81,83,86,87,88,90,98,100,109],λk=>bif k==3 then some 212 else bif k==4 then some 468 else bif k==5 then some (2^1008+964)else bif k==7 then some 213 else bif k==9 then some 212 else bif k==11 then some 212 else bif k==13 then some 212 else bif k==15 then some 212 else bif k==16 then some 212 else bif k==18 then some 196 else bif k==19 then some 1236 else bif k==21 then some 196 else bif k==22 then some 4292 else none,⟨λd i=>bif d==31 then (bif i==0 then some 32 else bif i==1 then some 33 else none)else bif d==41 then (bif i==0 then some 42 else bif i==1 then some 43 else none)else bif d==56 then (bif i==0 then some 57 else bif i==1 then some 58 else none)else bif d==71 then (bif i==0 then some 72 else bif i==1 then some 73 else none)else bif d==83 then (bif i==0 then some 84 else bif i==1 then some 85 else none)else bif d==86 then (bif i==0 then some 93 else bif i==1 then some 94 else none)else bif d==98 then (bif i==0 then some 103 else bif i==1 then some 104 else none)else bif d==109 then (bif i==0 then some 110 else bif i==1 then some 111 else none)else none,λs=>[4,6,8,10,12,8004,8006,8010,8012,9008].contains s,λr=>bif r==4 then [20,30,39,40,49,50,54,55,64,65,69,70,79,80,90,91]else bif r==6 then []else bif r==8 then [25]else bif r==10 then [99]else bif r==12 then [108]else bif r==4008 then []else []⟩⟩
def O4:Am.Fn:=af0.fn C Ht.1 Tryz.f317
theorem adl:ao Tryz.prog 317 O4:=ok Ht.2 Tryz.func317 (by kernel_rfl)
def Bo:Tb:=Ht.put 317 adl
def FD:MF:=⟨[(a6,.ro),(bS,.ro)],[(xX,0),(av,0)],[.tmp 4,.tmp 5],[0,1,2,3,6,7,8,9,10,16,20,22],λk=>bif k==3 then some 115 else bif k==4 then some 115 else bif k==6 then some 458867 else bif k==7 then some 459123 else bif k==10 then some 459379 else bif k==1000005 then some (2^2006+458819)else none,⟨λd i=>bif d==22 then (bif i==0 then some 27 else bif i==1 then some 28 else none)else none,λs=>Nat.testBit 768 s,λr=>bif r==8 then [24]else bif r==9 then [32]else []⟩⟩
def O9:Am.Fn:=FD.fn C Bo.1 Tryz.f256
theorem adq:ao Tryz.prog 256 O9:=ok Bo.2 Tryz.func256 (by kernel_rfl)
def H4:Tb:=Bo.put 256 adq
def afC:MF:=⟨[(a6,.ro),(bS,.ro)],[(aF,0),(av,0)],[.cell 4 37,.tmp 5],[0,1,2,3,4,6,7,8,17,21],λk=>bif k==3 then some 48 else bif k==4 then some 112 else none,⟨λd i=>bif d==8 then (bif i==0 then some 12 else bif i==1 then some 13 else none)else none,λs=>[4,8004].contains s,λr=>bif r==4 then []else []⟩⟩
def Oc:Am.Fn:=afC.fn C H4.1 Tryz.f154
theorem acw:ao Tryz.prog 154 Oc:=ok H4.2 Tryz.func154 (by kernel_rfl)
def Hu:Tb:=H4.put 154 acw
def afL:MF:=⟨[(a6,.ro),(bS,.ro)],[(av,0),(av,0)],[.tmp 4,.tmp 5],[0,1,2,3,6,7,12,20],λk=>bif k==3 then some 51 else bif k==4 then some 240 else none,⟨λd i=>bif d==12 then (bif i==0 then some 16 else bif i==1 then some 17 else none)else none,λs=>Nat.testBit 64 s,λr=>bif r==6 then [21]else []⟩⟩
def OD:Am.Fn:=afL.fn C Hu.1 Tryz.f55
theorem acT:ao Tryz.prog 55 OD:=ok Hu.2 Tryz.func55 (by kernel_rfl)
def Bc:Tb:=Hu.put 55 acT
def Fp:MF:=⟨[(a6,.ro),(gF,.ro)],[(av,0)],[.tmp 4],[0,1,2,3,5,6,7,8,9,13,15],λk=>bif k==1000002 then some 3587 else none,⟨λd i=>bif d==15 then (bif i==0 then some 19 else bif i==1 then some 20 else none)else none,λs=>Nat.testBit 0 s,λ_=>[]⟩⟩
def OH:Am.Fn:=Fp.fn C Bc.1 Tryz.f165
theorem acX:ao Tryz.prog 165 OH:=ok Bc.2 Tryz.func165 (by kernel_rfl)
def Bg:Tb:=Bc.put 165 acX
def Fi:MF:=⟨[(jI,.ro)],[(av,0)],[.tmp 2],[0,1,3,4,5,10,16,21,22,26,33,34,35,42],λk=>bif k==1 then some 6 else bif k==3 then some 6 else bif k==1000004 then some 29360130 else none,⟨λ_ _=>none,λs=>Nat.testBit 2 s,λr=>bif r==1 then [4,6,11,17,22,26,27,28,32,34,35,36,41,43]else []⟩⟩
def Ot:Am.Fn:=Fi.fn C Bg.1 Tryz.f60
theorem acJ:ao Tryz.prog 60 Ot:=ok Bg.2 Tryz.func60 (by kernel_rfl)
def A8:Tb:=Bg.put 60 acJ
def Gi:MF:=⟨[(bm,.ro),(bm,.ro)],[(av,0)],[.tmp 4],[0,1,2,3,5,17,19,21,23],λk=>bif k==1000004 then some 35 else none,⟨λ_ _=>none,λs=>Nat.testBit 0 s,λ_=>[]⟩⟩
def Qd:Am.Fn:=Gi.fn C A8.1 Tryz.f64
theorem aev:ao Tryz.prog 64 Qd:=ok A8.2 Tryz.func64 (by kernel_rfl)
def Iv:Tb:=A8.put 64 aev
def ags:MF:=⟨[(aK,.ro),(aK,.ro)],[(av,0)],[.tmp 4],[0,1,2,3,5,7,11,13,16,18],λ_=>none,⟨λ_ _=>none,λs=>Nat.testBit 12 s,λr=>bif r==2 then [6]else bif r==3 then [8]else []⟩⟩
def Qa:Am.Fn:=ags.fn C Iv.1 Tryz.f257
theorem aet:ao Tryz.prog 257 Qa:=ok Iv.2 Tryz.func257 (by kernel_rfl)
def Ir:Tb:=Iv.put 257 aet
def agu:MF:=⟨[(de,.ro),(de,.ro)],[(av,0)],[.tmp 4],[0,1,2,3,5,7,10,12,16,18,21,23,26,28,32,34,37,39,42,44],λ_=>none,⟨λ_ _=>none,λs=>Nat.testBit 12 s,λr=>bif r==2 then [11,27]else bif r==3 then [13,29]else []⟩⟩
def Qe:Am.Fn:=agu.fn C Ir.1 Tryz.f155
theorem aey:ao Tryz.prog 155 Qe:=ok Ir.2 Tryz.func155 (by kernel_rfl)
def B7:Tb:=Ir.put 155 aey
def Gj:MF:=⟨[(bS,.ro),(bS,.ro)],[(av,0)],[.tmp 4],[0,1,2,3,5,17,19,21,23],λk=>bif k==1000004 then some 35 else none,⟨λ_ _=>none,λs=>Nat.testBit 0 s,λ_=>[]⟩⟩
def Qf:Am.Fn:=Gj.fn C B7.1 Tryz.f56
theorem aex:ao Tryz.prog 56 Qf:=ok B7.2 Tryz.func56 (by kernel_rfl)
def B8:Tb:=B7.put 56 aex
def Gk:MF:=⟨[(gF,.ro),(gF,.ro)],[(av,0)],[.tmp 4],[0,1,2,3,5,17,19,21,23],λk=>bif k==1000004 then some 35 else none,⟨λ_ _=>none,λs=>Nat.testBit 0 s,λ_=>[]⟩⟩
def Qg:Am.Fn:=Gk.fn C B8.1 Tryz.f166
theorem aew:ao Tryz.prog 166 Qg:=ok B8.2 Tryz.func166 (by kernel_rfl)
def B9:Tb:=B8.put 166 aew
def Gh:MF:=⟨[(dV,.ro),(dV,.ro)],[(av,0)],[.tmp 4],[0,1,2,3,5,17,19,21,23],λk=>bif k==1000004 then some 35 else none,⟨λ_ _=>none,λs=>Nat.testBit 0 s,λ_=>[]⟩⟩
def Qb:Am.Fn:=Gh.fn C B9.1 Tryz.f298
theorem aes:ao Tryz.prog 298 Qb:=ok B9.2 Tryz.func298 (by kernel_rfl)
def Is:Tb:=B9.put 298 aes
def agt:MF:=⟨[(aw,.ro),(aw,.ro)],[(av,0)],[.tmp 4],[0,1,2,3,5,7,10,12],λ_=>none,⟨λ_ _=>none,λs=>Nat.testBit 12 s,λr=>bif r==2 then [11]else bif r==3 then [13]else []⟩⟩
def Qc:Am.Fn:=agt.fn C Is.1 Tryz.f223
theorem aeu:ao Tryz.prog 223 Qc:=ok Is.2 Tryz.func223 (by kernel_rfl)
def Iu:Tb:=Is.put 223 aeu
def agw:MF:=⟨[(oy,.ro),(oy,.ro)],[(av,0)],[.tmp 4],[0,1,2,3,5,7,10,12],λ_=>none,⟨λ_ _=>none,λs=>Nat.testBit 12 s,λr=>bif r==2 then [11]else bif r==3 then [13]else []⟩⟩
def Qk:Am.Fn:=agw.fn C Iu.1 Tryz.f312
theorem aeD:ao Tryz.prog 312 Qk:=ok Iu.2 Tryz.func312 (by kernel_rfl)
def Cc:Tb:=Iu.put 312 aeD
def Gn:MF:=⟨[(mU,.ro),(mU,.ro)],[(av,0)],[.tmp 4],[0,1,2,3,5,17,19,21,23],λk=>bif k==1000004 then some 35 else none,⟨λ_ _=>none,λs=>Nat.testBit 0 s,λ_=>[]⟩⟩
def Ql:Am.Fn:=Gn.fn C Cc.1 Tryz.f245
theorem aeC:ao Tryz.prog 245 Ql:=ok Cc.2 Tryz.func245 (by kernel_rfl)
def Ix:Tb:=Cc.put 245 aeC
def agv:MF:=⟨[(fS,.ro),(fS,.ro)],[(av,0)],[.tmp 4],[0,1,2,3,5,7,10,12,15,17],λ_=>none,⟨λ_ _=>none,λs=>Nat.testBit 12 s,λr=>bif r==2 then [16]else bif r==3 then [18]else []⟩⟩
def Qh:Am.Fn:=agv.fn C Ix.1 Tryz.f144
theorem aeB:ao Tryz.prog 144 Qh:=ok Ix.2 Tryz.func144 (by kernel_rfl)
def Ca:Tb:=Ix.put 144 aeB
def Gl:MF:=⟨[(a6,.ro),(a6,.ro)],[(av,0)],[.tmp 4],[0,1,2,3,5,17,19,21,23],λk=>bif k==1000004 then some 35 else none,⟨λ_ _=>none,λs=>Nat.testBit 0 s,λ_=>[]⟩⟩
def Qi:Am.Fn:=Gl.fn C Ca.1 Tryz.f48
theorem aeA:ao Tryz.prog 48 Qi:=ok Ca.2 Tryz.func48 (by kernel_rfl)
def Cb:Tb:=Ca.put 48 aeA
def Gm:MF:=⟨[(mT,.ro),(mT,.ro)],[(av,0)],[.tmp 4],[0,1,2,3,5,17,19,21,23],λk=>bif k==1000004 then some 35 else none,⟨λ_ _=>none,λs=>Nat.testBit 0 s,λ_=>[]⟩⟩
def Qj:Am.Fn:=Gm.fn C Cb.1 Tryz.f167
theorem aez:ao Tryz.prog 167 Qj:=ok Cb.2 Tryz.func167 (by kernel_rfl)
def Iw:Tb:=Cb.put 167 aez
def agx:MF:=⟨[(jI,.ro),(jI,.ro)],[(av,0)],[.tmp 4],[0,1,2,3,5,7,11,13],λ_=>none,⟨λ_ _=>none,λs=>Nat.testBit 12 s,λr=>bif r==2 then [6,12]else bif r==3 then [8,14]else []⟩⟩
def Qm:Am.Fn:=agx.fn C Iw.1 Tryz.f61
theorem aeE:ao Tryz.prog 61 Qm:=ok Iw.2 Tryz.func61 (by kernel_rfl)
def VM:Tb:=Iw.put 61 aeE
def agr:MF:=⟨[(lL,.ro)],[(av,0)],[.tmp 2],[0,1,3,4,5,6],λk=>bif k==6 then some 22 else none,⟨λ_ _=>none,λs=>Nat.testBit 34 s,λr=>bif r==1 then [7,12,15,23]else bif r==5 then [17,22]else []⟩⟩
def ED:Am.Fn:=agr.fn C VM.1 Tryz.f9
theorem aer:ao Tryz.prog 9 ED:=ok VM.2 Tryz.func9 (by kernel_rfl)
end
end Go.Proofs.YtbhogmdpmkpinaaGreat.P.It
