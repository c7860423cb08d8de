/- A part of the proof: Am61,Am62,Am63,Am64,Am30,Am31. No conditions. -/
import Derived.Test.YtbhogmdpmkpinaaGreatPG6
import Derived.Test.YtbhogmdpmkpinaaGreatPG5
set_option linter.unusedVariables false
set_option linter.unusedSimpArgs false
namespace Go.Proofs.YtbhogmdpmkpinaaGreat.P.Am
variable{log:List Nat}{ups:List (Nat×V)}{d n:Nat}{o:Oper}{m:M (List (Nat×V))}{t:Ty}{X:TypeId}{ps:List (Ty×Mode)}{args:Array Operand}{cn:Array TypeId}{mu:List (Nat×Nat)}
def r6(N:Nat):List Nat->M (List (Nat×V))->M (List (Nat×V))
 | [],m=>m
 | s::l,m=>.get s λv=>match v with
  | .box none n t x =>
   if s<N then
    iu true s s [] (((r6 N l m).eM [(s,.rp none t x)]).bind λups=>.ret ((s,.rp none t x)::ups))
   else r6 N l m
  | _=>r6 N l m
def vC(N t:Nat)(m:M (List (Nat×V))):M (List (Nat×V)):=
 .get t λv=>match v with
  | .d none 0 (.cap none te) x=>cond (decide (t<N)) (.cr te x λy=>(m.eM [(t,.rp none te y)]).bind λups=>.ret ((t,.rp none te y)::ups)) m
  | _=>m
def tM:List Operand->M ((t:Ty)×t.den)
 | []=>.ret ⟨.unit,()⟩
 | .tmp s::l=>.get s λv=>match v with
  | .rp none t x=>(tM l).bind λr=>.ret ⟨.pair (.cap none t) r.1,(some x,r.2)⟩
  | _=>.fail
 | .const (.pointer none)::l=>(tM l).bind λr=>.ret ⟨.pair (.cap none .unit) r.1,((none:Option Unit),r.2)⟩
 | _=>.fail
def RA(d:Nat)(g:FuncId)(gi:List Operand):M (List (Nat×V)):=
 .bc (!(g==jx)) ((tM gi).bind λz=>.ret [(d,.d none 0 (.cap (some g) z.1) (some z.2))])
def fU:(ps:List (Ty×Mode))->(T:Ty)->T.den->Option (cW ps).den
 | [],.unit,_=>some ()
 | (t,.ro)::ps,.pair (.cap k t') r,y=>if h:Ty.cap k t'=t then (fU ps r y.2).map λz=>(h▸y.1,z)else none
 | _,_,_=>none
def tF(C:Ctx):(ps:List (Ty×Mode))->List Operand->(T:Ty)->T.den->M (kI ps)
 | ps,[],T,y=>match fU ps T y with
  | some x=>.ret ⟨x,[],[]⟩
  | none=>.fail
 | (t,.ro)::ps,x::xs,T,y=>(oG C t x).bind λu=>(tF C ps xs T y).bind λr=>.ret ⟨(u.1,r.x),u.2++r.ls,r.mu⟩
 | _,_,_,_=>.fail
def Gv(C:Ctx)(bf:dx)(vs:List Nat)(d s:Nat)(args:List Operand):M (List (Nat×V)):=
 .get s λv=>match v with
  | .d none 0 (.cap (some g) T) y=>.cr T y λy=>match bf g with
   | none=>.fail
   | some F=>(tF C F.ps args T y).bind λA=>.cr (.pair (cG F.rs) (cm F.ps)) (F.ao A.x) λr=>match lF vs A.ls F.rs r.1 with
    | some v=>.ret [(d,v)]
    | none=>.fail
  | _=>.fail
section
variable{P:Program}{C:Ctx}{w w' w0:World}{L L' L0:Nat->aj}{s N:Nat}{vs:List Nat}{T T':List V}{a:Act}
theorem Iw{T:List V}{s:Nat}{u:V}(ba:s<T.length)(z:Nat):(T.set s u).getD z .dead=(eJ [(s,u)] z).getD (T.getD z .dead):=by
 simp only[eJ];rw[az];by_cases h1:z=s
 ·subst h1;simp[ba]
 ·have e1:(s==z)=false:=by simpa using Ne.symm h1
  rw[e1];simp[h1]
theorem Inv.ajA[ae](hI:Inv w0 L0 N vs T a w L){s:Nat}{x:t.den}(hs:s<N)(hv:T.getD s .dead = .box none n t x)(af:∀z,(T.getD z .dead).on s=false):
  ∃L',Inv w0 L0 N vs (T.set s (.rp none t x)) a w L':=by
 have ba:s<T.length:=by rw[hI.len];exact hs
 have ji:fe (λz q=>cond (z==s) aj.al (.own z q)) (λz=>z=s):=by
  refine⟨λz q hX=>?_,λz q z' q' hX h=>?_,λz q z2 q2 z' q' h1 h2=>?_,λz q=>?_⟩
  ·have:(z==s)=false:=by simpa using hX
   rw[this];rfl
  ·have:(z==s)=true:=by simpa using hX
   rw[this]at h;cases h
  ·cases h3:z==s with
   | true=>rw[h3]at h1;cases h1
   | false =>
    cases h4:z2==s with
    | true=>rw[h4]at h2;cases h2
    | false =>
     rw[h3]at h1;rw[h4]at h2;simp only[cond_false]at h1 h2;rw[<-h2]at h1;injection h1 with e1 e2;exact⟨e1,e2⟩
  ·cases z==s<;>simp
 refine⟨aP (λz q=>cond (z==s) aj.al (.own z q)) w L (λ_=>.free),Inv.gf hI ji (Wd.refl hI _) (λ_ _ _ _ _ h=>by cases h) hI.size (by simp[hI.len]) hI.dy ?_ ?_ ?_ ?_ ?_⟩
 ·intro k s' q bD h;subst bD;unfold aP at h;split at h
  ·obtain⟨s0,q0,e0,f0⟩:=ey h;cases h3:s0==s' with
   | true=>rw[h3]at f0;cases f0
   | false =>
    rw[h3]at f0;simp only[cond_false]at f0;injection f0 with f0 _;rw[f0]at h3;simp at h3
  ·cases h
 ·intro z r hz ho hr;subst hr;rw[af z]at ho;cases ho
 ·intro z hz;rw[az,if_neg (λh=>hz h.1)];exact⟨rfl,rfl⟩
 ·intro z r hz ho;subst hz;rw[az,if_pos ⟨rfl,ba⟩]at ho;simp[V.on,V.root]at ho
 ·intro z hz;subst hz;rw[az,if_pos ⟨rfl,ba⟩];have uP:=hI.aS z;rw[hv]at uP;obtain⟨_,g,cur,e,h2,h3,h4,h5,h6⟩:=uP;have aX:∀k q,L k = .own z q->aP (λz' q=>cond (z'==z) aj.al (.own z' q)) w L (λ_=>.free) k = .al:=by
   intro k q hk;rw[cM hI (by rw[hk];simp),hk];show cond _ _ _=_;rw[beq_self_eq_true];rfl
  refine⟨by simp,g,0,cur.toList,h2,.inl (aX g [] h3),?_,λi v hv=>?_⟩
  ·refine Own.ee (Own.eL (L':=aP (λz' q=>cond (z'==z) aj.al (.own z' q)) w L (λ_=>.free)) (s':=z) (q2:=[]) (o2:=0) (Nat.zero_le _) (λk hk=>?_) (λk d rest _ hk=>⟨rfl,λh=>absurd h (Nat.not_lt_zero _),λ_=>.inl (aX k _ hk)⟩) h6);rcases hk with hk|⟨_,_,hk,_⟩
   ·exact⟨.inl (dQ hI hk),rfl⟩
   ·cases hk
  ·rw[Nat.zero_add,GF h4];simpa using hv
theorem Ci[ae]:{l:List Nat}->{T:List V}->{L:Nat->aj}->{ups:List (Nat×V)}->{log:List Nat}->Inv w0 L0 N vs T a w L->(r6 N l m).ai T ups log ->
  ∃T1 L1 bL log2,Inv w0 L0 N vs T1 a w L1/\m.ai T1 bL log2/\ah T ups=ah T1 bL
 | [],T,L,ups,log,hI,h=>⟨T,L,ups,log,hI,h,rfl⟩
 | s::l,T,L,ups,log,hI,h=>by
  simp only[r6]at h;obtain⟨ay,rfl,h⟩:=h;dsimp only at h;split at h
  ·rename_i n t x hv;split at h
   ·rename_i bW;obtain⟨cJ,log2,h⟩:=jP h;obtain⟨bL,l3,l4,rfl,h1,h2⟩:=M.ak h;obtain⟨rfl,_⟩:=h2;have ba:s<T.length:=by rw[hI.len];exact bW
    obtain⟨fu,h1⟩:=pN (T':=T.set s (.rp none t x)) (by simp) (λz hz=>by
     simp only[List.map_cons,List.map_nil,List.mem_cons,List.not_mem_nil,or_false]at hz;rw[hz];exact ba) (Iw ba) _ h1
    obtain⟨L1,bu⟩:=Inv.ajA hI bW hv (λz=>by
      by_cases hz:z=s
      ·subst hz;rw[hv];rfl
      ·simpa using cJ z hz)
    obtain⟨T1,L2,kG,ke,k1,k2,k3⟩:=Ci bu h1;exact⟨T1,L2,kG,ke,k1,k2,k3⟩
   ·exact Ci hI h
  ·exact Ci hI h
theorem Jh[ae]{t:Nat}(hI:Inv w0 L0 N vs T a w L)(h:(vC N t m).ai T ups log):
  ∃T1 L1 bL log2,Inv w0 L0 N vs T1 a w L1/\m.ai T1 bL log2/\ah T ups=ah T1 bL:=by
 unfold vC at h;obtain⟨ay,rfl,h⟩:=h;dsimp only at h;split at h
 ·rename_i te x hv;cases hc:decide (t<N)with
  | false=>rw[hc]at h;exact⟨T,L,ups,_,hI,h,rfl⟩
  | true =>
   rw[hc,cond_true]at h;obtain⟨y,hy,h⟩:=h;obtain⟨bL,l3,l4,rfl,h1,h2⟩:=M.ak h;clear h;obtain⟨rfl,_⟩:=h2;have htN:=of_decide_eq_true hc;have ba:t<T.length:=by rw[hI.len];exact htN
   obtain⟨fu,h1⟩:=pN (T':=T.set t (.rp none te y)) (by simp) (λz hz=>by
     simp only[List.map_cons,List.map_nil,List.mem_cons,List.not_mem_nil,or_false]at hz;rw[hz];exact ba) (Iw ba) _ h1
   have ji:fe (λz q=>aj.own z q) (λz=>z=t):=by
    refine⟨λz q _=>rfl,λz q z' q' hX h=>?_,λz q z2 q2 z' q' h1 h2=>?_,λz q=>?_⟩
    ·injection h with h _;rw[<-h];exact hX
    ·rw[<-h2]at h1;injection h1 with e1 e2;exact⟨e1,e2⟩
    ·simp
   have cu:∀z,(T.getD z .dead).on t=true->(T.getD t .dead).aD=false:=λz _=>by rw[hv];rfl
   refine⟨T.set t (.rp none te y),aP (λz q=>aj.own z q) w L (λ_=>.free),bL,fu,Inv.gf hI ji (Wd.refl hI _) (λ_ _ _ _ _ h=>by cases h) hI.size (by simp[hI.len]) hI.dy ?_ ?_ ?_ ?_ ?_,h1,rfl⟩
   ·intro k s' q bD h;subst bD;unfold aP at h;split at h
    ·obtain⟨s0,q0,e0,f0⟩:=ey h;injection f0 with f0 _;have:=hI.owner k _ _ e0;rw[f0,hv]at this;cases this
    ·cases h
   ·intro z r _ ho hr;subst hr;exact cu z ho
   ·intro z hz;rw[az,if_neg (λh=>hz h.1)];exact⟨rfl,rfl⟩
   ·intro z r hz ho;subst hz;rw[az,if_pos ⟨rfl,ba⟩]at ho;simp[V.on,V.root]at ho
   ·intro z hz;subst hz;rw[az,if_pos ⟨rfl,ba⟩];have uP:=hI.aS z;rw[hv]at uP;obtain⟨_,cs,hf,ho⟩:=uP;have hr:=Own.ee ho;rw[hy]at hr;simp only[Rd]at hr;have cT:cs=[a.tmps.getD z undef]:=hf;rcases hr with⟨h,_⟩|⟨y',es,e1,e2,g,o,e3,e4,e5⟩
    ·cases h
    ·injection e1 with e1;subst e1;rw[cT]at e3;have e3:=(List.cons.inj e3).1;have hm:∀k,SL L none k->SL (aP (λz q=>aj.own z q) w L (λ_=>.free)) none k/\w.heap[k]?=w.heap[k]?:=by
      rintro k (hk|⟨_,_,hk,_⟩)
      ·exact⟨.inl (dQ hI hk),rfl⟩
      ·cases hk
     exact⟨by simp,g,o,es,e3,(hm g e4).1,Rd.move hm e2,e5⟩
 ·exact⟨T,L,ups,_,hI,h,rfl⟩
theorem GD[ae](hI:Inv w0 L0 N vs T a w L):{l:List Operand}->{z:(t:Ty)×t.den}->{log:List Nat}->(tM l).ai T z log->Rd w (SL L none) z.1 z.2 (l.map a.eval)
 | [],z,log,h=>by
  obtain⟨rfl,_⟩:=h
  first|rfl|simp[Rd]
 | x::l,z,log,h=>by
  unfold tM at h;split at h
  ·rename_i he;cases he
  ·rename_i s l' he;injection he with e1 e2;subst e1 e2;obtain⟨ay,rfl,h⟩:=h;dsimp only at h;split at h
   ·rename_i t x hv;obtain⟨r,l1,l2,rfl,h1,h2⟩:=M.ak h;obtain⟨rfl,_⟩:=h2;have hs:=hI.aS s;rw[hv]at hs;obtain⟨_,g,o,cs,e1,e2,e3,e4⟩:=hs;have ih:=GD hI h1;simp only[Rd];refine⟨[a.eval (.tmp s)],l.map a.eval,rfl,.inr ⟨x,cs,rfl,e3,g,o,?_,e2,e4⟩,ih⟩;show [a.tmps.getD s undef]=_;rw[e1]
   ·exact h.elim
  ·rename_i l' he;injection he with e1 e2;subst e1 e2;obtain⟨r,l1,l2,rfl,h1,h2⟩:=M.ak h;obtain⟨rfl,_⟩:=h2;have ih:=GD hI h1;simp only[Rd];refine⟨[.pointer none],l.map a.eval,rfl,?_,ih⟩
   first|exact .inl ⟨rfl,rfl⟩|simp[q7]
  ·exact h.elim
theorem akO[ae](hI:Inv w0 L0 N vs T a w L){g:FuncId}{gi:Array Operand}   
  (ho:o.op = .makeFunc (.func g) #[] gi) (av:o.dst=some d) (hd:d<N) (hid:(T.getD d .dead).idle=true)
  (h:(RA d g gi.toList).ai T ups log):Step P o w0 L0 N vs (ah T ups) a w:=by
 obtain⟨hg,h⟩:=h;obtain⟨z,l1,l2,rfl,h1,h2⟩:=M.ak h;obtain⟨rfl,_⟩:=h2;have hr:=GD hI h1;have bX:aH P o vs T a w L d (.d none 0 (.cap (some g) z.1) (some z.2)):=by
  refine aH.still hI (c:=.func (.func g) #[] (gi.map a.eval)) ?_ (λr=>rfl) ?_
  ·simp[execOp,ho,Instr.makeFunc]
  ·refine⟨by simp,[.func (.func g) #[] (gi.map a.eval)],rfl,?_⟩;simp only[Own,Rd];refine .inr ⟨z.2,gi.toList.map a.eval,rfl,hr,by simpa using hg,?_⟩;show [_]=[_];congr 2;apply Array.ext';simp
 intro K Q hK;exact aH.inv hI hd hid av bX hK
theorem Rs{S:Nat->Prop}{L1:Nat->aj}(hS:∀k,S k->L1 k = .al):{ps:List (Ty×Mode)}->{t:Ty}->{y:t.den}->{x:(cW ps).den}->{i:Nat}->{es:List Value}->fU ps t y=some x->Rd w S t y es->dE w L1 i ps x es
 | [],.unit,y,x,i,es,h,hr=>by
  simp only[Rd]at hr;subst hr;rfl
 | (t,.ro)::ps,.pair (.cap k t') r,y,x,i,es,h,hr=>by
  simp only[fU]at h;split at h
  ·rename_i ht;subst ht;obtain⟨z,hz,h⟩:∃z,fU ps r y.2=some z/\(y.1,z)=x:=by
    cases hc:fU ps r y.2 with
    | none=>rw[hc]at h;cases h
    | some z=>rw[hc]at h;injection h with h;exact⟨z,rfl,h⟩
   subst h;simp only[Rd]at hr;obtain⟨c0,c1,rfl,h0,h1⟩:=hr;have Sv:Rd w S (.cap k t') y.1 c0:=by simp only[Rd];exact h0
   have hl:=Rd.len Sv
   match c0,hl with
   | [c],_ =>
    refine⟨c,c1,[c],rfl,rfl,?_,Rs hS hz h1⟩;exact Own.du (Rd.move (λk hk=>⟨hS k hk,rfl⟩) Sv)
  ·cases h
 | [],.int _,_,_,_,_,h,_|[],.bool,_,_,_,_,h,_|[],.str,_,_,_,_,h,_|[],.raw _,_,_,_,_,h,_|[],.pair _ _,_,_,_,_,h,_|[],.agg _,_,_,_,_,h,_|[],.slice _ _,_,_,_,_,h,_|[],.cap _ _,_,_,_,_,h,_=>by simp[fU]at h
 | (_,.mut _)::_,_,_,_,_,_,h,_|(_,.ptr _)::_,_,_,_,_,_,h,_|(_,.bQ _)::_,_,_,_,_,_,h,_=>by simp[fU]at h
 | (_,.ro)::_,.int _,_,_,_,_,h,_|(_,.ro)::_,.bool,_,_,_,_,h,_|(_,.ro)::_,.str,_,_,_,_,h,_|(_,.ro)::_,.raw _,_,_,_,_,h,_|(_,.ro)::_,.unit,_,_,_,_,h,_|(_,.ro)::_,.agg _,_,_,_,_,h,_|(_,.ro)::_,.slice _ _,_,_,_,_,h,_|(_,.ro)::_,.cap _ _,_,_,_,_,h,_=>by simp[fU]at h
 | (_,.ro)::_,.pair (.int _) _,_,_,_,_,h,_|(_,.ro)::_,.pair .bool _,_,_,_,_,h,_|(_,.ro)::_,.pair .str _,_,_,_,_,h,_|(_,.ro)::_,.pair (.raw _) _,_,_,_,_,h,_|(_,.ro)::_,.pair .unit _,_,_,_,_,h,_|(_,.ro)::_,.pair (.agg _) _,_,_,_,_,h,_|(_,.ro)::_,.pair (.slice _ _) _,_,_,_,_,h,_|(_,.ro)::_,.pair (.pair _ _) _,_,_,_,_,h,_=>by simp[fU]at h
theorem Rt:{ps:List (Ty×Mode)}->{t:Ty}->{y:t.den}->{x:(cW ps).den}->fU ps t y=some x->∀(j:Nat) (u:Ty) (m:Mode),ps[j]?=some (u,m)->m = .ro
 | [],_,_,_,_,j,u,m,hj=>by simp at hj
 | (t,.ro)::ps,.pair (.cap k t') r,y,x,h,j,u,m,hj=>by
  cases j with
  | zero=>simp at hj;exact hj.2.symm
  | succ j =>
   simp only[fU]at h;split at h
   ·cases hc:fU ps r y.2 with
    | none=>rw[hc]at h;cases h
    | some z=>exact Rt hc j u m (by simpa using hj)
   ·cases h
 | (_,.mut _)::_,_,_,_,h,_,_,_,_|(_,.ptr _)::_,_,_,_,h,_,_,_,_|(_,.bQ _)::_,_,_,_,h,_,_,_,_=>by simp[fU]at h
 | (_,.ro)::_,.int _,_,_,h,_,_,_,_|(_,.ro)::_,.bool,_,_,h,_,_,_,_|(_,.ro)::_,.str,_,_,h,_,_,_,_|(_,.ro)::_,.raw _,_,_,h,_,_,_,_|(_,.ro)::_,.unit,_,_,h,_,_,_,_|(_,.ro)::_,.agg _,_,_,h,_,_,_,_|(_,.ro)::_,.slice _ _,_,_,h,_,_,_,_|(_,.ro)::_,.cap _ _,_,_,h,_,_,_,_=>by simp[fU]at h
 | (_,.ro)::_,.pair (.int _) _,_,_,h,_,_,_,_|(_,.ro)::_,.pair .bool _,_,_,h,_,_,_,_|(_,.ro)::_,.pair .str _,_,_,h,_,_,_,_|(_,.ro)::_,.pair (.raw _) _,_,_,h,_,_,_,_|(_,.ro)::_,.pair .unit _,_,_,h,_,_,_,_|(_,.ro)::_,.pair (.agg _) _,_,_,h,_,_,_,_|(_,.ro)::_,.pair (.slice _ _) _,_,_,h,_,_,_,_|(_,.ro)::_,.pair (.pair _ _) _,_,_,h,_,_,_,_=>by simp[fU]at h
theorem Rc[ae](hI:Inv w0 L0 N vs T a w L){y:t.den}{es:List Value}(hy:Rd w (SL L none) t y es):{ps:List (Ty×Mode)}->{xs:List Operand}->{A:kI ps}->{log:List Nat}->(i:Nat)->(tF C ps xs t y).ai T A log ->
  (∀r∈A.ls,(T.getD r .dead).deep=true)/\(∀(j:Nat) (u:Ty) (m:Mode),ps[j]?=some (u,m)->m = .ro) /\
  ∀L1:Nat->aj,(∀k,L k = .al->L1 k = .al)->(∀k r q,r∈A.ls->L k = .own r q->L1 k = .al)->dE w L1 i ps A.x (xs.map a.eval++es)
 | ps,[],A,log,i,h=>by
  unfold tF at h;split at h
  ·rename_i x hx;obtain⟨rfl,_⟩:=h;refine⟨by simp,Rt hx,λL1 H1 _=>?_⟩;exact Rs (λk hk=>by
    rcases hk with hk|⟨_,_,hk,_⟩
    ·exact H1 k hk
    ·cases hk) hx hy
  ·exact h.elim
 | (u,.ro)::ps,x::xs,A,log,i,h=>by
  simp only[tF]at h;obtain⟨⟨z,ls⟩,l1,l2,rfl,h1,h⟩:=M.ak h;obtain⟨A',l3,l4,rfl,h2,h⟩:=M.ak h;obtain⟨rfl,_⟩:=h;obtain⟨cells,k1,k2,k3⟩:=tE hI h1;obtain⟨j1,j2,j3⟩:=Rc hI hy (i+1) h2;refine⟨λr hr=>?_,λj u' m hj=>?_,λL1 H1 H2=>?_⟩
  ·rcases List.mem_append.1 hr with hr|hr
   ·exact k2 r hr
   ·exact j1 r hr
  ·cases j with
   | zero=>simp at hj;exact hj.2.symm
   | succ j=>exact j2 j u' m (by simpa using hj)
  ·exact⟨a.eval x,_,cells,rfl,k1,Own.du (k3 _ H1 (λk r q hr hk=>H2 k r q (List.mem_append_left _ hr) hk)),j3 L1 H1 (λk r q hr hk=>H2 k r q (List.mem_append_right _ hr) hk)⟩
 | [],_::_,_,_,_,h=>h.elim
 | (_,.mut _)::_,_::_,_,_,_,h=>h.elim
 | (_,.ptr _)::_,_::_,_,_,_,h=>h.elim
 | (_,.bQ _)::_,_::_,_,_,_,h=>h.elim
theorem akb{s:Nat}{f:FuncId}{fn:Func}{gi:Array Value}(HA:o.op = .call { callee:=.value (.tmp s),args,argTypes:=cn })
  (hs : a.tmps.getD s undef = .func (.func f) #[] gi) (hf : P.funcs[f]? = some fn) (fG : (fn.name == "runtime.NumGoroutine") = false) (hb : fn.body.isNone = false) : (execOp a.eval o).run P w = .ok (.enter f (args.map a.eval ++ gi)) w := by
 have h1 : ¬ fn.name = "runtime.NumGoroutine" := by simpa using fG
 have h2:¬fn.body=none:=by cases hx:fn.body<;>simp_all
 have h3:a.eval (.tmp s) = .func (.func f) #[] gi:=hs;unfold execOp;simp[HA,resolve,Deferred.ofValue,invoke,callFunc,hf,h1,h2,h3]
theorem akH[ae](hI:Inv w0 L0 N vs T a w L){bf:dx}(dJ:fA P bf){s:Nat}{d:Nat}  
  (ho:o.op = .call { callee:=.value (.tmp s),args,argTypes:=cn }) (av:o.dst=some d) (hd:d<N) (hid:(T.getD d .dead).idle=true)
  (h:(Gv C bf vs d s args.toList).ai T ups log):Step P o w0 L0 N vs (ah T ups) a w:=by
 unfold Gv at h;obtain⟨ay,rfl,h⟩:=h;dsimp only at h;split at h
 ·rename_i g t y0 hv;obtain⟨y,hy,h⟩:=h;split at h
  ·exact h.elim
  ·rename_i F hF;obtain⟨⟨fn,gO,fG,lZ⟩,aI⟩:=dJ g F hF;have hb:=M.ak h;clear h;obtain⟨A,l1,l2,rfl,h1,h⟩:=hb;have hs:=hI.aS s;rw[hv]at hs;obtain⟨_,cs,hf,bM⟩:=hs;have br:=Own.ee bM;rw[hy]at br;simp only[Rd]at br;have cT:cs=[a.tmps.getD s undef]:=hf;rcases br with⟨h0,_⟩|⟨y',es,e1,e2,e3⟩
   ·cases h0
   injection e1 with e1;subst e1;have e3:cs=[.func (.func g) #[] es.toArray]:=e3.2;rw[cT]at e3;have e3:=(List.cons.inj e3).1;obtain⟨dO,HK,gn⟩:=Rc hI e2 0 h1;have aJ:=akb (P:=P) (a:=a) (w:=w) ho e3 gO fG lZ;have la:∀r∈A.ls,r≠d:=λr hr=>cV hid (V.eN (dO r hr));obtain⟨r,eH,h⟩:=h;dsimp only at h;split at h
   ·rename_i v cD;obtain⟨rfl,_⟩:=h;intro K Q hK;unfold Oper.wp;rw[aJ,Oper.upon_enter];have mf:jb w (λk=>cw none A.ls (L k)) F.ps:=by
     refine⟨λk hk=>by rw[hI.free k hk];rfl,λk k' s q h h'=>?_,λk s q h=>?_,ae.aO hI.fr.gm λk hk h0=>⟨?_,(hI.fr.aO k hk h0).2⟩⟩
     ·obtain⟨r1,e1,e2⟩:=kF h;cases e1
     ·obtain⟨r1,e1,e2⟩:=kF h;cases e1
     ·rw[(hI.fr.aO k hk h0).1];rcases h0 with h0|h0<;>rw[h0]<;>simp[cw]
    have dr:=gn (λk=>cw none A.ls (L k)) (λk hk=>by rw[hk];rfl) (λk r q hr hk=>by
     rw[hk];unfold cw;dsimp only;rw[if_pos (by simpa using hr)])
    refine Calls.mono (aI A.x r eH w _ (args.map a.eval++es.toArray) mf (by simpa using dr)) ?_
    rintro e w' ⟨a7,L',rfl,aZ,bX,jn⟩
    dsimp only;rw[av];refine hK _ _ (dq none F.ps.length d L L') ?_;have mn:∀(j:Nat) (t:Ty) (m:Mode),F.ps[j]?=some (t,m)->m.back=true->False:=by
     intro j t m hj hm;rw[HK j t m hj]at hm;cases hm
    have bO:(ah T [(d,v)]).getD d .dead=v:=by
     show (T.set d v).getD d .dead=v;rw[az,if_pos ⟨rfl,by rw[hI.len];exact hd⟩]
    have bg:∀s,s≠d->(ah T [(d,v)]).getD s .dead=T.getD s .dead:=by
     intro s hs;show (T.set d v).getD s .dead=_;rw[az,if_neg (λe=>hs e.1)]
    obtain⟨k1,k2,k3⟩:=vx (T':=ah T [(d,v)]) (d:=d) hI aZ rfl (λr hr=>by rw[bg r (la r hr)];exact dO r hr) bX cD;exact Inv.called hI hd hid rfl (λr i h=>by cases h) aZ (by rw[cj,hI.len]) (λj t n hj hm=>(mn j t n hj hm).elim) (λr i h=>by cases h) (λs r i h=>by cases h) (λs hs _=>bg s hs) bO k1 k2 (λr i h=>by cases h) k3
   ·exact h.elim
 ·exact h.elim
end
def pE(vs:List Nat)(N:Nat):List Nat->M (List (Nat×V))->M (List (Nat×V))
 | [],m=>m
 | s::l,m=>.get s λv=>match v with
  | .view r p t=>(lE s v).bind λz=>cond (decide (s<N)&&fj vs (.d z.1 0 z.2.1 z.2.2)&&z.1 != some s)
    (((pE vs N l m).eM [(s,.d z.1 0 z.2.1 z.2.2)]).bind λups=>.ret ((s,.d z.1 0 z.2.1 z.2.2)::ups)) (pE vs N l m)
  | _=>pE vs N l m
def IN:V:=.d none 0 (.cap (some jx) .unit) none
def isNil:V->Bool
 | .d none 0 (.cap (some f) .unit) _=>f==jx
 | _=>false
def GC(d:Nat)(l:List Operand)(m:M (List (Nat×V))):M (List (Nat×V)):=match l with
 | [.tmp s]=>.get s λv=>cond (isNil v) (.ret [(d,.d none 0 (.int .i64) (0:Int))]) m
 | _=>m
def GN(C:Ctx)(vs:List Nat)(N d:Nat)(hint:Bool)(X:TypeId)(s:Nat)(lo hi:Option Operand)(m:M (List (Nat×V))):M (List (Nat×V)):=
 .get s λv=>cond (isNil v) ((iN C lo).bind λl=>(iN C hi).bind λh=>.bc (l.getD 0==0&&h.getD 0==0) (match C.ty X with
   | some (.slice _ _)=>.ret [(d,IN)]
   | _=>.fail))
  (cond hint (match v with
   | .d none (n+1) (.slice e t) xs=>(iN C lo).bind λl=>(iN C hi).bind λh=>cond (l.getD 0==0&&h==some 0 && !vs.contains s&&decide (s≠d)) (match C.ty X with
     | some (.slice e' t')=>cond (decide (e'=e/\t'=t)) (.ret [(s,.dead),(d,.d none (n+1) (.slice e t) [])]) .fail
     | _=>.fail) .fail
   | _=>m) m)
def IM(C:Ctx)(d:Nat)(hint:Bool)(X:TypeId)(x:Operand)(m:M (List (Nat×V))):M (List (Nat×V)):=match x with
 | .tmp s=>cond hint (.get s λv=>cond (isNil v) (match C.ty X with
   | some (.slice e t)=>.ret [(d,.d none (t.depth+1) (.slice e t) [])]
   | _=>.fail) m) m
 | _=>m
def J8(C:Ctx)(d:Nat)(X X2:TypeId)(s x:Operand)(m:M (List (Nat×V))):M (List (Nat×V)):=match s with
 | .tmp s=>.get s λv=>cond (isNil v) (match C.ty X,C.ty X2 with
   | some (.slice e t),some (.int _)=>(cq C X2 x).bind λu=>match u with
    | .d _ _ (.int .i64) n=>.bc (decide (0<n)&&decide (t.sz≠0)&&decide (n*C.bytes e<=140737488355328)&&decide (n<=140737488355328)) (.ret [(d,.d none (t.depth+1) (.slice e t) (List.replicate n.toNat t.zero))])
    | _=>.fail
   | _,_=>.fail) m
 | _=>m
section
variable{P:Program}{C:Ctx}{w w' w0:World}{L L' L0:Nat->aj}{s N:Nat}{vs:List Nat}{T T':List V}{a:Act}
theorem BG[ae](hI:Inv w0 L0 N vs T a w L){s:Nat}(h:isNil (T.getD s .dead)=true):a.tmps.getD s undef = .slice none 0 0:=by
 have hs:=hI.aS s;generalize T.getD s .dead=v at h hs;unfold isNil at h;split at h
 ·rename_i f x;obtain⟨_,cs,hf,ho⟩:=hs;have hr:=Own.ee ho;simp only[Rd]at hr;have hf:cs=[a.tmps.getD s undef]:=hf;rcases hr with⟨_,hr⟩|⟨_,_,_,_,hr⟩
  ·rw[hf]at hr;have hr:=(List.cons.inj hr).1;rw[hr];show cond (f==jx) _ _=_;rw[h];rfl
  ·have:=hr.1;rw[h]at this;cases this
 ·cases h
theorem aje{tm:Array Value}:ax L T tm d IN w (.slice none 0 0):=by
 refine⟨by simp,[.slice none 0 0],rfl,?_⟩;simp[Own,Rd,q7]
theorem u6[ae]:{l:List Nat}->{T:List V}->{L:Nat->aj}->{ups:List (Nat×V)}->{log:List Nat}->Inv w0 L0 N vs T a w L->(pE vs N l m).ai T ups log ->
  ∃T1 L1 bL log2,Inv w0 L0 N vs T1 a w L1/\m.ai T1 bL log2/\ah T ups=ah T1 bL
 | [],T,L,ups,log,hI,h=>⟨T,L,ups,log,hI,h,rfl⟩
 | s::l,T,L,ups,log,hI,h=>by
  simp only[pE]at h;obtain⟨ay,rfl,h⟩:=h;dsimp only at h;split at h
  ·rename_i r p t hv;have hb:=M.ak h;clear h;obtain⟨⟨lz,tz,yz⟩,l1,l2,rfl,hz,h⟩:=hb;dsimp only at h;cases hc:(decide (s<N)&&fj vs (.d lz 0 tz yz)&&lz != some s)with
   | false=>rw[hc]at h;exact u6 hI h
   | true =>
    rw[hc,cond_true]at h;simp only[Bool.and_eq_true,decide_eq_true_eq,bne_iff_ne,ne_eq]at hc;obtain⟨⟨bW,aI⟩,dO⟩:=hc;obtain⟨bL,l3,l4,rfl,h1,h2⟩:=M.ak h;clear h;obtain⟨rfl,_⟩:=h2;have ba:s<T.length:=by rw[hI.len];exact bW
    obtain⟨fu,h1⟩:=pN (T':=T.set s (.d lz 0 tz yz)) (by simp) (λz hz=>by
     simp only[List.map_cons,List.map_nil,List.mem_cons,List.not_mem_nil,or_false]at hz;rw[hz];exact ba) (Iw ba) _ h1
    have iG:=hI.aS s;obtain⟨cells,hf,br,ch⟩:=pQ hI hz iG (λ_=>rfl);have ji:fe (λz q=>aj.own z q) (λz=>z=s):=by
     refine⟨λz q _=>rfl,λz q z' q' hX h=>?_,λz q z2 q2 z' q' h1 h2=>?_,λz q=>?_⟩
     ·injection h with h _;rw[<-h];exact hX
     ·rw[<-h2]at h1;injection h1 with e1 e2;exact⟨e1,e2⟩
     ·simp
    have cu:(T.getD s .dead).aD=false:=by rw[hv];rfl
    have bu:Inv w0 L0 N vs (T.set s (.d lz 0 tz yz)) a w (aP (λz q=>aj.own z q) w L (λ_=>.free)):=by
     refine Inv.gf hI ji (Wd.refl hI _) (λ_ _ _ _ _ h=>by cases h) hI.size (by simp[hI.len]) hI.dy ?_ ?_ ?_ ?_ ?_
     ·intro k s' q bD h;subst bD;unfold aP at h;split at h
      ·obtain⟨s0,q0,e0,f0⟩:=ey h;injection f0 with f0 _;have:=hI.owner k _ _ e0;rw[f0,cu]at this;cases this
      ·cases h
     ·intro z r _ ho hr;subst hr;exact cu
     ·intro z hz;rw[az,if_neg (λh=>hz h.1)];exact⟨rfl,rfl⟩
     ·intro z r hz ho;subst hz;rw[az,if_pos ⟨rfl,ba⟩]at ho;exact r4 aI r ho
     ·intro z hz;subst hz;rw[az,if_pos ⟨rfl,ba⟩];have hm:∀k,SL L lz k->SL (aP (λz q=>aj.own z q) w L (λ_=>.free)) lz k/\w.heap[k]?=w.heap[k]?:=by
       rintro k (hk|⟨r,q,hl,hk⟩)
       ·exact⟨.inl (dQ hI hk),rfl⟩
       ·exact⟨.inr ⟨r,q,hl,by rw[cM hI (by rw[hk];simp),hk];rfl⟩,rfl⟩
      refine⟨λr hr=>?_,cells,hf,Own.du (Rd.move hm br)⟩;rw[az,if_neg (λe=>dO (by rw[hr,e.1]))];exact ch r hr
    obtain⟨T1,L2,kG,ke,k1,k2,k3⟩:=u6 bu h1;exact⟨T1,L2,kG,ke,k1,k2,k3⟩
  ·exact u6 hI h
theorem akN[ae](hI:Inv w0 L0 N vs T a w L){b:Builtin}(hb:b = .cap\/b = .len)      
  (hu:∀X,cn[0]?=some X->∃e,P.underlying X=some (.slice e)) (bd:cn.size=1) (ho:o.op = .call { callee:=.builtin b,args,argTypes:=cn }) (av:o.dst=some d) (hd:d<N) (hid:(T.getD d .dead).idle=true)
  (h:(GC d args.toList m).ai T ups log) (hm:∀log,m.ai T ups log->Step P o w0 L0 N vs (ah T ups) a w):Step P o w0 L0 N vs (ah T ups) a w:=by
 obtain⟨args⟩:=args;obtain⟨cn⟩:=cn;unfold GC at h;dsimp only at h;split at h
 ·rename_i s;obtain⟨ay,rfl,h⟩:=h;dsimp only at h;cases hn:isNil (T.getD s .dead)with
  | false=>rw[hn]at h;exact hm _ h
  | true =>
   rw[hn,cond_true]at h;obtain⟨rfl,_⟩:=h;have hv:=BG hI hn
   match cn,bd with
   | [X],_ =>
    obtain⟨e,he⟩:=hu X rfl;have cK:a.eval (.tmp s) = .slice none 0 0:=hv;have bX:aH P o vs T a w L d (.d none 0 (.int .i64) (0:Int)):=by
     refine aH.still hI (c:=.int .i64 0) ?_ (λ_=>rfl) ax.mkInt;rcases hb with rfl|rfl
     ·simp[execOp,ho,resolve,invoke,builtin,Builtin.cap_,cK,run_underlying he,goInt]
     ·simp[execOp,ho,resolve,invoke,builtin,Builtin.len_,cK,run_underlying he,goInt]
    intro K Q hK;exact aH.inv hI hd hid av bX hK
 ·exact hm _ h
end
section
variable{P:Program}{C:Ctx}{w w' w0:World}{L L' L0:Nat->aj}{s N:Nat}{vs:List Nat}{T T':List V}{a:Act}
theorem IZ{l:Option Int}(h:(l.getD 0==0)=true):l.getD 0=0:=by simpa using h
theorem akP[ae](hI:Inv w0 L0 N vs T a w L)(hC:bt P C){s:Nat}{hint:Bool}{lo hi:Option Operand}{m:M (List (Nat×V))}  
  (ho:o.op = .slice X (.tmp s) lo hi none) (av:o.dst=some d) (hd:d<N) (hid:(T.getD d .dead).idle=true)
  (h:(GN C vs N d hint X s lo hi m).ai T ups log) (hm:∀log,m.ai T ups log->Step P o w0 L0 N vs (ah T ups) a w):Step P o w0 L0 N vs (ah T ups) a w:=by
 have key:∀c,(Instr.sliceAt X (a.eval (.tmp s)) (lo.map a.eval) (hi.map a.eval) none).run P w = .ok c w->(execOp a.eval o).run P w = .ok (.value c) w:=by
  intro c hc;simp[execOp,ho,hc]
 unfold GN at h;obtain⟨ay,rfl,h⟩:=h;dsimp only at h;cases hn:isNil (T.getD s .dead)with
 | true =>
  rw[hn,cond_true]at h;have hv:=BG hI hn;obtain⟨l,l1,l2,rfl,hl,h⟩:=M.ak h;obtain⟨z,l3,l4,rfl,hh,h⟩:=M.ak h;obtain⟨hc,h⟩:=h;rw[Bool.and_eq_true]at hc;split at h
  ·rename_i e t hX;obtain⟨rfl,_⟩:=h;obtain⟨hu,he⟩:=(hC X _ hX).bT;have el:=mS (z:=0) (mO hI hl);have eh:=mS (z:=0) (mO hI hh);rw[IZ hc.1]at el;rw[IZ hc.2]at eh;have aJ:=Co (P:=P) (w:=w) hu ((hC e t he).run_sizeOf) (A:=none) (len:=0) (cap:=0) el eh (by omega) (by omega) (by omega) (by omega);have cK:a.eval (.tmp s) = .slice none 0 0:=hv;have bX:aH P o vs T a w L d IN:=aH.still hI (c:=.slice none 0 0) (key _ (by rw[cK];exact aJ)) (λ_=>rfl) aje;intro K Q hK;exact aH.inv hI hd hid av bX hK
  ·exact h.elim
 | false =>
  rw[hn,cond_false]at h;cases hint with
  | false=>exact hm _ h
  | true =>
   rw[cond_true]at h;have hs:=hI.aS s;generalize hv:T.getD s .dead=v at h hs;split at h
   ·rename_i n e t xs;obtain⟨l,l1,l2,rfl,hl,h⟩:=M.ak h;obtain⟨z,l3,l4,rfl,hh,h⟩:=M.ak h;cases hc:(l.getD 0==0&&z==some 0 && !vs.contains s&&decide (s≠d))with
    | false=>rw[hc]at h;exact h.elim
    | true =>
     rw[hc,cond_true]at h;simp only[Bool.and_eq_true,Bool.not_eq_true',decide_eq_true_eq]at hc;obtain⟨⟨⟨dN,eW⟩,SJ⟩,hc4⟩:=hc;have hz:z=some 0:=by simpa using eW
     subst hz;split at h
     ·rename_i e' t' hX;cases Hj:decide (e'=e/\t'=t)with
      | false=>rw[Hj]at h;exact h.elim
      | true =>
       rw[Hj,cond_true]at h;obtain⟨rfl,_⟩:=h;obtain⟨rfl,rfl⟩:=of_decide_eq_true Hj;obtain⟨hu,he⟩:=(hC X _ hX).bT;have el:=mS (z:=0) (mO hI hl);rw[IZ dN]at el;obtain⟨_,cs,hf,bM⟩:=hs;have hf:cs=[a.tmps.getD s undef]:=hf;rw[hf]at bM;have iH:s∉vs:=λhm=>by rw[List.contains_iff_mem.2 hm]at SJ;cases SJ
       have mw:(some s=some s/\s∉vs/\(T.getD s .dead).aD=true)\/(some s=(none:Option Nat)/\s=d):=.inl ⟨rfl,iH,by rw[hv];simp[V.aD,Ty.depth]⟩;have fin:∀c,(Instr.sliceAt X (a.eval (.tmp s)) (lo.map a.eval) (hi.map a.eval) none).run P w = .ok c w ->
         (∀(L':Nat->aj),(∀g,L g = .own s [0]->L' g = .own d [0])->Own w L' (SL L' none) d (n+1) (.slice e' t') [] [] 0 [c]) ->
         Step P o w0 L0 N vs (ah T [(s,.dead),(d,.d none (n+1) (.slice e' t') [])]) a w:=by
        intro c aJ dr;refine Step.value av (key c aJ) (Inv.app (sb:=some s) (sx:=none) (kept:=true) (b1:=0) (b2:=0) (m:=n) (nl:=λ_=>.free) hI hd hid mw (λs h=>by cases h) (Wd.refl hI _) (λ_ _ _ _ h=>by cases h) rfl (by simp[V.aD,Ty.depth]) (λT' tm'=>⟨by simp,[c],rfl,dr _ (λg hg=>?_)⟩));rw[cM hI (by rw[hg];simp),hg];show fS d s none true 0 0 n s [0]=_;unfold fS;rw[if_pos rfl];simp
       simp only[Own]at bM;rcases bM with⟨fH,iI⟩|⟨g,cap,cur,dK,hg,hh1,hh2,hh3,hh4,_⟩
       ·have cK:a.eval (.tmp s) = .slice none 0 0:=(List.cons.inj fH).1;have eh:=mS (z:=0) (mO hI hh);have aJ:=Co (P:=P) (w:=w) hu ((hC e' t' he).run_sizeOf) (A:=none) (len:=0) (cap:=0) el eh (by omega) (by simp) (by simp) (by omega);refine fin (.slice none 0 0) (by rw[cK];exact aJ) (λL' _=>?_);simp only[Own];exact .inl ⟨by trivial,by trivial⟩
       ·have cK:a.eval (.tmp s) = .slice (some ⟨g,0,none⟩) xs.length cap:=(List.cons.inj dK).1;have eh:=mS (z:=(xs.length:Int)) (mO hI hh);have aJ:=Co (P:=P) (w:=w) hu ((hC e' t' he).run_sizeOf) (A:=some ⟨g,0,none⟩) (len:=xs.length) (cap:=cap) el eh (by omega) (by simp) (by simp) hh2;have e0:(if cap=(0:Int).toNat then some (⟨g,0,none⟩:Addr)else (some ⟨g,0,none⟩:Option Addr).map (·.add ((0:Int).toNat*t'.sz)))=some ⟨g,0,none⟩:=by
         split
         ·rfl
         ·simp[Addr.add_lit]
        rw[e0]at aJ;refine fin _ (by rw[cK];exact aJ) (λL' hL=>?_);simp only[Own];refine .inr ⟨g,cap,cur,by simp,hL g hg,hh1,by simp,hh3,hh4,λj hj=>absurd hj (by simp)⟩
     ·exact h.elim
   ·exact hm _ h
theorem akX[ae](hI:Inv w0 L0 N vs T a w L)(hC:bt P C){x:Operand}{hint:Bool}   
  (ho:pz o x) (av:o.dst=some d) (hd:d<N) (hid:(T.getD d .dead).idle=true)
  (h:(IM C d hint X x m).ai T ups log) (hm:∀log,m.ai T ups log->Step P o w0 L0 N vs (ah T ups) a w):Step P o w0 L0 N vs (ah T ups) a w:=by
 unfold IM at h;split at h
 ·rename_i s;cases hint with
  | false=>exact hm _ h
  | true =>
   rw[cond_true]at h;obtain⟨ay,rfl,h⟩:=h;dsimp only at h;cases hn:isNil (T.getD s .dead)with
   | false=>rw[hn]at h;exact hm _ h
   | true =>
    rw[hn,cond_true]at h;have hv:=BG hI hn;split at h
    ·rename_i e t hX;obtain⟨rfl,_⟩:=h;have cK:a.eval (.tmp s) = .slice none 0 0:=hv;have bX:aH P o vs T a w L d (.d none (t.depth+1) (.slice e t) []):=by
      refine aH.still hI (c:=.slice none 0 0) ?_ (λ_=>rfl) ⟨by simp,[.slice none 0 0],rfl,?_⟩
      ·rw[sa ho,cK]
      ·simp only[Own];exact .inl ⟨by trivial,by trivial⟩
     intro K Q hK;exact aH.inv hI hd hid av bX hK
    ·exact h.elim
 ·exact hm _ h
theorem aeG{w:World}{X2 ty e:TypeId}{i:TypeInfo}{z:Value}{k2:IntKind}(hX:P.underlying X=some (.slice e))(gK:P.underlying X2=some (.int k2))(hi:P.info? e=some i)(hz:i.zero=some z)
  {n:Int} (h0:0<n) (hm:n<=140737488355328) (hb:n*i.bytes<=140737488355328) (bd:i.size≠0) :
  (Builtin.append_ #[X,X2] ty #[.slice none 0 0,.int .i64 n]).run P w = .ok (.slice (some ⟨w.heap.size,0,none⟩) n.toNat (grownCap w n.toNat 0 e))
   (w.drew.alloc (.cells (Builtin.zeroCells z.cells n.toNat++Builtin.zeroCells z.cells (grownCap w n.toNat 0 e - n.toNat)) e)):=by
 obtain⟨n,rfl⟩:∃k:Nat,n=k:=⟨n.toNat,by omega⟩;have hbn:n*i.bytes<=140737488355328:=by
  have:((n*i.bytes:Nat):Int)<=140737488355328:=by rw[Int.natCast_mul];exact hb
  omega
 have hf:=growslice_fits (need:=n) (old:=0) (bytes:=i.bytes) (by omega) hbn;have e1:¬(0+n<=0):=by omega
 have e2:¬(9223372036854775807<(n:Int)):=by omega
 have e3:¬(281474976710656<Builtin.nextslicecap n 0*i.bytes):=by omega
 have wn:IntKind.i64.wrap (n:Int)=n:=IntWalk.i64_in _ (by omega);have e4:¬((n:Int)<0):=by omega
 have e5:¬(281474976710656<(n:Int)*(i.bytes:Int)):=by omega
 have e7:¬n=0:=by omega
 have e6:¬(n*i.size=0):=by
  intro h;rcases Nat.mul_eq_zero.1 h with h|h
  ·omega
  ·exact bd h
 have Hn:=run_firstCells_none (P:=P) w.drew i.size 0 0 0;simp[Builtin.append_,run_underlying hX,run_underlying gK,sizeOf,typeInfo,zeroValue,hi,hz,wn,asInt,asIntOf,e1,e2,e3,e4,e5,e6,e7,Question.forced,Hn,newRow,grownCap]
end
def Jt(vs:List Nat)(N s:Nat)(h:Nat->Option Nat)(m:M (List (Nat×V))):M (List (Nat×V)):=
 .get s λv=>match v with
 | .bB l=>cond (partsOf s h 0 0 l).isEmpty m
   (if b9 (s::(partsOf s h 0 0 l).map (·.1.1))=true/\((partsOf s h 0 0 l).all λp=>decide (p.1.1<N))=true/\vs.contains s=true/\s<N then
    iu true s s ((partsOf s h 0 0 l).map (·.1.1)) (uZ ((partsOf s h 0 0 l).map (·.1.1)) ((m.eM ((partsOf s h 0 0 l).map (λp=>(p.1.1,p.2))++[(s,.bB (gz l))])).bind λups =>
     .ret (((partsOf s h 0 0 l).map (λp=>(p.1.1,p.2))++[(s,.bB (gz l))])++ups)))
   else m)
 | _=>m
def Cr(vs:List Nat)(N d:Nat)(h:Nat->Option Nat)(ups:List (Nat×V)):M (List (Nat×V)):=
 match ups.getLast? with
 | some (d',.bB l)=>cond (d'==d && !(partsOf d h 0 0 l).isEmpty)
   (if b9 (d::(partsOf d h 0 0 l).map (·.1.1))=true/\((partsOf d h 0 0 l).all λp=>decide (p.1.1<N))=true/\vs.contains d=true/\d<N/\(((partsOf d h 0 0 l).map (·.1.1)).all λe => !(ups.map (·.1)).contains e)=true/\(ups.all λp => !p.2.on d)=true then
    iu true d d ((partsOf d h 0 0 l).map (·.1.1)) (uZ ((partsOf d h 0 0 l).map (·.1.1)) (.ret (ups++((partsOf d h 0 0 l).map (λp=>(p.1.1,p.2))++[(d,.bB (gz l))]))))
   else .ret ups) (.ret ups)
 | _=>.ret ups
section
variable{P:Program}{C:Ctx}{w w' w0:World}{L L' L0:Nat->aj}{s N:Nat}{vs:List Nat}{T T':List V}{a:Act}
theorem dL.ae2[ae](hI:Inv w0 L0 N vs T a w L)(d:Nat)(q:List Nat)(ob:Obj):dL w (w.drew.alloc ob) L (λk=>if k=w.heap.size then .own d q else L k) d:=by
 refine⟨rfl,rfl,rfl,by simp,Nat.le_succ _,λk hk=>?_,λk s q' hk h=>?_,λk k' q' hk aA h h'=>?_,λk hk=>?_⟩
 ·rw[if_neg (by omega)];exact⟨rfl,Go.RowKit.Below.heap_alloc w.drew ob k hk⟩
 ·split at h
  ·injection h with h _;exact h.symm
  ·rw[hI.free k hk]at h;cases h
 ·split at h
  ·split at h'
   ·omega
   ·rw[hI.free k' aA]at h';cases h'
  ·rw[hI.free k hk]at h;cases h
 ·simp at hk;rw[if_neg (by omega)];exact hI.free k (by omega)
theorem ak3[ae](hI:Inv w0 L0 N vs T a w L)(hC:bt P C){o:Oper}{X2:TypeId}{sO xO:Operand}    
  (ho:o.op = .call { callee:=.builtin .append,args:=#[sO,xO],argTypes:=#[X,X2] }) (av:o.dst=some d) (hd:d<N) (hid:(T.getD d .dead).idle=true)
  (h:(J8 C d X X2 sO xO m).ai T ups log) (hm:∀log,m.ai T ups log->Step P o w0 L0 N vs (ah T ups) a w):Step P o w0 L0 N vs (ah T ups) a w:=by
 unfold J8 at h;split at h
 ·rename_i s;obtain⟨ay,rfl,h⟩:=h;dsimp only at h;cases hn:isNil (T.getD s .dead)with
  | false=>rw[hn]at h;exact hm _ h
  | true =>
   rw[hn,cond_true]at h;have hv:=BG hI hn;have cK:a.eval (.tmp s) = .slice none 0 0:=hv;split at h
   ·rename_i e t k2 hX gK;obtain⟨u,l1,l2,rfl,h1,h⟩:=M.ak h;split at h
    ·rename_i lu nu n;obtain⟨hc,rfl,_⟩:=h;simp only[Bool.and_eq_true,decide_eq_true_eq]at hc;obtain⟨⟨⟨gP,bd⟩,hb⟩,mn⟩:=hc;obtain⟨hu,he⟩:=(hC X _ hX).bT;have HT:=(hC X2 _ gK).bT;obtain⟨i,z,i1,i2,i3,i4,i5⟩:=(hC e t he).info;have dH:∀v∈t.ca,v.oneCell'=true:=Own.one (Own.zero (w:=w) (L:=L) (S:=λ_=>True) (s:=0) (n:=0) (t:=t) (q:=[]) (o:=0));have iC:=Form.cells i5 dH;have gv:z.cells.size=t.sz:=by rw[<-Array.length_toList,iC,Ty.iY]
     have hx:=gb hI h1;have aJ:=aeG (P:=P) (w:=w) (ty:=o.type) hu HT i1 i4 gP mn (by rw[i3];exact hb) (by rw[i2];exact bd);obtain⟨k,hk⟩:∃k:Int,k=n:=⟨n,rfl⟩;have arh:k<=140737488355328:=by rw[hk];exact mn
     have rK:k.toNat<=maxLen:=by simp only[maxLen];omega
     rw[hk]at rK;have are:n.toNat<=maxLen:=rK;have kX:=grownCap_ge w n.toNat 0 e;have fY:=grownCap_le_maxLen w n.toNat 0 e rK;have uk:(execOp a.eval o).run P w = .ok (.value (.slice (some ⟨w.heap.size,0,none⟩) n.toNat (grownCap w n.toNat 0 e))) (w.drew.alloc (.cells (Builtin.zeroCells z.cells n.toNat++Builtin.zeroCells z.cells (grownCap w n.toNat 0 e - n.toNat)) e)):=by
      simp[execOp,ho,resolve,invoke,builtin,cK,hx,aJ]
     have bX:aH P o vs T a w L d (.d none (t.depth+1) (.slice e t) (List.replicate n.toNat t.zero)):=by
      refine⟨_,_,_,uk,dL.ae2 hI d [0] _,λ_ _ _ _=>by simp[V.aD,Ty.depth],λr hr=>by simp[V.on,V.root]at hr,by simp,_,rfl,?_⟩;simp only[Own];refine .inr ⟨w.heap.size,grownCap w n.toNat 0 e,_,by simp,by simp,nO w.drew _,by simpa using kX,fY,?_,λj hj=>?_⟩
      ·rw[Array.size_append,size_zeroCells,size_zeroCells,gv,<-Nat.add_mul];congr 1;omega
      ·simp only[List.length_replicate]at hj;have ug:(((Builtin.zeroCells z.cells n.toNat++Builtin.zeroCells z.cells (grownCap w n.toNat 0 e - n.toNat)).toList.drop (j*t.sz)).take t.sz)=t.ca:=by
        have:=Iz z.cells n.toNat j hj;rw[gv]at this;rw[<-iC,<-this];refine p9 λk hk=>?_;have au:(j+1)*t.sz<=n.toNat*t.sz:=Nat.mul_le_mul_right _ (by omega);rw[Nat.add_mul,Nat.one_mul]at au;rw[Array.getElem?_toList,Array.getElem?_toList,Array.getElem?_append_left (by rw[size_zeroCells,gv];omega)];unfold Builtin.zeroCells;rw[gv]
       rw[ug,List.getElem_replicate];exact Own.zero
     intro K Q hK;exact aH.inv hI hd hid av bX hK
    ·exact h.elim
   ·exact h.elim
 ·exact hm _ h
theorem Vn:{U:List (Nat×V)}->b9 (U.map (·.1))=true->∀{z:Nat} {v:V},(z,v)∈U->eJ U z=some v
 | [],_,z,v,h=>by cases h
 | (k,u)::U,hn,z,v,h=>by
  simp only[List.map_cons,b9,Bool.and_eq_true,Bool.not_eq_true']at hn;simp only[eJ];rcases List.mem_cons.1 h with h|h
  ·injection h with h1 h2;subst h1 h2;simp
  ·have:(k==z)=false:=by
    cases hk:k==z with
    | false=>rfl
    | true =>
     have e:k=z:=by simpa using hk
     subst e;have:=List.contains_iff_mem.2 (List.mem_map_of_mem (f:=(·.1)) h);rw[hn.1]at this;cases this
   rw[this];simpa using Vn hn.2 h
theorem Vo:{U:List (Nat×V)}->{z:Nat}->z∉U.map (·.1)->eJ U z=none
 | [],z,h=>rfl
 | (k,u)::U,z,h=>by
  simp only[List.map_cons,List.mem_cons,not_or]at h;simp only[eJ];have:(k==z)=false:=by simpa using Ne.symm h.1
  rw[this];simpa using Vo h.2
theorem aiZ[ae]{U:List (Nat×V)}(hn:b9 (U.map (·.1))=true){T:List V}(hl:∀z∈U.map (·.1),z<T.length)(z:Nat):(ah T U).getD z .dead=(eJ U z).getD (T.getD z .dead):=by
 by_cases hz:z∈U.map (·.1)
 ·obtain⟨⟨k,v⟩,hm,rfl⟩:=List.mem_map.1 hz;rw[Vn hn hm];exact rh hn hm (hl _ hz)
 ·rw[Vo hz];exact eF _ _ _ hz
theorem akx[ae](hI:Inv w0 L0 N vs T a w L){s:Nat}{h0:Nat->Option Nat}{l:List lM}(cF:b9 (s::(partsOf s h0 0 0 l).map (·.1.1))=true)
  (au:((partsOf s h0 0 0 l).all λp=>decide (p.1.1<N))=true) (bW:s<N) :
  b9 (((partsOf s h0 0 0 l).map (λp=>(p.1.1,p.2))++[(s,V.bB (gz l))]).map (·.1))=true/\∀z∈((partsOf s h0 0 0 l).map (λp=>(p.1.1,p.2))++[(s,V.bB (gz l))]).map (·.1),z<T.length:=by
 generalize lj:partsOf s h0 0 0 l=ps at cF au;have uI:=IS cF;have iG:ps.map (·.1.1)=(ps.map (·.1)).map (·.1):=by rw[List.map_map];rfl
 obtain⟨jY,pd⟩:=List.nodup_cons.1 uI;have hU:(ps.map (λp=>(p.1.1,p.2))++[(s,V.bB (gz l))]).map (·.1)=ps.map (·.1.1)++[s]:=by simp[List.map_map,Function.comp_def]
 refine⟨?_,λz hz=>?_⟩
 ·rw[hU];refine vl ?_;rw[List.nodup_append];refine⟨pd,by simp,λx hx y hy e=>?_⟩;rw[List.mem_singleton]at hy;subst e hy;exact jY hx
 ·rw[hU]at hz;rcases List.mem_append.1 hz with hz|hz
  ·obtain⟨p,hp,rfl⟩:=List.mem_map.1 hz;rw[List.all_eq_true]at au;rw[hI.len];simpa using au _ hp
  ·rw[List.mem_singleton.1 hz,hI.len];exact bW
theorem Inv.split[ae](hI:Inv w0 L0 N vs T a w L){s:Nat}{h0:Nat->Option Nat}{l:List lM}(hv:T.getD s .dead = .bB l)(cF:b9 (s::(partsOf s h0 0 0 l).map (·.1.1))=true)
  (au:((partsOf s h0 0 0 l).all λp=>decide (p.1.1<N))=true) (iH:vs.contains s=true) (bW:s<N) (cJ:∀z,¬z=s->(T.getD z .dead).on s=false)
  (jk:∀e∈(partsOf s h0 0 0 l).map (·.1.1),(T.getD e .dead).idle=true):∃L',Inv w0 L0 N vs (ah T ((partsOf s h0 0 0 l).map (λp=>(p.1.1,p.2))++[(s,.bB (gz l))])) a w L':=by
 have hs:=hI.aS s;rw[hv]at hs;obtain⟨dc,dK,dr⟩:=hs;generalize lj:partsOf s h0 0 0 l=ps at cF au jk;have uR:eC 0 (ps.map (·.1)):=by rw[<-lj];exact Ch
 have uI:=IS cF;have iG:ps.map (·.1.1)=(ps.map (·.1)).map (·.1):=by rw[List.map_map];rfl
 obtain⟨jY,pd⟩:=List.nodup_cons.1 uI;have uH:b9 ((ps.map (·.1)).map (·.1))=true:=by rw[<-iG];exact vl pd
 have ba:s<T.length:=by rw[hI.len];exact bW
 let U:List (Nat×V):=ps.map (λp=>(p.1.1,p.2))++[(s,.bB (gz l))];have hU:U.map (·.1)=ps.map (·.1.1)++[s]:=by simp[U,List.map_map,Function.comp_def]
 have nK:b9 (U.map (·.1))=true:=by
  rw[hU];refine vl ?_;rw[List.nodup_append];refine⟨pd,by simp,λx hx y hy e=>?_⟩;rw[List.mem_singleton]at hy;subst e hy;exact jY hx
 have Bg:∀z∈U.map (·.1),z<T.length:=by
  intro z hz;rw[hU]at hz;rcases List.mem_append.1 hz with hz|hz
  ·obtain⟨p,hp,rfl⟩:=List.mem_map.1 hz;rw[List.all_eq_true]at au;rw[hI.len];simpa using au _ hp
  ·rw[List.mem_singleton.1 hz];exact ba
 have bJ:(ah T U).getD s .dead = .bB (gz l):=rh nK (by simp[U]) ba;have oW:∀p v,(p,v)∈ps->(ah T U).getD p.1 .dead=v:=by
  intro p v hp;refine rh nK ?_ (Bg _ ?_)
  ·exact List.mem_append_left _ (List.mem_map.2 ⟨(p,v),hp,rfl⟩)
  ·rw[hU];exact List.mem_append_left _ (List.mem_map.2 ⟨(p,v),hp,rfl⟩)
 have bg:∀z,¬(z=s\/z∈(ps.map (·.1)).map (·.1))->(ah T U).getD z .dead=T.getD z .dead:=by
  intro z hz;refine eF _ _ _ ?_;rw[hU,iG];intro hm;rcases List.mem_append.1 hm with hm|hm
  ·exact hz (.inr hm)
  ·exact hz (.inl (List.mem_singleton.1 hm))
 have pg:∀p v,(p,v)∈ps->∃j n t x u cs,v = .part s j n t x/\dc.toList[j]?=some u/\t.sz=p.2.2/\Form t cs u/\Own w L (SL L none) s n t x [] p.2.1 cs:=by
  intro p v hp;rw[<-lj]at hp;obtain⟨j,n,t,x,u,cs,e1,e2⟩:=I2 dr p v hp;exact⟨0+j,n,t,x,u,cs,e1,by rw[Nat.zero_add];exact e2⟩
 have fE:∀z,z∈(ps.map (·.1)).map (·.1)->∃p v,(p,v)∈ps/\p.1=z:=by
  intro z hz;rw[<-iG]at hz;obtain⟨⟨p,v⟩,hp,rfl⟩:=List.mem_map.1 hz;exact⟨p,v,hp,rfl⟩
 have af2:fe (ko s s (ps.map (·.1))) (λz=>z=s\/z=s\/z∈(ps.map (·.1)).map (·.1)):=V7 uR uH;have ji:fe (ko s s (ps.map (·.1))) (λz=>z=s\/z∈(ps.map (·.1)).map (·.1)):=by
  have e:(λz=>z=s\/z=s\/z∈(ps.map (·.1)).map (·.1))=(λz=>z=s\/z∈(ps.map (·.1)).map (·.1)):=by
   funext z;apply propext;constructor
   ·rintro (h|h|h)
    ·exact .inl h
    ·exact .inl h
    ·exact .inr h
   ·rintro (h|h)
    ·exact .inl h
    ·exact .inr (.inr h)
  rwa [e]at af2
 refine⟨aP (ko s s (ps.map (·.1))) w L (λ_=>.free),Inv.gf (T':=ah T U) hI ji (Wd.refl hI _) (λ_ _ _ _ _ h=>by cases h) hI.size (by rw[cj,hI.len]) hI.dy ?_ ?_ ?_ ?_ ?_⟩
 ·intro k z q hz hk;rcases hz with rfl|hz
  ·rw[bJ];rfl
  ·obtain⟨p,v,hp,rfl⟩:=fE z hz;rw[oW p v hp];obtain⟨j,n,t,x,u,cs,rfl,_⟩:=pg p v hp;rfl
 ·intro z r hz af hr;rcases hr with rfl|hr
  ·exfalso;have dt:z≠r:=λe=>hz (.inl e);rw[cJ z dt]at af;cases af
  ·exact V.jy (jk r (by rw[iG];exact hr))
 ·intro z hz;exact⟨bg z hz,rfl⟩
 ·intro z r hz af;rcases hz with rfl|hz
  ·rw[bJ]at af;simp[V.on,V.root]at af
  ·obtain⟨p,v,hp,rfl⟩:=fE z hz;rw[oW p v hp]at af;obtain⟨j,n,t,x,u,cs,rfl,_⟩:=pg p v hp;simp only[V.on,V.root,beq_iff_eq,Option.some.injEq]at af;subst af;exact List.contains_iff_mem.1 iH
 ·intro z hz;rcases hz with rfl|hz
  ·rw[bJ];exact⟨dc,dK,Jf (λk hk=>⟨dQ hI hk,rfl⟩) dr⟩
  ·obtain⟨p,v,hp,rfl⟩:=fE z hz;rw[oW p v hp];obtain⟨j,n,t,x,u,cs,rfl,e2,e3,e4,e5⟩:=pg p v hp;refine⟨by rw[bJ];rfl,dc,u,cs,dK,by simpa using e2,e4,?_⟩;refine Own.move (λk hk=>?_) (λk i rest hi hk=>⟨?_,rfl⟩) e5
   ·rcases hk with hk|⟨_,_,hk,_⟩
    ·exact⟨.inl (dQ hI hk),rfl⟩
    ·cases hk
   ·have aA:L k = .own s ((p.2.1+i)::rest):=by simpa using hk
    rw[cM hI (by rw[aA];simp),aA];have:=V6 (s:=s) (d:=s) uR uH (List.mem_map_of_mem (f:=(·.1)) hp) (i:=i) (by rw[<-e3];exact hi) (rest:=rest);simpa[ef]using this
theorem akw[ae]{s:Nat}{h0:Nat->Option Nat}(hI:Inv w0 L0 N vs T a w L)(h:(Jt vs N s h0 m).ai T ups log):
  ∃T1 L1 bL log2,Inv w0 L0 N vs T1 a w L1/\m.ai T1 bL log2/\ah T ups=ah T1 bL:=by
 unfold Jt at h;obtain⟨ay,rfl,h⟩:=h;dsimp only at h;generalize hv:T.getD s .dead=v at h;split at h
 ·rename_i l;cases he:(partsOf s h0 0 0 l).isEmpty with
  | true=>rw[he]at h;exact⟨T,L,ups,_,hI,h,rfl⟩
  | false =>
   rw[he,cond_false]at h;split at h
   ·rename_i hc;obtain⟨cF,au,iH,bW⟩:=hc;obtain⟨cJ,log2,h⟩:=jP h;obtain⟨jk,fu,h⟩:=BF h;have hb:=M.ak h;clear h;obtain⟨bL,l3,l4,rfl,h1,h2⟩:=hb;obtain⟨rfl,_⟩:=h2;obtain⟨L1,bu⟩:=Inv.split hI hv cF au iH bW (λz hz=>by simpa using cJ z hz) jk;have ba:s<T.length:=by rw[hI.len];exact bW
    obtain⟨nK,Bg⟩:=akx hI cF au bW;obtain⟨ke,h1⟩:=pN (T':=ah T ((partsOf s h0 0 0 l).map (λp=>(p.1.1,p.2))++[(s,.bB (gz l))])) (by simp[cj]) Bg (aiZ nK Bg) _ h1;exact⟨_,L1,bL,ke,bu,h1,by rw[kA]⟩
   ·exact⟨T,L,ups,_,hI,h,rfl⟩
 ·exact⟨T,L,ups,_,hI,h,rfl⟩
theorem akk{ups:List (Nat×V)}:∀{T:List V} {z:Nat},(ah T ups).getD z .dead=T.getD z .dead\/∃v,(z,v)∈ups/\(ah T ups).getD z .dead=v:=by
 induction ups with
 | nil=>intro T z;exact .inl rfl
 | cons u l ih =>
  intro T z;have e:ah T (u::l)=ah (T.set u.1 u.2) l:=rfl;rw[e];rcases ih (T:=T.set u.1 u.2) (z:=z)with h|⟨v,h1,h2⟩
  ·rw[h,az];split
   ·rename_i hz;exact .inr ⟨u.2,by rw[hz.1];exact List.mem_cons_self,rfl⟩
   ·exact .inl rfl
  ·exact .inr ⟨v,List.mem_cons_of_mem _ h1,h2⟩
theorem WJ[ae](hI:Inv w0 L0 N vs T a w L){h0:Nat->Option Nat}{ups:List (Nat×V)} 
  (h:(m.bind (Cr vs N d h0)).ai T ups log) (hm:∀ups log,m.ai T ups log->Step P o w0 L0 N vs (ah T ups) a w):Step P o w0 L0 N vs (ah T ups) a w:=by
 obtain⟨vM,l1,l2,rfl,h1,h⟩:=M.ak h;have aX:=hm _ _ h1;unfold Cr at h;split at h
 ·rename_i d' l Tc;cases gM:(d'==d && !(partsOf d h0 0 0 l).isEmpty)with
  | false=>rw[gM]at h;obtain⟨rfl,_⟩:=h;exact aX
  | true =>
   rw[gM,cond_true]at h;simp only[Bool.and_eq_true,beq_iff_eq]at gM;obtain⟨rfl,_⟩:=gM;split at h
   ·rename_i hc;obtain⟨cF,au,iH,bW,hk,af⟩:=hc;obtain⟨cJ,log2,h⟩:=jP h;obtain⟨jk,fu,h⟩:=BF h;obtain⟨rfl,_⟩:=h;have ui:d'<T.length:=by rw[hI.len];exact bW
    have iz:(ah T vM).getD d' .dead = .bB l:=by
     obtain⟨ys,rfl⟩:∃ys,vM=ys++[(d',V.bB l)]:=by
      rw[List.getLast?_eq_some_iff]at Tc;exact Tc
     rw[kA];show ((ah T ys).set d' (V.bB l)).getD d' .dead=_;rw[az,if_pos ⟨rfl,by rw[cj];exact ui⟩]
    intro K Q hK;refine aX K Q (λa' w' L' gI=>?_);have oY:∀z,¬z=d'->((ah T vM).getD z .dead).on d'=false:=by
     intro z hz;rcases akk (T:=T) (ups:=vM) (z:=z)with h|⟨v,h,h2⟩
     ·rw[h];simpa using cJ z hz
     ·rw[h2];rw[List.all_eq_true]at af;simpa using af _ h
    have uw:∀e∈(partsOf d' h0 0 0 l).map (·.1.1),((ah T vM).getD e .dead).idle=true:=by
     intro e he;rw[List.all_eq_true]at hk;have S5:=hk e he;rw[eF _ _ _ (λhm=>by
      rw[List.contains_iff_mem.2 hm]at S5;cases S5)]
     exact jk e he
    obtain⟨L1,bu⟩:=Inv.split gI iz cF au iH bW oY uw;rw[kA]at hK;exact hK a' w' L1 bu
   ·obtain⟨rfl,_⟩:=h;exact aX
 ·obtain⟨rfl,_⟩:=h;exact aX
end
def eu(N d:Nat)(m:M (List (Nat×V))):M (List (Nat×V)):=.get d λv=>.bc (v.idle&&decide (d<N)) m
def lD(C:Ctx)(vs:List Nat)(d:Nat)(o:Oper):M (List (Nat×V)):=(I6 C o).bind λv=>.bc (fj vs v) (.ret [(d,v)])
def BU(C:Ctx)(d:Nat)(mx:Bool)(args:List Operand):M (List (Nat×V)):=
 match args with
 | [x,y]=>(cq C 0 x).bind λu=>(cq C 0 y).bind λv=>match u,v with
  | .d _ _ (.int k) m,.d _ _ (.int _) n=>.ret [(d,.d none 0 (.int k) (cond mx (if m<n then n else m) (if n<m then n else m)))]
  | _,_=>.fail
 | _=>.fail
def Ro(C:Ctx)(vs:List Nat)(X:TypeId)(d:Nat)(x:Operand):M (List (Nat×V)):=
 (cq C X x).bind λv=>match v with
 | .d l k t y=>if C.ty X=some t/\(k=0\/t.depth=0)then .bc (fj vs (.box l 0 t y)) (.ret [(d,.box l 0 t y)])else .fail
 | _=>.fail
def B4(C:Ctx)(vs:List Nat)(N d:Nat)(X:TypeId)(x:Operand)(hx:Nat->Nat->Option Nat):M (List (Nat×V)):=
 match x with
 | .tmp s=>.get s λv=>match v with
  | .bB _=>.bc (decide (d<N)) (WX vs N d s (hx d))
  | _=>AT C vs N d X x
 | _=>AT C vs N d X x
def tmpsOf:List Operand->List Nat
 | []=>[]
 | .tmp s::l=>s::tmpsOf l
 | _::l=>tmpsOf l
def aeC(C:Ctx)(X:TypeId)(s x:Operand):List Nat :=
 match C.ty X with
 | some (.slice _ t)=>if t.depth=0 then tmpsOf [s]else tmpsOf [s,x]
 | _=>[]
structure Hints where
 hx:Nat->Nat->Option Nat
 bx:Nat->Bool
 kids:Nat->List Nat
def ak5(C:Ctx)(vs:List Nat)(N:Nat)(hx:Hints)(X:TypeId)(t:Nat)(x:Operand):M (List (Nat×V)):=
 .get t λv=>match addrOf t v with
 | none=>.fail
 | some (r,p)=>.get r λu=>match u with
  | .hole u' p'=>G0 C vs N (hx.kids r) X r p u' p' x
  | _=>(λm=>cond (hx.bx (3000+r)) (ID C vs N (hx.kids r) X r p u x m) m) <| match p with
   | []=>cond (hx.bx r) (CD C vs N (hx.kids r) X r u x (kC C vs N (some (hx.kids r)) X t x)) (kC C vs N none X t x)
   | _::_=>cond (hx.bx r) (Jz C N (hx.kids r) X r p u x (kC C vs N (some (hx.kids r)) X t x)) (cond (hx.bx (5000+r)) (JA C N (hx.kids r) X r p u x (kC C vs N none X t x)) (kC C vs N none X t x))
def afg(bf:dx)(f:FuncId):Bool:=match bf f with
 | some F=>(F.rs.any λp=>decide (p.2<p.1.depth)) || !oU F.ps
 | none=>false
def AV(C:Ctx)(d:Nat)(l:List Operand)(cn:List TypeId)(m:M (List (Nat×V))):M (List (Nat×V)):=match cn with
 | [X]=>match C.ty X with
  | some (.slice _ _)=>GC d l m
  | _=>m
 | _=>m
def Jw(C:Ctx)(bf:dx)(vs:List Nat)(hx:Hints)(N:Nat)(o:Oper):M (List (Nat×V)):=
 match o.dst with
 | none=>match o.op with
  | .store X (.tmp t) x=>pw N (cond (hx.bx (8000+t)) (tmpsOf [x]) []) (pE vs N (cond (hx.bx (7000+t)) (tmpsOf [x]) []) (lH N hx.kids (tmpsOf [x]) (ak5 C vs N hx X t x)))
  | _=>.fail
 | some d=>match o.op with
  | .move x=>cond (hx.bx (6000+d)) (eu N d (IM C d true o.type x (tP vs N d (hx.bx (1000+d)) x (B4 C vs N d o.type x hx.hx)))) (tP vs N d (hx.bx (1000+d)) x (B4 C vs N d o.type x hx.hx))
  | .load X (.tmp t)=>vC N t (cond (hx.bx (1000+d)) (GS C N X d t) (eu N d (lD C vs d o)))
  | .nilCheck (.tmp t)=>vC N t (eu N d (lD C vs d o))
  | .makeFunc (.func g) ⟨[]⟩ gi=>r6 N (tmpsOf gi.toList) (eu N d (RA d g gi.toList))
  | .indexAddr X (.tmp t) y=>eu N d (GQ C vs X d t y (lD C vs d o))
  | .assign x=>AT C vs N d o.type x
  | .box X x=>eu N d (Gt C vs X d x (Ro C vs X d x))
  | .build X parts=>lH N hx.kids (tmpsOf (parts.toList.map (·.2))) (eu N d (Gs C vs X d parts.toList))
  | .buildSlice X len parts=>pE vs N (cond (hx.bx (7000+d)) (tmpsOf (parts.toList.map (·.2))) []) (lH N hx.kids (tmpsOf (parts.toList.map (·.2))) (eu N d (Jg C vs X d len parts.toList)))
  | .extract (.tmp s) i=>Jt vs N s (hx.hx s) (.bc (decide (d<N)) (RX vs d (.tmp s) i))
  | .slice X (.tmp s) lo hi none=>eu N d (GN C vs N d (hx.bx (6000+d)) X s lo hi (lD C vs d o))
  | .fieldAddr X (.tmp t) f=>vC N t (cond (hx.bx t) (eu N d ((RY C X f t).bind λv=>.bc (fj vs v) (.ret [(d,v)]))) (eu N d (lD C vs d o)))
  | .call c=>match c.callee with
   | .value (.func f)=>pw N (cond (afg bf f) ((tmpsOf c.args.toList).filter λs => !vs.contains s) []) (eu N d ((GA C bf vs N d f c.args.toList).bind (Cr vs N d (hx.hx d))))
   | .value (.tmp s)=>eu N d ((Gv C bf vs d s c.args.toList).bind (Cr vs N d (hx.hx d)))
   | .builtin .max=>eu N d (BU C d true c.args.toList)
   | .builtin .len=>eu N d (AV C d c.args.toList c.argTypes.toList (GR C d c.args.toList c.argTypes.toList (lD C vs d o)))
   | .builtin .cap=>eu N d (AV C d c.args.toList c.argTypes.toList .fail)
   | .builtin .min=>eu N d (BU C d false c.args.toList)
   | .builtin .append=>match c.args,c.argTypes with
    | ⟨[s,x]⟩,⟨[X,X2]⟩=>lH N hx.kids (aeC C X s x) (eu N d (J8 C d X X2 s x (Gc C vs d X X2 s x)))
    | _,_=>.fail
   | _=>eu N d (lD C vs d o)
  | _=>eu N d (lD C vs d o)
section
variable{P:Program}{C:Ctx}{w w' w0:World}{L L' L0:Nat->aj}{N:Nat}{vs:List Nat}{T T':List V}{a:Act}
theorem fi(h:(eu N d m).ai T ups log):(T.getD d .dead).idle=true/\d<N/\∃log,m.ai T ups log:=by
 obtain⟨ay,rfl,hc,h⟩:=h;simp only[Bool.and_eq_true,decide_eq_true_eq]at hc;exact⟨hc.1,hc.2,ay,h⟩
theorem pZ[ae](hI:Inv w0 L0 N vs T a w L)(hC:bt P C)(av:o.dst=some d)(hd:d<N)(hid:(T.getD d .dead).idle=true)
  (h:(lD C vs d o).ai T ups log):Step P o w0 L0 N vs (ah T ups) a w:=by
 obtain⟨v,l1,l2,rfl,h1,aI,rfl,_⟩:=M.ak h;intro K Q hK;exact aH.inv hI hd hid av (ajU hI hC hid (r4 aI) h1) hK
theorem WG[ae](hI:Inv w0 L0 N vs T a w L){mx:Bool}(ho:o.op = .call { callee:=.builtin (cond mx .max .min),args,argTypes:=cn })(av:o.dst=some d)(hd:d<N)(hid:(T.getD d .dead).idle=true)
  (h:(BU C d mx args.toList).ai T ups log):Step P o w0 L0 N vs (ah T ups) a w:=by
 obtain⟨args⟩:=args;dsimp only at h;unfold BU at h;split at h
 ·rename_i x y;obtain⟨u,l1,l2,rfl,h1,h⟩:=M.ak h;obtain⟨v,l3,l4,rfl,h2,h⟩:=M.ak h;split at h
  ·rename_i l n k m l' n' k' m' _;obtain⟨rfl,_⟩:=h;have hx:=gb hI h1;have hy:=gb hI h2;have bX:aH P o vs T a w L d (.d none 0 (.int k) (cond mx (if m<m' then m' else m) (if m'<m then m' else m))):=by
    refine aH.still hI ?_ (λ_=>rfl) ax.mkInt;cases mx with
    | true=>simp[execOp,ho,resolve,invoke,builtin,Builtin.max_,Builtin.max2,hx,hy]
    | false=>simp[execOp,ho,resolve,invoke,builtin,Builtin.min_,Builtin.min2,hx,hy]
   intro K Q hK;exact aH.inv hI hd hid av bX hK
  ·exact h.elim
 ·exact h.elim
theorem akD[ae](hI:Inv w0 L0 N vs T a w L)(hC:bt P C){x:Operand}(ho:o.op = .box X x)(av:o.dst=some d)(hd:d<N)(hid:(T.getD d .dead).idle=true)
  (h:(Ro C vs X d x).ai T ups log):Step P o w0 L0 N vs (ah T ups) a w:=by
 obtain⟨v,l1,l2,rfl,h1,h2⟩:=M.ak h;split at h2
 ·rename_i l k t y;split at h2
  ·rename_i hc;obtain⟨hX,hk⟩:=hc;obtain⟨aI,rfl,_⟩:=h2;have dr:∃s0,ax L T a.tmps s0 (.d l k t y) w (a.eval x):=by
    rcases jz hI h1 with⟨s,_,_,hs⟩|⟨_,hs⟩
    ·exact⟨s,hs⟩
    ·exact⟨0,hs _ _ _ _ _⟩
   obtain⟨s0,ch,cs,hf,bM⟩:=dr;have cT:=Form.cells hf (Own.one bM);have aJ:(execOp a.eval o).run P w = .ok (.value (.pointer (some ⟨w.heap.size,0,none⟩))) (w.alloc (.cells (a.eval x).cells X)):=by
    simp[execOp,ho,Instr.box,newVar,newRow,newObj,Sem.run]
   have bX:aH P o vs T a w L d (.box l 0 t y):=by
    refine⟨_,_,_,aJ,dL.alloc hI d [] _,λ_ _ _ _=>rfl,r4 aI,λr hr=>?_,w.heap.size,(a.eval x).cells,X,rfl,by simp,nO _ _,?_,?_⟩
    ·have:=ch r hr;rw[az,if_neg (λe=>cV hid (V.eN this) e.1)];exact this
    ·rw[<-Array.length_toList,cT,Own.len bM]
    ·rw[cT];have h0:=Own.ee (Own.bp (s':=0) (q':=[]) (o':=0) (n':=0) hk bM (.inl rfl));refine Own.du (Rd.move (λk hk=>?_) h0);have au:k<w.heap.size:=hI.lt (by rcases hk with hk|⟨_,_,_,hk⟩<;>rw[hk]<;>simp);refine⟨?_,Go.RowKit.Below.heap_alloc w _ k au⟩;unfold SL;dsimp only;rw[if_neg (by omega)];exact hk
   intro K Q hK;exact aH.inv hI hd hid av bX hK
  ·exact h2.elim
 ·exact h2.elim
theorem tB[ae](hI:Inv w0 L0 N vs T a w L){t r:Nat}{p:List St}(he:addrOf t (T.getD t .dead)=some (r,p)):∃g,a.eval (.tmp t) = .pointer (some ⟨g,(node [] 0 p).2,none⟩)/\L g = .own r (node [] 0 p).1:=by
 have aX:=hI.aS t;generalize T.getD t .dead=v at he aX;cases v with
 | ptr r2 p2 t2 =>
  simp only[addrOf,Option.some.injEq,Prod.mk.injEq]at he;obtain⟨rfl,rfl⟩:=he;exact aX
 | box l n t2 x2 =>
  simp only[addrOf,Option.some.injEq,Prod.mk.injEq]at he;obtain⟨rfl,rfl⟩:=he;obtain⟨_,g,cur,e,h1,h2,_⟩:=aX;exact⟨g,h1,h2⟩
 | dead=>cases he
 | bB _=>cases he
 | d _ _ _ _=>cases he
 | rp _ _ _=>cases he
 | view _ _ _=>cases he
 | hole _ _=>cases he
 | part _ _ _ _ _=>cases he
 | bK _ _ _ _=>cases he
 | same _ _=>cases he
theorem WE[ae](hI:Inv w0 L0 N vs T a w L)(hC:bt P C){b:Builtin}(hb:b = .cap\/b = .len)      
  (ho:o.op = .call { callee:=.builtin b,args,argTypes:=cn }) (av:o.dst=some d) (hd:d<N) (hid:(T.getD d .dead).idle=true)
  (h:(AV C d args.toList cn.toList m).ai T ups log) (hm:∀log,m.ai T ups log->Step P o w0 L0 N vs (ah T ups) a w):Step P o w0 L0 N vs (ah T ups) a w:=by
 unfold AV at h;split at h
 ·rename_i X hX;split at h
  ·rename_i e t hCX;refine akN hI hb (λX' rq=>?_) ?_ ho av hd hid h hm
   ·have:X'=X:=by
     have h0:cn.toList[0]?=some X':=by simpa using rq
     rw[hX]at h0;simpa using h0.symm
    subst this;exact⟨e,(hC _ _ hCX).bT.1⟩
   ·have:=congrArg List.length hX;simpa using this
  ·exact hm _ h
 ·exact hm _ h
theorem akC[ae](lb:P.follows .mixedOrders=true)(hC:bt P C){bf:dx}(dJ:fA P bf){hx:Hints}{E:Env}(hE:E.step=Jw C bf vs hx E.N):qO P w0 L0 vs E:=by
 refine⟨lb,?_⟩;intro o T ups log a w L hI h;rw[hE]at h;unfold Jw at h;have TA:∀{d:Nat},o.dst=some d->(eu E.N d (lD C vs d o)).ai T ups log->Step P o w0 L0 E.N vs (ah T ups) a w:=by
  intro d av h;obtain⟨h1,h2,log,h3⟩:=fi h;exact pZ hI hC av h2 h1 h3
 split at h
 ·rename_i av;split at h
  ·rename_i X t x ho;obtain⟨T9,L9,ary,art,hI9,h,agQ⟩:=uX hI h;rw[agQ];obtain⟨T0,ZM,aqJ,Iv,Hb,h,HN⟩:=u6 hI9 h;rw[HN];obtain⟨T1,L1,bL,log2,bu,h,er⟩:=mY Hb h;rw[er];obtain⟨l1,rfl,h⟩:=h;dsimp only at h;split at h
   ·exact h.elim
   ·rename_i r p uc;obtain⟨l2,rfl,h⟩:=h;dsimp only at h;split at h
    ·rename_i u' p' uU;exact akV bu hC ho av uc (λr p=>tB bu) uU h
    ·have hold:∀log,(match p with
       | []=>cond (hx.bx r) (CD C vs E.N (hx.kids r) X r (T1.getD r .dead) x (kC C vs E.N (some (hx.kids r)) X t x)) (kC C vs E.N none X t x)
       | _::_=>cond (hx.bx r) (Jz C E.N (hx.kids r) X r p (T1.getD r .dead) x (kC C vs E.N (some (hx.kids r)) X t x)) (cond (hx.bx (5000+r)) (JA C E.N (hx.kids r) X r p (T1.getD r .dead) x (kC C vs E.N none X t x)) (kC C vs E.N none X t x)):M (List (Nat×V))).ai T1 bL log->Step P o w0 L0 E.N vs (ah T1 bL) a w:=by
      intro log h;split at h
      ·cases hb:hx.bx r with
       | true =>
        rw[hb,cond_true]at h;exact ak2 bu hC ho av uc (λr p=>tB bu) rfl (λh=>vG bu hC ho av h) h
       | false =>
        rw[hb,cond_false]at h;exact vG bu hC ho av h
      ·cases hb:hx.bx r with
       | true =>
        rw[hb,cond_true]at h;exact akZ bu hC ho av uc (λr p=>tB bu) rfl h (λ_ h=>vG bu hC ho av h)
       | false =>
        rw[hb,cond_false]at h;cases SE:hx.bx (5000+r)with
        | true =>
         rw[SE,cond_true]at h;exact ak0 bu hC ho av uc (λr p=>tB bu) rfl h (λ_ h=>vG bu hC ho av h)
        | false =>
         rw[SE,cond_false]at h;exact vG bu hC ho av h
     cases SD:hx.bx (3000+r)with
     | true =>
      rw[SD,cond_true]at h;exact akW bu hC ho av uc (λr p=>tB bu) rfl h hold
     | false =>
      rw[SD,cond_false]at h;exact hold _ h
  ·exact h.elim
 ·rename_i d av;split at h
  ·rename_i x ho;have hold:∀log,(tP vs E.N d (hx.bx (1000+d)) x (B4 C vs E.N d o.type x hx.hx)).ai T ups log->Step P o w0 L0 E.N vs (ah T ups) a w:=by
    intro log h;refine akT hI (.inl ho) av h (λlog h=>?_);unfold B4 at h;split at h
    ·rename_i s;obtain⟨ay,rfl,h⟩:=h;dsimp only at h;split at h
     ·obtain⟨hd,h⟩:=h;exact ak1 hI (.inl ho) av (by simpa using hd) h
     ·exact Jx hI (.inl ho) av h
    ·exact Jx hI (.inl ho) av h
   cases hb:hx.bx (6000+d)with
   | false=>rw[hb]at h;exact hold _ h
   | true =>
    rw[hb,cond_true]at h;obtain⟨h1,h2,log,h3⟩:=fi h;exact akX hI hC (.inl ho) av h2 h1 h3 hold
  ·rename_i X t ho;obtain⟨T1,L1,bL,log2,bu,h,er⟩:=Jh hI h;rw[er];cases hb:hx.bx (1000+d)with
   | true=>rw[hb,cond_true]at h;exact akS bu hC ho av h
   | false =>
    rw[hb,cond_false]at h;obtain⟨h1,h2,log,h3⟩:=fi h;exact pZ bu hC av h2 h1 h3
  ·rename_i t ho;obtain⟨T1,L1,bL,log2,bu,h,er⟩:=Jh hI h;rw[er];obtain⟨h1,h2,log,h3⟩:=fi h;exact pZ bu hC av h2 h1 h3
  ·rename_i g gi ho;obtain⟨T1,L1,bL,log2,bu,h,er⟩:=Ci hI h;rw[er];obtain⟨h1,h2,log,h3⟩:=fi h;exact akO bu ho av h2 h1 h3
  ·rename_i X t y ho;obtain⟨h1,h2,log,h3⟩:=fi h;exact akQ hI hC ho av h2 h1 h3 (λ_ hm=>pZ hI hC av h2 h1 hm)
  ·rename_i x ho;exact Jx hI (.inr ho) av h
  ·rename_i X x ho;obtain⟨h1,h2,log,h3⟩:=fi h;exact akF hI hC ho av h2 h1 h3 (λ_ hm=>akD hI hC ho av h2 h1 hm)
  ·rename_i X parts ho;obtain⟨T1,L1,bL,log2,bu,h,er⟩:=mY hI h;rw[er];obtain⟨h1,h2,log,h3⟩:=fi h;exact akE bu hC ho av h2 h1 h3
  ·rename_i X len parts ho;obtain⟨T0,ZM,aqJ,Iv,Hb,h,HN⟩:=u6 hI h;rw[HN];obtain⟨T1,L1,bL,log2,bu,h,er⟩:=mY Hb h;rw[er];obtain⟨h1,h2,log,h3⟩:=fi h;exact akY bu hC ho av h2 h1 h3
  ·rename_i s i ho;obtain⟨T1,L1,bL,log2,bu,h,er⟩:=akw hI h;rw[er];obtain⟨hd,h⟩:=h;exact akU bu ho av (by simpa using hd) h
  ·rename_i X s lo hi ho;obtain⟨h1,h2,log,h3⟩:=fi h;exact akP hI hC ho av h2 h1 h3 (λ_ hm=>pZ hI hC av h2 h1 hm)
  ·rename_i X t f ho;obtain⟨T1,L1,bL,log2,bu,h,er⟩:=Jh hI h;rw[er];cases hb:hx.bx t with
   | false =>
    rw[hb]at h;obtain⟨h1,h2,log,h3⟩:=fi h;exact pZ bu hC av h2 h1 h3
   | true =>
    rw[hb]at h;obtain⟨h1,h2,log,h3⟩:=fi h;obtain⟨v,l1,l2,rfl,h4,aI,rfl,_⟩:=M.ak h3;intro K Q hK;exact aH.inv bu h2 h1 av (ajI bu hC ho h4 (r4 aI)) hK
  ·rename_i c ho;split at h
   ·rename_i f hf;obtain⟨T1,L1,bL,log2,bu,h,er⟩:=uX hI h;rw[er];obtain⟨h1,h2,log,h3⟩:=fi h;obtain⟨callee,args,cn⟩:=c;dsimp only at hf h3;subst hf;exact WJ bu h3 (λ_ _ h3=>akM bu dJ ho av h2 h1 h3)
   ·rename_i s hf;obtain⟨h1,h2,log,h3⟩:=fi h;obtain⟨callee,args,cn⟩:=c;dsimp only at hf h3;subst hf;exact WJ hI h3 (λ_ _ h3=>akH hI dJ ho av h2 h1 h3)
   ·rename_i hf;obtain⟨h1,h2,log,h3⟩:=fi h;obtain⟨callee,args,cn⟩:=c;dsimp only at hf h3;subst hf;exact WG hI (mx:=true) (by rw[ho];rfl) av h2 h1 h3
   ·rename_i hf;obtain⟨h1,h2,log,h3⟩:=fi h;obtain⟨callee,args,cn⟩:=c;dsimp only at hf h3;subst hf;exact WE hI hC (.inr rfl) ho av h2 h1 h3 (λ_ hm=>akR hI hC ho av h2 h1 hm (λ_ hm=>pZ hI hC av h2 h1 hm))
   ·rename_i hf;obtain⟨h1,h2,log,h3⟩:=fi h;obtain⟨callee,args,cn⟩:=c;dsimp only at hf h3;subst hf;exact WE hI hC (.inl rfl) ho av h2 h1 h3 (λ_ hm=>hm.elim)
   ·rename_i hf;obtain⟨h1,h2,log,h3⟩:=fi h;obtain⟨callee,args,cn⟩:=c;dsimp only at hf h3;subst hf;exact WG hI (mx:=false) (by rw[ho];rfl) av h2 h1 h3
   ·rename_i hf;obtain⟨callee,args,cn⟩:=c;dsimp only at hf h;subst hf;split at h
    ·rename_i s x X X2;obtain⟨T1,L1,bL,log2,bu,h,er⟩:=mY hI h;rw[er];obtain⟨h1,h2,log,h3⟩:=fi h;exact ak3 bu hC ho av h2 h1 h3 (λ_ hm=>step_append bu hC ho av h2 h1 hm)
    ·exact h.elim
   ·exact TA av h
  ·exact TA av h
end
def Jd(t:Ty)(n s:Nat)(v:V):M (t.den×Option Nat×List Nat):=
 if t.depth=0\/n=0 then (lE s v).bind λz=>if h:z.2.1=t then .ret (h▸z.2.2,none,if t.depth=0 then []else z.1.toList)else .fail
 else match v with
  | .d none k t' y=>if h:t'=t then (if n<=k then .ret (h▸y,some s,[])else .fail)else .fail
  | .view r [] _=>.get r λu=>match u with
   | .d none k t' y=>if h:t'=t then (if n<=k then .ret (h▸y,some r,[])else .fail)else .fail
   | _=>.fail
  | _=>.fail
structure Src where
 s:Nat
 o:Nat
 sz:Nat
 n:Nat
structure Qu (rs:List (Ty×Nat)) where
 x:(cG rs).den
 ss:List Src
 ls:List Nat
inductive RV where
 | tmp (s:Nat)
 | cell (s:Nat) (X:TypeId)
def RV.slot:RV->Nat
 | .tmp s=>s
 | .cell s _=>s
def RV.var:RV->ResultVar
 | .tmp s=>.tmp s
 | .cell s X=>.cell s X
def Jb(C:Ctx)(X:TypeId)(t:Ty)(n s:Nat)(v:V):M (t.den×Option Nat×List Nat):=
 match v with
 | .box none k t' y=>if h:t'=t then
   if C.ty X=some t then
    (if t.depth=0\/n=0 then .ret (h▸y,none,if t.depth=0 then []else [s])else if n<=k then .ret (h▸y,some s,[])else .fail)
   else .fail
  else .fail
 | _=>.fail
def Wj(C:Ctx)(t:Ty)(n:Nat)(rv:RV)(v:V):M (t.den×Option Nat×List Nat):=
 match rv with
 | .tmp s=>Jd t n s v
 | .cell s X=>Jb C X t n s v
def Jc(C:Ctx):Nat->(rs:List (Ty×Nat))->List RV->M (Qu rs)
 | _,[],[]=>.ret ⟨(),[],[]⟩
 | o,(t,n)::rs,rv::sl=>.get rv.slot λv=>(Wj C t n rv v).bind λy=>(Jc C (o+t.sz) rs sl).bind λr =>
   .ret ⟨(y.1,r.x),(match y.2.1 with|some s'=>⟨s',o,t.sz,n⟩::r.ss|none=>r.ss),y.2.2++r.ls⟩
 | _,_,_=>.fail
def we(P:Program)(w:World)(a:Act):RV->Value->Prop
 | .tmp s,c=>c=a.tmps.getD s undef
 | .cell s X,c=>∃A,a.tmps.getD s undef = .pointer (some A)/\(loadVar X A).run P w = .ok c w
def ql(P:Program)(w:World)(a:Act):List RV->List Value->Prop
 | [],cs=>cs=[]
 | rv::l,cs=>∃c a7,cs=c::a7/\we P w a rv c/\ql P w a l a7
def kn:Nat->(ps:List (Ty×Mode))->M ((cm ps).den×List (Nat×Nat))
 | _,[]=>.ret ((),[])
 | i,(t,.mut n)::ps=>.get i λv=>match v with
  | .d none k t' y=>if h:t'=t then (if k=n then (kn (i+1) ps).bind λr=>.ret ((h▸y,r.1),(i,i)::r.2)else .fail)else .fail
  | .view d [] tv=>.get d λu=>match u with
   | .box none k t' y=>if h:t'=t then (if k=n/\tv=t then (kn (i+1) ps).bind λr=>.ret ((h▸y,r.1),(d,i)::r.2)else .fail)else .fail
   | _=>.fail
  | _=>.fail
 | i,(t,.ptr n)::ps=>.get i λv=>match v with
  | .box none k t' y=>if h:t'=t then (if k=n then (kn (i+1) ps).bind λr=>.ret ((h▸y,r.1),(i,i)::r.2)else .fail)else .fail
  | _=>.fail
 | i,(_,.ro)::ps=>kn (i+1) ps
 | i,(_,.bQ _)::ps=>kn (i+1) ps
def iM:Nat->List (Ty×Mode)->List Nat
 | _,[]=>[]
 | i,(_,.mut _)::ps=>i::iM (i+1) ps
 | i,(_,.ptr _)::ps=>i::iM (i+1) ps
 | i,(_,.ro)::ps=>iM (i+1) ps
 | i,(_,.bQ _)::ps=>iM (i+1) ps
def G1(C:Ctx)(ps:List (Ty×Mode))(rs:List (Ty×Nat))(sl:List RV):M (Ty.pair (cG rs) (cm ps)).den :=
 (Jc C 0 rs sl).bind λr=>(kn 0 ps).bind λm =>
  .bc (b9 (r.ss.map (·.s))&&r.ls.all (λl => !(r.ss.map (·.s)).contains l && !(m.2.map (·.1)).contains l)&&(m.2.map (·.1)).all (λi => !(r.ss.map (·.s)).contains i)&&b9 (m.2.map (·.1))) (.ret (r.x,m.1))
def A4:(ps:List (Ty×Mode))->(rs:List (Ty×Nat))->List RV->M (Ty.pair (cG rs) (cm ps)).den
 | ps,[(t,n)],[.tmp s]=>.get s λv=>(qZ s v).bind λz=>if h:z.2.t=t then (if z.2.n+1000=n then (kn 0 ps).bind λm=>.bc (b9 (z.1::m.2.map (·.1))) (.ret ((h▸z.2.x,()),m.1))else .fail)else .fail
 | _,_,_=>.fail
def gj(m:Nat)(mu:List (Nat×Nat))(ss:List Src):aj->aj
 | .own s q=>match mu.find? (λp=>p.1==s)with
  | some p=>.own p.2 q
  | none=>match ss.find? (λp=>p.s==s)with
   | some p=>match q with
    | y::rest=>if y<p.sz then (if rest.length<p.n then .own m ((p.o+y)::rest)else .al)else .al
    | []=>.al
   | none=>.al
 | x=>x
theorem R4{s:Nat}(h:s∉mu.map (·.1)):mu.find? (λp=>p.1==s)=none:=by
 rw[List.find?_eq_none];intro p hp he;exact h (List.mem_map.2 ⟨p,hp,by simpa using he⟩)
theorem R3{s j:Nat}(hn:b9 (mu.map (·.1))=true)(h:(s,j)∈mu):mu.find? (λp=>p.1==s)=some (s,j):=by
 induction mu with
 | nil=>cases h
 | cons x l ih =>
  simp only[List.map_cons,b9,Bool.and_eq_true,Bool.not_eq_true']at hn;rcases List.mem_cons.1 h with rfl|hm
  ·simp
  ·have a8:x.1≠s:=λe=>by
    have:(l.map (·.1)).contains x.1=true:=by
     rw[List.contains_iff_mem,e];exact List.mem_map.2 ⟨(s,j),hm,rfl⟩
    rw[hn.1]at this;cases this
   rw[List.find?_cons_of_neg (by simpa using a8)];exact ih hn.2 hm
section
variable{P:Program}{C:Ctx}{w w' w0:World}{L L' L0:Nat->aj}{N:Nat}{vs:List Nat}{T T':List V}{a:Act}
theorem ae7[ae]{m:Nat}{ss:List Src}{s:Nat}{q:List Nat}(h1:s∉mu.map (·.1))(h2:s∉ss.map (·.s)):gj m mu ss (.own s q) = .al:=by
 unfold gj;dsimp only;rw[R4 h1];have:ss.find? (λp=>p.s==s)=none:=by
  rw[List.find?_eq_none];intro p hp he;exact h2 (List.mem_map.2 ⟨p,hp,by simpa using he⟩)
 rw[this]
theorem ae8[ae]{m:Nat}{ss:List Src}{p:Src}(hn:b9 (ss.map (·.s))=true)(h1:p.s∉mu.map (·.1))(hp:p∈ss){y:Nat}{rest:List Nat}(hy:y<p.sz):
  gj m mu ss (.own p.s (y::rest))=if rest.length<p.n then .own m ((p.o+y)::rest)else .al:=by
 unfold gj;dsimp only;rw[R4 h1];have:ss.find? (λp'=>p'.s==p.s)=some p:=by
  clear h1 hy;induction ss with
  | nil=>cases hp
  | cons x l ih =>
   simp only[List.map_cons,b9,Bool.and_eq_true,Bool.not_eq_true']at hn;rcases List.mem_cons.1 hp with rfl|hp
   ·simp
   ·have a8:x.s≠p.s:=λe=>by
     have:(l.map (·.s)).contains x.s=true:=by
      rw[List.contains_iff_mem,e];exact List.mem_map_of_mem hp
     rw[hn.1]at this;cases this
    rw[List.find?_cons_of_neg (by simpa using a8)];exact ih hn.2 hp
 rw[this];dsimp only;rw[if_pos hy]
theorem aj5[ae](hI:Inv w0 L0 N vs T a w L){s:Nat}{y:t.den}{src:Option Nat}{ls:List Nat}(h:(Jd t n s (T.getD s .dead)).ai T (y,src,ls) log):
  ∃cells,Form t cells (a.tmps.getD s undef)/\(∀s',src=some s'->n≠0/\t.depth≠0) /\
   ∀(L':Nat->aj) (m o:Nat),(∀k,L k = .al->L' k = .al)->(∀k r q,r∈ls->L k = .own r q->L' k = .al) ->
    (∀s' k i rest,src=some s'->L k = .own s' (i::rest)->i<t.sz->(rest.length<n->L' k = .own m ((o+i)::rest))/\(n<=rest.length->L' k = .al)) ->
    Own w L' (λk=>L' k = .al) m n t y [] o cells:=by
 have hs:=hI.aS s;have Tt:∀{k:Nat} {cells:List Value} {s':Nat} {y:t.den},n<=k->Own w L (SL L none) s' k t y [] 0 cells->∀(L':Nat->aj) (m o:Nat),(∀k,L k = .al->L' k = .al) ->
    (∀k i rest,L k = .own s' (i::rest)->i<t.sz->(rest.length<n->L' k = .own m ((o+i)::rest))/\(n<=rest.length->L' k = .al)) ->
    Own w L' (λk=>L' k = .al) m n t y [] o cells:=by
  intro k cells s' y jX ho L' m o H1 H3;refine Own.eL jX (λk hk=>⟨?_,rfl⟩) (λk d rest hd hk=>?_) ho
  ·rcases hk with hk|⟨_,_,hk,_⟩
   ·exact H1 k hk
   ·cases hk
  ·have aA:L k = .own s' (d::rest):=by simpa using hk
   have:=H3 k d rest aA hd;exact⟨rfl,λh=>by simpa using this.1 h,this.2⟩
 unfold Jd at h;split at h
 ·rename_i hc;obtain⟨⟨l,t',y'⟩,l1,l2,rfl,h1,h2⟩:=M.ak h;dsimp only at h2;split at h2
  ·rename_i ht;subst ht;obtain⟨h2,_⟩:=h2;cases h2;obtain⟨cells,hf,br,ch⟩:=pQ hI h1 hs (λ_=>rfl);refine⟨cells,hf,λs' h=>(by cases h),λL' m o H1 H2 _=>?_⟩;have h0:=Own.du (L:=L) (s:=0) (q:=[]) (o:=0) br;by_cases hd:t'.depth=0
   ·exact Own.flat hd h0
   ·have hn:n=0:=by omega
    subst hn;rw[if_neg hd]at H2;refine Own.du (Rd.move (λk hk=>⟨?_,rfl⟩) br);rcases hk with hk|⟨r,q,hl,hk⟩
    ·exact H1 k hk
    ·exact H2 k r q (by simp[hl]) hk
  ·exact h2.elim
 ·rename_i hc;have hc:=not_or.1 hc;generalize hv:T.getD s .dead=v at h hs;split at h
  ·rename_i k t' y';split at h
   ·rename_i ht;subst ht;split at h
    ·rename_i jX;obtain⟨h,_⟩:=h;cases h;obtain⟨_,cells,hf,ho⟩:=hs;exact⟨cells,hf,λ_ _=>⟨hc.2,hc.1⟩,λL' m o H1 _ H3=>Tt jX ho L' m o H1 (λk i rest hk hi=>H3 s k i rest rfl hk hi)⟩
    ·exact h.elim
   ·exact h.elim
  ·rename_i r t2;obtain⟨log2,rfl,h⟩:=h;dsimp only at h;split at h
   ·rename_i k t' y' hu;split at h
    ·rename_i ht;subst ht;split at h
     ·rename_i jX;obtain⟨h,_⟩:=h;cases h;obtain⟨_,h1⟩:=hs;have hr:=hI.aS r;rw[hu]at hr;obtain⟨_,cells,hf,ho⟩:=hr;refine⟨cells,?_,λ_ _=>⟨hc.2,hc.1⟩,λL' m o H1 _ H3=>Tt jX ho L' m o H1 (λk i rest hk hi=>H3 r k i rest rfl hk hi)⟩;rcases h1 with⟨_,h2,_⟩|⟨_,_,_,h2,_⟩
      ·rw[h2];exact hf
      ·rw[hu]at h2;simp[V.dm]at h2
     ·exact h.elim
    ·exact h.elim
   ·exact h.elim
  ·exact h.elim
theorem aj4[ae](hI:Inv w0 L0 N vs T a w L)(hC:bt P C){s:Nat}{y:t.den}{src:Option Nat}{ls:List Nat}(h:(Jb C X t n s (T.getD s .dead)).ai T (y,src,ls) log):
  ∃c cells,we P w a (.cell s X) c/\Form t cells c/\(∀s',src=some s'->n≠0/\t.depth≠0) /\
   ∀(L':Nat->aj) (m o:Nat),(∀k,L k = .al->L' k = .al)->(∀k r q,r∈ls->L k = .own r q->L' k = .al) ->
    (∀s' k i rest,src=some s'->L k = .own s' (i::rest)->i<t.sz->(rest.length<n->L' k = .own m ((o+i)::rest))/\(n<=rest.length->L' k = .al)) ->
    Own w L' (λk=>L' k = .al) m n t y [] o cells:=by
 have hs:=hI.aS s;unfold Jb at h;generalize hv:T.getD s .dead=v at h hs;split at h
 ·rename_i k t' y';split at h
  ·rename_i ht;subst ht;split at h
   ·rename_i hX;obtain⟨_,g,cur,e,h1,h2,h3,h4,h5⟩:=hs;obtain⟨c,aJ,hf⟩:=(hC X t' hX).Jj (w:=w) (g:=g) (o:=0) (Own.len h5) (λi v hv=>by
     rw[Nat.zero_add,GF h3];simpa using hv)
    have ur:we P w a (.cell s X) c:=⟨_,h1,aJ⟩;have aX:∀{L':Nat->aj},(∀k,L k = .al->L' k = .al)->∀k,SL L none k->L' k = .al/\w.heap[k]?=w.heap[k]?:=by
     intro L' H k hk;rcases hk with hk|⟨_,_,hk,_⟩
     ·exact⟨H k hk,rfl⟩
     ·cases hk
    split at h
    ·rename_i hc;obtain⟨h,_⟩:=h;cases h;refine⟨c,cur.toList,ur,hf,λs' h=>(by cases h),λL' m o H1 H2 _=>?_⟩;by_cases hd:t'.depth=0
     ·exact Own.flat hd h5
     ·have hn:n=0:=by omega
      subst hn;rw[if_neg hd]at H2;refine Own.du (Own.rd (S':=λk=>L' k = .al) (λk q hk=>H2 k s q (by simp) hk) (λk hk=>(aX H1 k hk).1) h5)
    ·rename_i hc;have hc:=not_or.1 hc;split at h
     ·rename_i jX;obtain⟨h,_⟩:=h;cases h;refine⟨c,cur.toList,ur,hf,λ_ _=>⟨hc.2,hc.1⟩,λL' m o H1 _ H3=>?_⟩;refine Own.eL jX (aX H1) (λk d rest hd hk=>?_) h5;have aA:L k = .own s (d::rest):=by simpa using hk
      have:=H3 s k d rest rfl aA hd;exact⟨rfl,λh=>by simpa using this.1 h,this.2⟩
     ·exact h.elim
   ·exact h.elim
  ·exact h.elim
 ·exact h.elim
theorem aj6[ae](hI:Inv w0 L0 N vs T a w L)(hC:bt P C){rv:RV}{y:t.den}{src:Option Nat}{ls:List Nat}(h:(Wj C t n rv (T.getD rv.slot .dead)).ai T (y,src,ls) log):
  ∃c cells,we P w a rv c/\Form t cells c/\(∀s',src=some s'->n≠0/\t.depth≠0) /\
   ∀(L':Nat->aj) (m o:Nat),(∀k,L k = .al->L' k = .al)->(∀k r q,r∈ls->L k = .own r q->L' k = .al) ->
    (∀s' k i rest,src=some s'->L k = .own s' (i::rest)->i<t.sz->(rest.length<n->L' k = .own m ((o+i)::rest))/\(n<=rest.length->L' k = .al)) ->
    Own w L' (λk=>L' k = .al) m n t y [] o cells:=by
 cases rv with
 | tmp s =>
  obtain⟨cells,h1,h2,h3⟩:=aj5 hI (s:=s) h;exact⟨_,cells,rfl,h1,h2,h3⟩
 | cell s X=>exact aj4 hI hC h
theorem Wi[ae](hI:Inv w0 L0 N vs T a w L)(hC:bt P C):{rs:List (Ty×Nat)}->{o:Nat}->{sl:List RV}->{R:Qu rs}->{log:List Nat}->(Jc C o rs sl).ai T R log ->
  ∃cs,ql P w a sl cs/\(∀p∈R.ss,o<=p.o/\∃t,(t,p.n)∈rs/\p.n≠0/\t.depth≠0)/\(∀p p',p∈R.ss->p'∈R.ss->p.s≠p'.s->p.o+p.sz<=p'.o\/p'.o+p'.sz<=p.o) /\
  ∀(L':Nat->aj) (m:Nat),(∀k,L k = .al->L' k = .al)->(∀k r q,r∈R.ls->L k = .own r q->L' k = .al) ->
   (∀p k i rest,p∈R.ss->L k = .own p.s (i::rest)->i<p.sz->(rest.length<p.n->L' k = .own m ((p.o+i)::rest))/\(p.n<=rest.length->L' k = .al)) ->
   im w L' m o rs R.x cs
 | [],o,[],R,log,h=>by
  obtain⟨rfl,_⟩:=h;exact⟨[],rfl,by simp,by simp,λ_ _ _ _ _=>rfl⟩
 | (t,n)::rs,o,s::sl,R,log,h=>by
  obtain⟨ay,rfl,h⟩:=h;obtain⟨⟨y,src,ls⟩,l1,l2,rfl,h1,h⟩:=M.ak h;obtain⟨R',l3,l4,rfl,h2,h⟩:=M.ak h;obtain⟨rfl,_⟩:=h;obtain⟨c,cells,k0,k1,k2,k3⟩:=aj6 hI hC h1;obtain⟨cs,j0,j1,j2,j3⟩:=Wi hI hC h2;have fE:∀p,p∈(match src with|some s'=>(⟨s',o,t.sz,n⟩:Src)::R'.ss|none=>R'.ss)->(∃s',src=some s'/\p=⟨s',o,t.sz,n⟩)\/p∈R'.ss:=by
   intro p hp;cases src with
   | none=>exact .inr hp
   | some s' =>
    rcases List.mem_cons.1 hp with hp|hp
    ·exact .inl ⟨s',rfl,hp⟩
    ·exact .inr hp
  refine⟨c::cs,⟨c,cs,rfl,k0,j0⟩,λp hp=>?_,λp p' hp cc a8=>?_,λL' m H1 H2 H3=>?_⟩
  ·rcases fE p hp with⟨s',bD,rfl⟩|hp
   ·exact⟨Nat.le_refl _,t,by simp,(k2 s' bD).1,(k2 s' bD).2⟩
   ·obtain⟨e1,t',e2,e3,e4⟩:=j1 p hp;exact⟨by omega,t',by simp[e2],e3,e4⟩
  ·rcases fE p hp with⟨s',bD,rfl⟩|hp
   ·rcases fE p' cc with⟨s2,dI,rfl⟩|cc
    ·rw[bD]at dI;injection dI with dI;exact absurd dI a8
    ·exact .inl (j1 p' cc).1
   ·rcases fE p' cc with⟨s2,dI,rfl⟩|cc
    ·exact .inr (j1 p hp).1
    ·exact j2 p p' hp cc a8
  ·refine⟨c,_,cells,rfl,k1,k3 L' m o H1 (λk r q hr hk=>H2 k r q (List.mem_append_left _ hr) hk) (λs' k i rest bD hk hi=>?_),j3 L' m H1 (λk r q hr hk=>H2 k r q (List.mem_append_right _ hr) hk) (λp k i rest hp hk hi=>H3 p k i rest ?_ hk hi)⟩
   ·subst bD;exact H3 ⟨s',o,t.sz,n⟩ k i rest (by simp) hk hi
   ·cases src with
    | none=>exact hp
    | some s'=>exact List.mem_cons_of_mem _ hp
 | [],_,_::_,_,_,h=>h.elim
 | _::_,_,[],_,_,h=>h.elim
theorem VL:{ps:List (Ty×Mode)}->{i s:Nat}->(s∈iM i ps↔i<=s/\∃t m,ps[s - i]?=some (t,m)/\m.back=true)
 | [],i,s=>by simp[iM]
 | (t,md)::ps,i,s=>by
  have ih:=VL (ps:=ps) (i:=i+1) (s:=s);have key:(i+1<=s/\∃t' m,ps[s - (i+1)]?=some (t',m)/\m.back=true)↔(s≠i/\i<=s/\∃t' m,((t,md)::ps)[s - i]?=some (t',m)/\m.back=true):=by
   constructor
   ·rintro⟨h1,t',n',h2,h3⟩
    exact⟨by omega,by omega,t',n',by rw[show s - i=(s - (i+1))+1 by omega];simpa using h2,h3⟩
   ·rintro⟨hs,h1,t',n',h2,h3⟩
    refine⟨by omega,t',n',?_,h3⟩;rw[show s - i=(s - (i+1))+1 by omega]at h2;simpa using h2
  have put:md.back=true->((s=i\/s∈iM (i+1) ps)↔i<=s/\∃t' m,((t,md)::ps)[s - i]?=some (t',m)/\m.back=true):=by
   intro hm;rw[ih,key];constructor
   ·rintro (rfl|⟨_,h⟩)
    ·exact⟨Nat.le_refl _,t,md,by simp,hm⟩
    ·exact h
   ·intro h;by_cases hs:s=i
    ·exact .inl hs
    ·exact .inr ⟨hs,h⟩
  match md,key,put with
  | .mut n,_,put=>simpa only[iM,List.mem_cons]using put (by simp)
  | .ptr n,_,put=>simpa only[iM,List.mem_cons]using put (by simp)
  | .ro,key,_ =>
   simp only[iM];rw[ih,key];constructor
   ·exact λh=>h.2
   ·rintro⟨h1,t',m,h2,h3⟩
    refine⟨?_,h1,t',m,h2,h3⟩
    rintro rfl
    rw[Nat.sub_self]at h2;simp only[List.getElem?_cons_zero,Option.some.injEq,Prod.mk.injEq]at h2;rw[<-h2.2]at h3;cases h3
  | .bQ _,key,_ =>
   simp only[iM];rw[ih,key];constructor
   ·exact λh=>h.2
   ·rintro⟨h1,t',m,h2,h3⟩
    refine⟨?_,h1,t',m,h2,h3⟩
    rintro rfl
    rw[Nat.sub_self]at h2;simp only[List.getElem?_cons_zero,Option.some.injEq,Prod.mk.injEq]at h2;rw[<-h2.2]at h3;cases h3
theorem pM[ae](hI:Inv w0 L0 N vs T a w L){A0:List Value}:{ps:List (Ty×Mode)}->{i:Nat}->{y:(cm ps).den}->{mu:List (Nat×Nat)}->{log:List Nat}->(kn i ps).ai T (y,mu) log->ps.length=A0.length->(∀j,(∃t m,ps[j]?=some (t,m)/\m.back=true)->A0[j]?=some (a.tmps.getD (i+j) undef)) ->
  ∀(L':Nat->aj),(∀k,L k = .al->L' k = .al)->(∀k s j q,(s,j)∈mu->L k = .own s q->L' k = .own j q)->fp w L' i ps y A0
 | [],i,y,mu,log,h,hl,_,L',_,_=>by
  simp only[List.length_nil]at hl;exact List.eq_nil_of_length_eq_zero hl.symm
 | (t,.mut n)::ps,i,y,mu,log,h,hl,hA,L',H1,H2=>by
  cases A0 with
  | nil=>simp at hl
  | cons c A0 =>
   obtain⟨ay,rfl,h⟩:=h;have hs:=hI.aS i;have hc:c=a.tmps.getD i undef:=by
    have:=hA 0 ⟨t,.mut n,rfl,by simp⟩;simpa using this
   subst hc;have Bf:∀j,(∃t m,ps[j]?=some (t,m)/\m.back=true)->A0[j]?=some (a.tmps.getD (i+1+j) undef):=λj hj=>by
    have:=hA (j+1) (by simpa using hj);rw[show i+1+j=i+(j+1)by omega];simpa using this
   generalize hv:T.getD i .dead=v at h hs;dsimp only at h;split at h
   ·rename_i k t' y';split at h
    ·rename_i ht;subst ht;split at h
     ·rename_i hk;subst hk;obtain⟨⟨r,mr⟩,l1,l2,rfl,h1,h2⟩:=M.ak h;obtain⟨h2,_⟩:=h2;injection h2 with h2 h3;subst h2 h3;obtain⟨_,cells,hf,ho⟩:=hs;refine⟨_,A0,cells,rfl,hf,?_,pM hI h1 (by simpa using hl) Bf L' H1 (λk' s j q hm aA=>H2 k' s j q (List.mem_cons_of_mem _ hm) aA)⟩
      ·refine Own.move (λk' aA=>⟨?_,rfl⟩) (λk' d rest _ aA=>⟨H2 k' i i _ (by simp) aA,rfl⟩) ho;rcases aA with aA|⟨_,_,aA,_⟩
       ·exact H1 k' aA
       ·cases aA
     ·exact h.elim
    ·exact h.elim
   ·rename_i d tv;obtain⟨log2,rfl,h⟩:=h;have hd:=hI.aS d;generalize hu:T.getD d .dead=u at h hd;dsimp only at h;split at h
    ·rename_i k t' y';split at h
     ·rename_i ht;subst ht;split at h
      ·rename_i hk;obtain⟨rfl,rfl⟩:=hk;obtain⟨⟨r,mr⟩,l1,l2,rfl,h1,h2⟩:=M.ak h;obtain⟨h2,_⟩:=h2;injection h2 with h2 h3;subst h2 h3;obtain⟨_,cD⟩:=hs;rcases cD with⟨_,_,l0,n0,x0,oZ,_⟩|⟨g,cur,e,_,g1,g2,g3,g4⟩
       ·rw[hu]at oZ;cases oZ
       ·obtain⟨_,g',cur',e',_,j2,j3,j4,j5⟩:=hd;obtain rfl:=hI.inj g g' d _ g1 j2;rw[g2]at j3;injection j3 with j3;injection j3 with j3 _ _;subst j3;simp only[node,List.drop_zero]at g4;rw[List.take_of_length_le (by rw[Array.length_toList,j4];exact Nat.le_refl _)]at g4;refine⟨_,A0,cur.toList,rfl,g4,?_,pM hI h1 (by simpa using hl) Bf L' H1 (λk' s j q hm aA=>H2 k' s j q (List.mem_cons_of_mem _ hm) aA)⟩;refine Own.move (λk' aA=>⟨?_,rfl⟩) (λk' dd rest _ aA=>⟨H2 k' d i _ (by simp) aA,rfl⟩) j5;rcases aA with aA|⟨_,_,aA,_⟩
        ·exact H1 k' aA
        ·cases aA
      ·exact h.elim
     ·exact h.elim
    ·exact h.elim
   ·exact h.elim
 | (t,.ptr n)::ps,i,y,mu,log,h,hl,hA,L',H1,H2=>by
  cases A0 with
  | nil=>simp at hl
  | cons c A0 =>
   obtain⟨ay,rfl,h⟩:=h;have hs:=hI.aS i;have hc:c=a.tmps.getD i undef:=by
    have:=hA 0 ⟨t,.ptr n,rfl,by simp⟩;simpa using this
   subst hc;have Bf:∀j,(∃t m,ps[j]?=some (t,m)/\m.back=true)->A0[j]?=some (a.tmps.getD (i+1+j) undef):=λj hj=>by
    have:=hA (j+1) (by simpa using hj);rw[show i+1+j=i+(j+1)by omega];simpa using this
   generalize hv:T.getD i .dead=v at h hs;dsimp only at h;split at h
   ·rename_i k t' y';split at h
    ·rename_i ht;subst ht;split at h
     ·rename_i hk;subst hk;obtain⟨⟨r,mr⟩,l1,l2,rfl,h1,h2⟩:=M.ak h;obtain⟨h2,_⟩:=h2;injection h2 with h2 h3;subst h2 h3;obtain⟨_,g,cur,e,hf,hL,hg,hz,ho⟩:=hs;refine⟨_,A0,rfl,⟨g,cur,e,hf,H2 g i i _ (by simp) hL,hg,hz,?_⟩,pM hI h1 (by simpa using hl) Bf L' H1 (λk' s j q hm aA=>H2 k' s j q (List.mem_cons_of_mem _ hm) aA)⟩;refine Own.move (λk' aA=>⟨?_,rfl⟩) (λk' d rest _ aA=>⟨H2 k' i i _ (by simp) aA,rfl⟩) ho;rcases aA with aA|⟨_,_,aA,_⟩
      ·exact H1 k' aA
      ·cases aA
     ·exact h.elim
    ·exact h.elim
   ·exact h.elim
 | (t,.ro)::ps,i,y,mu,log,h,hl,hA,L',H1,H2=>by
  cases A0 with
  | nil=>simp at hl
  | cons c A0 =>
   refine⟨c,A0,rfl,pM (ps:=ps) (i:=i+1) hI h (by simpa using hl) (λj hj=>?_) L' H1 H2⟩;have:=hA (j+1) (by simpa using hj);rw[show i+1+j=i+(j+1)by omega];simpa using this
 | (t,.bQ _)::ps,i,y,mu,log,h,hl,hA,L',H1,H2=>by
  cases A0 with
  | nil=>simp at hl
  | cons c A0 =>
   refine⟨c,A0,rfl,pM (ps:=ps) (i:=i+1) hI h (by simpa using hl) (λj hj=>?_) L' H1 H2⟩;have:=hA (j+1) (by simpa using hj);rw[show i+1+j=i+(j+1)by omega];simpa using this
theorem r5:{ps:List (Ty×Mode)}->{i:Nat}->{y:(cm ps).den}->{mu:List (Nat×Nat)}->{log:List Nat}->(kn i ps).ai T (y,mu) log ->
  ∀s j,(s,j)∈mu->i<=j/\(∃t m,ps[j - i]?=some (t,m)/\m.back=true)/\∀s',(s',j)∈mu->s'=s
 | [],i,y,mu,log,h=>by
  obtain⟨h,_⟩:=h;injection h with _ h;subst h;simp
 | (t,.mut n)::ps,i,y,mu,log,h=>by
  obtain⟨ay,rfl,h⟩:=h;have key:∀{d:Nat} {y2:(cm ps).den} {mr:List (Nat×Nat)} {l:List Nat},(kn (i+1) ps).ai T (y2,mr) l->mu=(d,i)::mr->∀s j,(s,j)∈mu->i<=j/\(∃t' m',((t,Mode.mut n)::ps)[j - i]?=some (t',m')/\m'.back=true)/\∀s',(s',j)∈mu->s'=s:=by
   intro d y2 mr l h1 fF s j hm;subst fF;have ih:=r5 h1;rcases List.mem_cons.1 hm with hm|hm
   ·injection hm with h2 h3;subst h2 h3;refine⟨Nat.le_refl _,⟨t,.mut n,by simp,by simp⟩,λs' bS=>?_⟩;rcases List.mem_cons.1 bS with bS|bS
    ·injection bS
    ·have:=(ih s' j bS).1;omega
   ·obtain⟨e1,⟨t',n',e2,kR⟩,e3⟩:=ih s j hm;refine⟨by omega,⟨t',n',by rw[show j - i=(j - (i+1))+1 by omega];simpa using e2,kR⟩,λs' bS=>?_⟩;rcases List.mem_cons.1 bS with bS|bS
    ·injection bS with _ h3;omega
    ·exact e3 s' bS
  generalize hv:T.getD i .dead=v at h;dsimp only at h;split at h
  ·split at h
   ·split at h
    ·obtain⟨⟨r,mr⟩,l1,l2,rfl,h1,h2⟩:=M.ak h;obtain⟨h2,_⟩:=h2;injection h2 with h2 h3;exact key h1 h3
    ·exact h.elim
   ·exact h.elim
  ·rename_i d tv;obtain⟨log2,rfl,h⟩:=h;generalize T.getD d .dead=u at h;dsimp only at h;split at h
   ·split at h
    ·split at h
     ·obtain⟨⟨r,mr⟩,l1,l2,rfl,h1,h2⟩:=M.ak h;obtain⟨h2,_⟩:=h2;injection h2 with h2 h3;exact key h1 h3
     ·exact h.elim
    ·exact h.elim
   ·exact h.elim
  ·exact h.elim
 | (t,.ptr n)::ps,i,y,mu,log,h=>by
  obtain⟨ay,rfl,h⟩:=h;have key:∀{d:Nat} {y2:(cm ps).den} {mr:List (Nat×Nat)} {l:List Nat},(kn (i+1) ps).ai T (y2,mr) l->mu=(d,i)::mr->∀s j,(s,j)∈mu->i<=j/\(∃t' m',((t,Mode.ptr n)::ps)[j - i]?=some (t',m')/\m'.back=true)/\∀s',(s',j)∈mu->s'=s:=by
   intro d y2 mr l h1 fF s j hm;subst fF;have ih:=r5 h1;rcases List.mem_cons.1 hm with hm|hm
   ·injection hm with h2 h3;subst h2 h3;refine⟨Nat.le_refl _,⟨t,.ptr n,by simp,by simp⟩,λs' bS=>?_⟩;rcases List.mem_cons.1 bS with bS|bS
    ·injection bS
    ·have:=(ih s' j bS).1;omega
   ·obtain⟨e1,⟨t',n',e2,kR⟩,e3⟩:=ih s j hm;refine⟨by omega,⟨t',n',by rw[show j - i=(j - (i+1))+1 by omega];simpa using e2,kR⟩,λs' bS=>?_⟩;rcases List.mem_cons.1 bS with bS|bS
    ·injection bS with _ h3;omega
    ·exact e3 s' bS
  generalize hv:T.getD i .dead=v at h;dsimp only at h;split at h
  ·split at h
   ·split at h
    ·obtain⟨⟨r,mr⟩,l1,l2,rfl,h1,h2⟩:=M.ak h;obtain⟨h2,_⟩:=h2;injection h2 with h2 h3;exact key h1 h3
    ·exact h.elim
   ·exact h.elim
  ·exact h.elim
 | (t,.ro)::ps,i,y,mu,log,h=>by
  intro s j hm;obtain⟨e1,⟨t',n',e2,kR⟩,e3⟩:=r5 (ps:=ps) (i:=i+1) h s j hm;exact⟨by omega,⟨t',n',by rw[show j - i=(j - (i+1))+1 by omega];simpa using e2,kR⟩,e3⟩
 | (t,.bQ _)::ps,i,y,mu,log,h=>by
  intro s j hm;obtain⟨e1,⟨t',n',e2,kR⟩,e3⟩:=r5 (ps:=ps) (i:=i+1) h s j hm;exact⟨by omega,⟨t',n',by rw[show j - i=(j - (i+1))+1 by omega];simpa using e2,kR⟩,e3⟩
end
def Mode.val(t:Ty)(x:t.den):Mode->V
 | .ptr n=>.box none n t x
 | .mut n=>.d none n t x
 | .bQ n=>.d none n t x
 | .ro=>.d none 0 t x
def xB(w:World)(L0:Nat->aj)(i:Nat)(t:Ty)(x:t.den)(c:Value):Mode->Prop
 | .ptr n=>sL w L0 (λk=>L0 k = .al) i n t x c
 | .mut n=>∃cells,Form t cells c/\Own w L0 (λk=>L0 k = .al) i n t x [] 0 cells
 | .bQ n=>∃cells,Form t cells c/\Own w L0 (λk=>L0 k = .al) i n t x [] 0 cells
 | .ro=>∃cells,Form t cells c/\Own w L0 (λk=>L0 k = .al) i 0 t x [] 0 cells
def nZ:(ps:List (Ty×Mode))->(cW ps).den->List V
 | [],_=>[]
 | (t,m)::ps,x=>m.val t x.1::nZ ps x.2
def aU(N:Nat)(ps:List (Ty×Mode))(x:(cW ps).den):List V:=nZ ps x++List.replicate (N - ps.length) .dead
def vf(C:Ctx)(bf:dx)(vs:List Nat)(N:Nat)(aO:Nat->Option Nat)(hx:Hints)(ps:List (Ty×Mode)):Env :=
 { step:=Jw C bf vs hx N,N:=N,pins:=λp=>(iM 0 ps).contains p,aO:=aO }
def RW(C:Ctx)(ps:List (Ty×Mode))(rs:List (Ty×Nat))(sl:List RV):Ex->List V->Option (Ty.pair (cG rs) (cm ps)).den
 | .ext _,_=>none
 | _,T=>(bif va rs then G1 C ps rs sl else A4 ps rs sl).runK T [] λ_ r=>some r
noncomputable def VB(C:Ctx)(bf:dx)(vs:List Nat)(N:Nat)(aO:Nat->Option Nat)(hx:Hints)(ps:List (Ty×Mode))(rs:List (Ty×Nat))(sl:List RV)(c:Code):Fn :=
 { ps:=ps,rs:=rs,ao:=λx=>aw (vf C bf vs N aO hx ps) c (RW C ps rs sl) (aU N ps x) }
section
variable{P:Program}{C:Ctx}{w w' w0:World}{L L' L0:Nat->aj}{N:Nat}{vs:List Nat}{T T':List V}{a:Act}
theorem dE.cons{m:Mode}{i:Nat}{x:(cW ((t,m)::ps)).den}{cs:List Value}(h:dE w L0 i ((t,m)::ps) x cs):
  ∃c a7,cs=c::a7/\xB w L0 i t x.1 c m/\dE w L0 (i+1) ps x.2 a7:=by
 match m,x,h with
 | .ptr n,x,h=>exact h
 | .mut n,x,h =>
  obtain⟨c,a7,cells,h1,h2,h3,h4⟩:=h;exact⟨c,a7,h1,⟨cells,h2,h3⟩,h4⟩
 | .bQ n,x,h =>
  obtain⟨c,a7,cells,h1,h2,h3,h4⟩:=h;exact⟨c,a7,h1,⟨cells,h2,h3⟩,h4⟩
 | .ro,x,h =>
  obtain⟨c,a7,cells,h1,h2,h3,h4⟩:=h;exact⟨c,a7,h1,⟨cells,h2,h3⟩,h4⟩
theorem dE.len[ae]:{ps:List (Ty×Mode)}->{i:Nat}->{x:(cW ps).den}->{cs:List Value}->dE w L0 i ps x cs->cs.length=ps.length
 | [],_,_,_,h=>by simp only[dE]at h;subst h;rfl
 | (t,m)::ps,i,x,cs,h=>by
  obtain⟨c,a7,rfl,_,h⟩:=h.cons;simp[dE.len h]
theorem dE.get[ae]:{ps:List (Ty×Mode)}->{i:Nat}->{x:(cW ps).den}->{cs:List Value}->dE w L0 i ps x cs->∀(s:Nat) (t:Ty) (m:Mode),ps[s]?=some (t,m) ->
  ∃y c,(nZ ps x)[s]?=some (m.val t y)/\cs[s]?=some c/\xB w L0 (i+s) t y c m
 | [],_,_,_,_,s,t,m,h=>by simp at h
 | (t0,m0)::ps,i,x,cs,h,s,t,m,hs=>by
  obtain⟨c,a7,rfl,h1,h⟩:=h.cons;cases s with
  | zero =>
   simp only[List.getElem?_cons_zero,Option.some.injEq,Prod.mk.injEq]at hs;obtain⟨rfl,rfl⟩:=hs;exact⟨x.1,c,rfl,rfl,h1⟩
  | succ s =>
   obtain⟨y,c',e1,e2,e3⟩:=dE.get h s t m (by simpa using hs);exact⟨y,c',by simpa[nZ]using e1,by simpa using e2,by rw[show i+(s+1)=i+1+s by omega];exact e3⟩
theorem Mode.aqL{x:t.den}:{m:Mode}->m.owned t=true->(m.val t x).aD=true
 | .ro,h=>by cases h
 | .mut n,h=>h
 | .bQ n,h=>h
 | .ptr n,_=>rfl
theorem Mode.aqM{x:t.den}:{m:Mode}->(m.val t x).root=none
 | .ro=>rfl
 | .mut _=>rfl
 | .bQ _=>rfl
 | .ptr _=>rfl
theorem xB.slot{i:Nat}{x:t.den}{c:Value}{T:List V}{tm:Array Value}:{m:Mode}->xB w L0 i t x c m->ax L0 T tm i (m.val t x) w c
 | .ro,h=>by
  obtain⟨cells,h1,h2⟩:=h;exact⟨by simp,cells,h1,Own.move (λk hk=>⟨.inl hk,rfl⟩) (λk d rest _ hk=>⟨hk,rfl⟩) h2⟩
 | .mut n,h=>by
  obtain⟨cells,h1,h2⟩:=h;exact⟨by simp,cells,h1,Own.move (λk hk=>⟨.inl hk,rfl⟩) (λk d rest _ hk=>⟨hk,rfl⟩) h2⟩
 | .bQ n,h=>by
  obtain⟨cells,h1,h2⟩:=h;exact⟨by simp,cells,h1,Own.move (λk hk=>⟨.inl hk,rfl⟩) (λk d rest _ hk=>⟨hk,rfl⟩) h2⟩
 | .ptr n,h=>by
  obtain⟨g,cur,e,h1,h2,h3,h4,h5⟩:=h;exact⟨by simp,g,cur,e,h1,h2,h3,h4,Own.move (λk hk=>⟨.inl hk,rfl⟩) (λk d rest _ hk=>⟨hk,rfl⟩) h5⟩
theorem py:{ps:List (Ty×Mode)}->{x:(cW ps).den}->(nZ ps x).length=ps.length
 | [],_=>rfl
 | (t,m)::ps,x=>by simp[nZ,py]
theorem Jn[ae]{x:(cW ps).den}(s:Nat):(aU N ps x).getD s .dead=((nZ ps x)[s]?).getD .dead:=by
 unfold aU;rw[List.getD_eq_getElem?_getD];by_cases h:s<ps.length
 ·rw[List.getElem?_append_left (by rw[py];exact h)]
 ·rw[List.getElem?_append_right (by rw[py];omega),List.getElem?_eq_none (l:=nZ ps x) (by rw[py];omega)];rw[List.getElem?_replicate];split<;>rfl
theorem akB[ae]{x:(cW ps).den}{args:Array Value}(hl:jb w L0 ps)(ha:dE w L0 0 ps x args.toList)(hN:ps.length<=N)(vs:List Nat):
  Inv w L0 N vs (aU N ps x) { tmps:=args++Array.replicate (N - args.size) undef,defers:=[] } w L0:=by
 have hlen:args.size=ps.length:=by simpa using ha.len
 refine⟨by simp;omega,by simp[aU,py];omega,rfl,⟨rfl,rfl,rfl,Nat.le_refl _,Nat.le_refl _,λ_ _ _=>⟨rfl,rfl⟩,hl.gm⟩,hl.free,hl.inj,λk s q h=>?_,λs r h=>?_,λs=>?_⟩
 ·obtain⟨t,m,h1,h2⟩:=hl.owner k s q h;obtain⟨y,c,e1,_⟩:=ha.get s t _ h1;rw[Jn,e1];exact Mode.aqL h2
 ·rw[Jn]at h;cases hp:ps[s]? with
  | none =>
   rw[List.getElem?_eq_none (by rw[py];exact List.getElem?_eq_none_iff.1 hp)]at h;simp[V.on,V.root]at h
  | some p =>
   obtain⟨t,m⟩:=p;obtain⟨y,c,e1,_⟩:=ha.get s t m hp;rw[e1]at h;unfold V.on at h;rw[Option.getD_some,Mode.aqM]at h;cases h
 ·rw[Jn];cases hp:ps[s]? with
  | none =>
   rw[List.getElem?_eq_none (by rw[py];exact List.getElem?_eq_none_iff.1 hp)];trivial
  | some p =>
   obtain⟨t,m⟩:=p;obtain⟨y,c,e1,e2,e3⟩:=ha.get s t m hp;rw[e1];have hs:s<args.size:=by rw[hlen];exact (List.getElem?_eq_some_iff.1 hp).1
   have hc:(args++Array.replicate (N - args.size) undef).getD s undef=c:=by
    rw[Array.getD_eq_getD_getElem?,Array.getElem?_append_left hs];rw[Array.getElem?_toList]at e2;rw[e2];rfl
   rw[Nat.zero_add]at e3;rw[Option.getD_some,hc];exact e3.slot
theorem A3{m:Nat}{ss:List Src}{l:aj}{s':Nat}{q':List Nat}(h:gj m mu ss l = .own s' q'):
  ∃s q,l = .own s q/\(((s,s')∈mu/\q'=q)\/∃p y rest,ss.find? (λp=>p.s==s)=some p/\q=y::rest/\y<p.sz/\s'=m/\q'=(p.o+y)::rest):=by
 cases l with
 | own s q =>
  unfold gj at h;dsimp only at h;split at h
  ·rename_i p hp;injection h with h1 h2;have n1:p.1=s:=by simpa using List.find?_some hp
   refine⟨s,_,rfl,.inl ⟨?_,h2.symm⟩⟩;have:=List.mem_of_find?_eq_some hp;rw[<-n1,<-h1];exact this
  ·split at h
   ·rename_i p hp;split at h
    ·split at h
     ·split at h
      ·injection h with h1 h2;exact⟨s,_,rfl,.inr ⟨p,_,_,hp,rfl,by assumption,h1.symm,h2.symm⟩⟩
      ·cases h
     ·cases h
    ·cases h
   ·cases h
 | al=>cases h
 | free=>cases h
 | other=>cases h
theorem afa[ae](hI:Inv w0 L0 N vs T a w L)(hC:bt P C){rs:List (Ty×Nat)}{sl:List RV}{r:(Ty.pair (cG rs) (cm ps)).den}{A0:List Value}(h:(G1 C ps rs sl).ai T r log)
  (hl:ps.length=A0.length) (hA:∀j,(∃t m,ps[j]?=some (t,m)/\m.back=true)->A0[j]?=some (a.tmps.getD j undef)) :
  ∃L' cs,ql P w a sl cs/\Left w0 w L0 L' ps rs/\im w L' ps.length 0 rs r.1 cs/\fp w L' 0 ps r.2 A0:=by
 obtain⟨R,l1,l2,rfl,h1,h⟩:=M.ak h;obtain⟨⟨m,mu⟩,l3,l4,rfl,h2,hc,rfl,_⟩:=M.ak h;simp only[Bool.and_eq_true,List.all_eq_true,Bool.not_eq_true']at hc;obtain⟨⟨⟨cF,dO⟩,fF⟩,mn⟩:=hc;have IP:∀{x:Nat} {l:List Nat},l.contains x=false->x∉l:=λh hm=>by rw[List.contains_iff_mem.2 hm]at h;cases h
 obtain⟨cs,k0,k1,k2,k3⟩:=Wi hI hC h1;have mj:=r5 h2;have cL:∀p∈R.ss,p.s∉mu.map (·.1):=λp hp hm=>IP (fF p.s hm) (List.mem_map_of_mem hp);refine⟨λk=>gj ps.length mu R.ss (L k),cs,k0,⟨hI.fr.os,hI.fr.tape,hI.fr.output,hI.fr.size,hI.fr.drawn,λk hk h0=>?_,λk hk=>by rw[hI.free k hk];rfl,λk k' s q e e'=>?_,λk s q e=>?_⟩,
  k3 _ _ (λk hk=>by rw[hk];rfl) (λk r q hr hk=>?_) (λp k i rest hp hk hi=>?_),pM hI h2 hl (λj hj=>by rw[Nat.zero_add];exact hA j hj) _ (λk hk=>by rw[hk];rfl) (λk s j q hm hk=>?_)⟩
 ·have:=hI.fr.aO k hk h0;refine⟨?_,this.2⟩;rw[this.1];rcases h0 with h0|h0<;>rw[h0]<;>rfl
 ·obtain⟨s1,q1,e1,e2⟩:=A3 e;obtain⟨s2,q2,e3,e4⟩:=A3 e';have au:∀s j,(s,j)∈mu->j<ps.length:=λs j hs=>by
   obtain⟨_,⟨t,n,h,_⟩,_⟩:=mj s j hs;exact (List.getElem?_eq_some_iff.1 (by simpa using h)).1
  rcases e2 with⟨h1,rfl⟩|⟨p,y,rest,h1,rfl,h3,rfl,rfl⟩
  ·rcases e4 with⟨h2,rfl⟩|⟨p,y,rest,h2,rfl,h3,rfl,_⟩
   ·obtain rfl:=(mj s2 s h2).2.2 s1 h1;exact hI.inj k k' _ _ e1 e3
   ·exact absurd (au _ _ h1) (Nat.lt_irrefl _)
  ·rcases e4 with⟨h2,rfl⟩|⟨p',y',e9,h2,rfl,h4,_,h5⟩
   ·exact absurd (au _ _ h2) (Nat.lt_irrefl _)
   ·injection h5 with h5 h6;subst h6;have m1:=List.mem_of_find?_eq_some h1;have m2:=List.mem_of_find?_eq_some h2;have n1:p.s=s1:=by simpa using List.find?_some h1
    have n2:p'.s=s2:=by simpa using List.find?_some h2
    by_cases hs:s1=s2
    ·subst hs;rw[h1]at h2;injection h2 with h2;subst h2;have:y=y':=by omega
     subst this;exact hI.inj k k' _ _ e1 e3
    ·have:=k2 p p' m1 m2 (by rw[n1,n2];exact hs);omega
 ·obtain⟨s1,q1,e1,e2⟩:=A3 e;rcases e2 with⟨h1,rfl⟩|⟨p,y,rest,h1,rfl,h3,rfl,rfl⟩
  ·obtain⟨_,⟨t,n,h,h'⟩,_⟩:=mj _ _ h1;exact .inr ⟨t,n,by simpa using h,h'⟩
  ·obtain⟨_,t,h2,h3,h4⟩:=k1 p (List.mem_of_find?_eq_some h1);exact .inl ⟨rfl,t,p.n,h2,.inl ⟨h3,h4⟩⟩
 ·rw[hk];have:=dO r hr;exact ae7 (IP this.2) (IP this.1)
 ·rw[hk,ae8 cF (cL p hp) hp hi];exact⟨λh=>by rw[if_pos h],λh=>by rw[if_neg (by omega)]⟩
 ·rw[hk];unfold gj;dsimp only;rw[R3 mn hm]
theorem ae9[ae](hI:Inv w0 L0 N vs T a w L){rs:List (Ty×Nat)}{sl:List RV}{r:(Ty.pair (cG rs) (cm ps)).den}{A0:List Value}(h:(A4 ps rs sl).ai T r log)
  (hl:ps.length=A0.length) (hA:∀j,(∃t m,ps[j]?=some (t,m)/\m.back=true)->A0[j]?=some (a.tmps.getD j undef)) :
  ∃L' cs,ql P w a sl cs/\Left w0 w L0 L' ps rs/\jc w L' ps.length rs r.1 cs/\fp w L' 0 ps r.2 A0:=by
 unfold A4 at h;split at h
 ·rename_i _ t n s;obtain⟨ay,rfl,h⟩:=h;have hb:=M.ak (m:=qZ s (T.getD s .dead)) h;clear h;obtain⟨⟨sb,z⟩,l3,l4,rfl,rA,h⟩:=hb;obtain⟨hv,fh⟩:=Rm hI rA;obtain⟨k,t',y⟩:=z;dsimp only at h hv;have hs:=hI.aS sb;rw[hv]at hs;split at h
  ·rename_i ht;subst ht;split at h
   ·rename_i hk;obtain⟨⟨m,mu⟩,l1,l2,rfl,h2,cF,rfl,_⟩:=M.ak h;have mj:=r5 h2;have agx:b9 (((sb,ps.length)::mu).map (·.1))=true:=cF;have au:∀s j,(s,j)∈mu->j<ps.length:=λs j hs=>by
     obtain⟨_,⟨t,n,h,_⟩,_⟩:=mj s j hs;exact (List.getElem?_eq_some_iff.1 (by simpa using h)).1
    have agX:∀s1 s2 j,(s1,j)∈(sb,ps.length)::mu->(s2,j)∈(sb,ps.length)::mu->s1=s2:=by
     intro s1 s2 j h1 h2;rcases List.mem_cons.1 h1 with h1|h1
     ·injection h1 with e1 e2;rcases List.mem_cons.1 h2 with h2|h2
      ·injection h2 with e3 e4;rw[e1,e3]
      ·exact absurd (au _ _ h2) (by omega)
     ·rcases List.mem_cons.1 h2 with h2|h2
      ·injection h2 with e3 e4;exact absurd (au _ _ h1) (by omega)
      ·exact (mj s2 j h2).2.2 s1 h1
    have bn:∀{l:aj} {s':Nat} {q':List Nat},gj ps.length ((sb,ps.length)::mu) [] l = .own s' q'->∃s1,l = .own s1 q'/\(s1,s')∈(sb,ps.length)::mu:=by
     intro l s' q' e;obtain⟨s1,q1,e1,e2⟩:=A3 e;rcases e2 with⟨h1,rfl⟩|⟨p,y,rest,h1,_⟩
     ·exact⟨s1,e1,h1⟩
     ·simp at h1
    have HQ:∀{s1 j:Nat} {q:List Nat},(s1,j)∈(sb,ps.length)::mu->gj ps.length ((sb,ps.length)::mu) [] (.own s1 q) = .own j q:=by
     intro s1 j q hm;unfold gj;dsimp only;rw[R3 agx hm]
    obtain⟨_,g,cur,e,hf,hL,hg,hz,ho⟩:=hs;rw[<-fh]at hf;refine⟨λk=>gj ps.length ((sb,ps.length)::mu) [] (L k),[a.tmps.getD s undef],⟨_,[],rfl,rfl,rfl⟩,⟨hI.fr.os,hI.fr.tape,hI.fr.output,hI.fr.size,hI.fr.drawn,λk hk h0=>?_,λk hk=>by rw[hI.free k hk];rfl,λk k' s1 q e e'=>?_,λk s1 q e=>?_⟩,
     .inr ⟨by omega,_,rfl,g,cur,e,hf,by show gj _ _ _ (L g)=_;rw[hL];exact HQ (by simp),hg,hz,?_⟩,pM hI h2 hl (λj hj=>by rw[Nat.zero_add];exact hA j hj) _ (λk hk=>by rw[hk];rfl) (λk s1 j q hm hk=>by rw[hk];exact HQ (List.mem_cons_of_mem _ hm))⟩
    ·have:=hI.fr.aO k hk h0;refine⟨?_,this.2⟩;rw[this.1];rcases h0 with h0|h0<;>rw[h0]<;>rfl
    ·obtain⟨a1,e1,e2⟩:=bn e;obtain⟨a2,e3,e4⟩:=bn e';obtain rfl:=agX _ _ _ e2 e4;exact hI.inj k k' _ _ e1 e3
    ·obtain⟨a1,e1,e2⟩:=bn e;rcases List.mem_cons.1 e2 with e2|e2
     ·injection e2 with _ e2;exact .inl ⟨e2,t',n,by simp,.inr (by omega)⟩
     ·obtain⟨_,⟨t,n,h,h'⟩,_⟩:=mj _ _ e2;exact .inr ⟨t,n,by simpa using h,h'⟩
    ·have hkn:n - 1000=k:=by omega
     rw[hkn];refine Own.move (λk hk=>⟨?_,rfl⟩) (λk d rest _ hk=>⟨by show gj _ _ _ (L k)=_;rw[hk];exact HQ (by simp),rfl⟩) ho;show gj _ _ _ (L k)=_;rcases hk with hk|⟨_,_,hk,_⟩
     ·rw[hk];rfl
     ·cases hk
   ·exact h.elim
  ·exact h.elim
 ·exact h.elim
theorem Wr{fn:Func}{sl:List RV}{cs:List Value}(hr:fn.results.toList=sl.map RV.var)(hf:ql P w a sl cs):(results fn a.tmps).run P w = .ok (oa cs) w:=by
 have hm:∀g:ResultVar->Sem Value,(∀t,g (.tmp t)=pure (a.tmps.getD t undef))->(∀s X,g (.cell s X)=(do loadVar X (<-asAddr (a.tmps.getD s undef))))->(fn.results.mapM g).run P w = .ok cs.toArray w:=by
  intro g nP Hq;rw[Array.mapM_eq_mapM_toList,hr];have:∀(sl:List RV) (cs:List Value),ql P w a sl cs->((sl.map RV.var).mapM g).run P w = .ok cs w:=by
   intro sl;induction sl with
   | nil=>intro cs h;obtain rfl:cs=[]:=h;simp
   | cons s sl ih =>
    intro cs h;obtain⟨c,a7,rfl,h1,h2⟩:=h;have aJ:(g s.var).run P w = .ok c w:=by
     cases s with
     | tmp t =>
      obtain rfl:c=_:=h1;show (g (.tmp t)).run P w=_;rw[nP];rfl
     | cell t X =>
      obtain⟨A,h3,h4⟩:=h1;show (g (.cell t X)).run P w=_;rw[Hq,h3];simp[asAddr,h4]
    simp only[List.map_cons,List.mapM_cons,Sem.run_bind,aJ,Result.andThen_ok,ih a7 h2,Sem.run_pure]
  have h2:=this sl cs hf;simp only[Sem.run_map,h2,Result.andThen_ok]
 unfold results;rw[Sem.run_bind,hm _ (λt=>rfl) (λs X=>rfl),Result.andThen_ok,Sem.run_pure]
 match cs with
 | []=>rfl
 | [s]=>rfl
 | s::s'::l=>rfl
theorem ai7[ae]{bf:dx}{aO:Nat->Option Nat}{hx:Hints}{rs:List (Ty×Nat)}{sl:List RV}{c:Code}{f:FuncId}{fn:Func}(lb:P.follows .mixedOrders=true)(hC:bt P C)(dJ:fA P bf)
  (hf : P.funcs[f]? = some fn) (fG : (fn.name == "runtime.NumGoroutine") = false) (hb : fn.body = some c) (hN : fn.ntmps = N) (hr : fn.results.toList = sl.map RV.var) (lj : ps.length <= N) :
  aq P f (VB C bf vs N aO hx ps rs sl c):=by
 refine⟨⟨fn,hf,fG,by rw[hb];rfl⟩,λx r eH w L0 args hl ha=>?_⟩;change jb w L0 ps at hl;change dE w L0 0 ps x args.toList at ha;have hlen:args.size=ps.length:=by have:=ha.len;rw[<-this];simp
 refine calls_of_wp hf hb ?_;rw[hN];have aX:qO P w L0 vs (vf C bf vs N aO hx ps):=akC lb hC dJ rfl;let A0:Array Value:=args++Array.replicate (N - args.size) undef;have hJ:J w L0 vs (vf C bf vs N aO hx ps) A0 (aU N ps x) { tmps:=args++Array.replicate (N - args.size) undef,defers:=[] } w:=⟨⟨L0,akB hl ha lj vs⟩,λ_ _=>rfl⟩;refine wp_mono (oP (A0:=A0) aX eH _ _ hJ) ?_
 rintro e a' w' ⟨ex,T',rfl,hk,⟨L,hI⟩,rL⟩
 have Tw:∀j,(∃t m,ps[j]?=some (t,m)/\m.back=true)->args.toList[j]?=some (a'.tmps.getD j undef):=λj hj=>by
  have hm:(vf C bf vs N aO hx ps).pins j=true:=by
   show (iM 0 ps).contains j=true;rw[List.contains_iff_mem];exact VL.2 ⟨Nat.zero_le _,by simpa using hj⟩
  obtain⟨t,n,hj,_⟩:=hj;have au:j<args.size:=by rw[hlen];exact (List.getElem?_eq_some_iff.1 hj).1
  rw[rL j hm];show _=some ((args++Array.replicate (N - args.size) undef).getD j undef);rw[Array.getD_eq_getD_getElem?,Array.getElem?_append_left au];simp[au]
 have ur:∀{log:List Nat},(bif va rs then G1 C ps rs sl else A4 ps rs sl).ai T' r log->a'.defers=[]/\∃v,(results fn a'.tmps).run P w' = .ok v w'/\∃cs L',Ending.returned v = .returned (oa cs)/\Left w w' L0 L' ps rs/\jc w' L' ps.length rs r.1 cs/\fp w' L' 0 ps r.2 args.toList:=by
  intro log aJ;cases uC:va rs with
  | true =>
   rw[uC]at aJ;obtain⟨L',cs,h0,h1,h2,h3⟩:=afa hI hC aJ (A0:=args.toList) (by simpa using hlen.symm) Tw;exact⟨hI.dy,_,Wr hr h0,_,L',rfl,h1,(jc.low uC).2 h2,h3⟩
  | false =>
   rw[uC]at aJ;obtain⟨L',cs,h0,h1,h2,h3⟩:=ae9 hI aJ (A0:=args.toList) (by simpa using hlen.symm) Tw;exact⟨hI.dy,_,Wr hr h0,_,L',rfl,h1,h2,h3⟩
 cases ex with
 | ext i=>cases hk
 | bF =>
  obtain⟨r',log,h1,h2⟩:=M.kz hk;injection h2 with h2;subst h2;exact ur h1
 | ret =>
  obtain⟨r',log,h1,h2⟩:=M.kz hk;injection h2 with h2;subst h2;exact ur h1
end
end Go.Proofs.YtbhogmdpmkpinaaGreat.P.Am
