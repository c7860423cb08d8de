/- A part of the proof: Am61,Am62,Am63,Am64,Am30,Am31. No conditions. -/
import Derived.Test.YthfgcmoipebheaaGreatPG6
import Derived.Test.YthfgcmoipebheaaGreatPG5
set_option linter.unusedVariables false
set_option linter.unusedSimpArgs false
namespace Go.Proofs.YthfgcmoipebheaaGreat.P.Am
variable{log:List Nat}{ups:List (Nat×V)}{d n:Nat}{o:Oper}{m:M (List (Nat×V))}{t:Ty}{X:TypeId}{ps:List (Ty×Mode)}{args:Array Operand}{cG:Array TypeId}{mu:List (Nat×Nat)}
def tp(N:Nat):List Nat->M (List (Nat×V))->M (List (Nat×V))
 | [],m=>m
 | s::l,m=>.get s λv=>match v with
  | .box none n t x =>
   if s<N then
    ig true s s [] (((tp N l m).eR [(s,.rp none t x)]).bind λups=>.ret ((s,.rp none t x)::ups))
   else tp N l m
  | _=>tp N l m
def xB(N t:Nat)(m:M (List (Nat×V))):M (List (Nat×V)):=
 .get t λv=>match v with
  | .d none 0 (.cap none te) x=>cond (decide (t<N)) (.cL te x λy=>(m.eR [(t,.rp none te y)]).bind λups=>.ret ((t,.rp none te y)::ups)) m
  | _=>m
def vr:List Operand->M ((t:Ty)×t.den)
 | []=>.ret ⟨.unit,()⟩
 | .tmp s::l=>.get s λv=>match v with
  | .rp none t x=>(vr l).bind λr=>.ret ⟨.pair (.cap none t) r.1,(some x,r.2)⟩
  | _=>.fail
 | .const (.pointer none)::l=>(vr l).bind λr=>.ret ⟨.pair (.cap none .unit) r.1,((none:Option Unit),r.2)⟩
 | _=>.fail
def WS(d:Nat)(g:FuncId)(gK:List Operand):M (List (Nat×V)):=
 .bn (!(g==jZ)) ((vr gK).bind λz=>.ret [(d,.d none 0 (.cap (some g) z.1) (some z.2))])
def gy:(ps:List (Ty×Mode))->(T:Ty)->T.den->Option (dn ps).den
 | [],.unit,_=>some ()
 | (t,.ro)::ps,.pair (.cap k t') r,y=>if h:Ty.cap k t'=t then (gy ps r y.2).map λz=>(h▸y.1,z)else none
 | _,_,_=>none
def vl(C:Ctx):(ps:List (Ty×Mode))->List Operand->(T:Ty)->T.den->M (lv ps)
 | ps,[],T,y=>match gy ps T y with
  | some x=>.ret ⟨x,[],[]⟩
  | none=>.fail
 | (t,.ro)::ps,x::xs,T,y=>(py C t x).bind λu=>(vl C ps xs T y).bind λr=>.ret ⟨(u.1,r.x),u.2++r.ls,r.mu⟩
 | _,_,_,_=>.fail
def JO(C:Ctx)(bj:dI)(vs:List Nat)(d s:Nat)(args:List Operand):M (List (Nat×V)):=
 .get s λv=>match v with
  | .d none 0 (.cap (some g) T) y=>.cL T y λy=>match bj g with
   | none=>.fail
   | some F=>(vl C F.ps args T y).bind λA=>.cL (.pair (cX F.rs) (cD F.ps)) (F.al A.x) λr=>match mg vs A.ls F.rs r.1 with
    | some v=>.ret [(d,v)]
    | none=>.fail
  | _=>.fail
section
variable{P:Program}{C:Ctx}{w w' w0:World}{L L' L0:Nat->ak}{s N:Nat}{vs:List Nat}{T T':List V}{a:Act}
theorem LS{T:List V}{s:Nat}{u:V}(bh:s<T.length)(z:Nat):(T.set s u).getD z .dead=(eE [(s,u)] z).getD (T.getD z .dead):=by
 simp only[eE];rw[aJ];by_cases h1:z=s
 ·subst h1;simp[bh]
 ·have e1:(s==z)=false:=by simpa using Ne.symm h1
  rw[e1];simp[h1]
theorem Inv.aqp[ae](hI:Inv w0 L0 N vs T a w L){s:Nat}{x:t.den}(hs:s<N)(hv:T.getD s .dead = .box none n t x)(ag:∀z,(T.getD z .dead).on s=false):
  ∃L',Inv w0 L0 N vs (T.set s (.rp none t x)) a w L':=by
 have bh:s<T.length:=by rw[hI.len];exact hs
 have jM:fD (λz q=>cond (z==s) ak.au (.own z q)) (λz=>z=s):=by
  refine⟨λz q hX=>?_,λz q z' q' hX h=>?_,λz q z2 q2 z' q' h1 h2=>?_,λz q=>?_⟩
  ·have:(z==s)=false:=by simpa using hX
   rw[this];rfl
  ·have:(z==s)=true:=by simpa using hX
   rw[this]at h;cases h
  ·cases h3:z==s with
   | true=>rw[h3]at h1;cases h1
   | false =>
    cases h4:z2==s with
    | true=>rw[h4]at h2;cases h2
    | false =>
     rw[h3]at h1;rw[h4]at h2;simp only[cond_false]at h1 h2;rw[<-h2]at h1;injection h1 with e1 e2;exact⟨e1,e2⟩
  ·cases z==s<;>simp
 refine⟨aW (λz q=>cond (z==s) ak.au (.own z q)) w L (λ_=>.free),Inv.gI hI jM (Wd.refl hI _) (λ_ _ _ _ _ h=>by cases h) hI.size (by simp[hI.len]) hI.dO ?_ ?_ ?_ ?_ ?_⟩
 ·intro k s' q bP h;subst bP;unfold aW at h;split at h
  ·obtain⟨s0,q0,e0,f0⟩:=eS h;cases h3:s0==s' with
   | true=>rw[h3]at f0;cases f0
   | false =>
    rw[h3]at f0;simp only[cond_false]at f0;injection f0 with f0 _;rw[f0]at h3;simp at h3
  ·cases h
 ·intro z r hz ho hr;subst hr;rw[ag z]at ho;cases ho
 ·intro z hz;rw[aJ,if_neg (λh=>hz h.1)];exact⟨rfl,rfl⟩
 ·intro z r hz ho;subst hz;rw[aJ,if_pos ⟨rfl,bh⟩]at ho;simp[V.on,V.root]at ho
 ·intro z hz;subst hz;rw[aJ,if_pos ⟨rfl,bh⟩];have wJ:=hI.aX z;rw[hv]at wJ;obtain⟨_,g,cur,e,h2,h3,h4,h5,h6⟩:=wJ;have ba:∀k q,L k = .own z q->aW (λz' q=>cond (z'==z) ak.au (.own z' q)) w L (λ_=>.free) k = .au:=by
   intro k q hk;rw[dc hI (by rw[hk];simp),hk];show cond _ _ _=_;rw[beq_self_eq_true];rfl
  refine⟨by simp,g,0,cur.toList,h2,.inl (ba g [] h3),?_,λi v hv=>?_⟩
  ·refine Own.eH (Own.ff (L':=aW (λz' q=>cond (z'==z) ak.au (.own z' q)) w L (λ_=>.free)) (s':=z) (q2:=[]) (o2:=0) (Nat.zero_le _) (λk hk=>?_) (λk d rest _ hk=>⟨rfl,λh=>absurd h (Nat.not_lt_zero _),λ_=>.inl (ba k _ hk)⟩) h6);rcases hk with hk|⟨_,_,hk,_⟩
   ·exact⟨.inl (ew hI hk),rfl⟩
   ·cases hk
  ·rw[Nat.zero_add,JX h4];simpa using hv
theorem EG[ae]:{l:List Nat}->{T:List V}->{L:Nat->ak}->{ups:List (Nat×V)}->{log:List Nat}->Inv w0 L0 N vs T a w L->(tp N l m).aj T ups log ->
  ∃T1 L1 bK log2,Inv w0 L0 N vs T1 a w L1/\m.aj T1 bK log2/\ai T ups=ai T1 bK
 | [],T,L,ups,log,hI,h=>⟨T,L,ups,log,hI,h,rfl⟩
 | s::l,T,L,ups,log,hI,h=>by
  simp only[tp]at h;obtain⟨aD,rfl,h⟩:=h;dsimp only at h;split at h
  ·rename_i n t x hv;split at h
   ·rename_i b8;obtain⟨cQ,log2,h⟩:=jI h;obtain⟨bK,l3,l4,rfl,h1,h2⟩:=M.aq h;obtain⟨rfl,_⟩:=h2;have bh:s<T.length:=by rw[hI.len];exact b8
    obtain⟨fH,h1⟩:=oR (T':=T.set s (.rp none t x)) (by simp) (λz hz=>by
     simp only[List.map_cons,List.map_nil,List.mem_cons,List.not_mem_nil,or_false]at hz;rw[hz];exact bh) (LS bh) _ h1
    obtain⟨L1,bz⟩:=Inv.aqp hI b8 hv (λz=>by
      by_cases hz:z=s
      ·subst hz;rw[hv];rfl
      ·simpa using cQ z hz)
    obtain⟨T1,L2,jv,jj,k1,k2,k3⟩:=EG bz h1;exact⟨T1,L2,jv,jj,k1,k2,k3⟩
   ·exact EG hI h
  ·exact EG hI h
theorem ML[ae]{t:Nat}(hI:Inv w0 L0 N vs T a w L)(h:(xB N t m).aj T ups log):
  ∃T1 L1 bK log2,Inv w0 L0 N vs T1 a w L1/\m.aj T1 bK log2/\ai T ups=ai T1 bK:=by
 unfold xB at h;obtain⟨aD,rfl,h⟩:=h;dsimp only at h;split at h
 ·rename_i te x hv;cases hc:decide (t<N)with
  | false=>rw[hc]at h;exact⟨T,L,ups,_,hI,h,rfl⟩
  | true =>
   rw[hc,cond_true]at h;obtain⟨y,hy,h⟩:=h;obtain⟨bK,l3,l4,rfl,h1,h2⟩:=M.aq h;clear h;obtain⟨rfl,_⟩:=h2;have htN:=of_decide_eq_true hc;have bh:t<T.length:=by rw[hI.len];exact htN
   obtain⟨fH,h1⟩:=oR (T':=T.set t (.rp none te y)) (by simp) (λz hz=>by
     simp only[List.map_cons,List.map_nil,List.mem_cons,List.not_mem_nil,or_false]at hz;rw[hz];exact bh) (LS bh) _ h1
   have jM:fD (λz q=>ak.own z q) (λz=>z=t):=by
    refine⟨λz q _=>rfl,λz q z' q' hX h=>?_,λz q z2 q2 z' q' h1 h2=>?_,λz q=>?_⟩
    ·injection h with h _;rw[<-h];exact hX
    ·rw[<-h2]at h1;injection h1 with e1 e2;exact⟨e1,e2⟩
    ·simp
   have cu:∀z,(T.getD z .dead).on t=true->(T.getD t .dead).aO=false:=λz _=>by rw[hv];rfl
   refine⟨T.set t (.rp none te y),aW (λz q=>ak.own z q) w L (λ_=>.free),bK,fH,Inv.gI hI jM (Wd.refl hI _) (λ_ _ _ _ _ h=>by cases h) hI.size (by simp[hI.len]) hI.dO ?_ ?_ ?_ ?_ ?_,h1,rfl⟩
   ·intro k s' q bP h;subst bP;unfold aW at h;split at h
    ·obtain⟨s0,q0,e0,f0⟩:=eS h;injection f0 with f0 _;have:=hI.owner k _ _ e0;rw[f0,hv]at this;cases this
    ·cases h
   ·intro z r _ ho hr;subst hr;exact cu z ho
   ·intro z hz;rw[aJ,if_neg (λh=>hz h.1)];exact⟨rfl,rfl⟩
   ·intro z r hz ho;subst hz;rw[aJ,if_pos ⟨rfl,bh⟩]at ho;simp[V.on,V.root]at ho
   ·intro z hz;subst hz;rw[aJ,if_pos ⟨rfl,bh⟩];have wJ:=hI.aX z;rw[hv]at wJ;obtain⟨_,cs,hf,ho⟩:=wJ;have hr:=Own.eH ho;rw[hy]at hr;simp only[Rd]at hr;have dj:cs=[a.tmps.getD z undef]:=hf;rcases hr with⟨h,_⟩|⟨y',es,e1,e2,g,o,e3,e4,e5⟩
    ·cases h
    ·injection e1 with e1;subst e1;rw[dj]at e3;have e3:=(List.cons.inj e3).1;have hm:∀k,SL L none k->SL (aW (λz q=>ak.own z q) w L (λ_=>.free)) none k/\w.heap[k]?=w.heap[k]?:=by
      rintro k (hk|⟨_,_,hk,_⟩)
      ·exact⟨.inl (ew hI hk),rfl⟩
      ·cases hk
     exact⟨by simp,g,o,es,e3,(hm g e4).1,Rd.move hm e2,e5⟩
 ·exact⟨T,L,ups,_,hI,h,rfl⟩
theorem JW[ae](hI:Inv w0 L0 N vs T a w L):{l:List Operand}->{z:(t:Ty)×t.den}->{log:List Nat}->(vr l).aj T z log->Rd w (SL L none) z.1 z.2 (l.map a.eval)
 | [],z,log,h=>by
  obtain⟨rfl,_⟩:=h
  first|rfl|simp[Rd]
 | x::l,z,log,h=>by
  unfold vr at h;split at h
  ·rename_i he;cases he
  ·rename_i s l' he;injection he with e1 e2;subst e1 e2;obtain⟨aD,rfl,h⟩:=h;dsimp only at h;split at h
   ·rename_i t x hv;obtain⟨r,l1,l2,rfl,h1,h2⟩:=M.aq h;obtain⟨rfl,_⟩:=h2;have hs:=hI.aX s;rw[hv]at hs;obtain⟨_,g,o,cs,e1,e2,e3,e4⟩:=hs;have ih:=JW hI h1;simp only[Rd];refine⟨[a.eval (.tmp s)],l.map a.eval,rfl,.inr ⟨x,cs,rfl,e3,g,o,?_,e2,e4⟩,ih⟩;show [a.tmps.getD s undef]=_;rw[e1]
   ·exact h.elim
  ·rename_i l' he;injection he with e1 e2;subst e1 e2;obtain⟨r,l1,l2,rfl,h1,h2⟩:=M.aq h;obtain⟨rfl,_⟩:=h2;have ih:=JW hI h1;simp only[Rd];refine⟨[.pointer none],l.map a.eval,rfl,?_,ih⟩
   first|exact .inl ⟨rfl,rfl⟩|simp[sh]
  ·exact h.elim
theorem arF[ae](hI:Inv w0 L0 N vs T a w L){g:FuncId}{gK:Array Operand}   
  (ho:o.op = .makeFunc (.func g) #[] gK) (aA:o.dst=some d) (hd:d<N) (hid:(T.getD d .dead).idle=true)
  (h:(WS d g gK.toList).aj T ups log):Step P o w0 L0 N vs (ai T ups) a w:=by
 obtain⟨hg,h⟩:=h;obtain⟨z,l1,l2,rfl,h1,h2⟩:=M.aq h;obtain⟨rfl,_⟩:=h2;have hr:=JW hI h1;have cc:aP P o vs T a w L d (.d none 0 (.cap (some g) z.1) (some z.2)):=by
  refine aP.still hI (c:=.func (.func g) #[] (gK.map a.eval)) ?_ (λr=>rfl) ?_
  ·simp[execOp,ho,Instr.makeFunc]
  ·refine⟨by simp,[.func (.func g) #[] (gK.map a.eval)],rfl,?_⟩;simp only[Own,Rd];refine .inr ⟨z.2,gK.toList.map a.eval,rfl,hr,by simpa using hg,?_⟩;show [_]=[_];congr 2;apply Array.ext';simp
 intro K Q hK;exact aP.inv hI hd hid aA cc hK
theorem WK{S:Nat->Prop}{L1:Nat->ak}(hS:∀k,S k->L1 k = .au):{ps:List (Ty×Mode)}->{t:Ty}->{y:t.den}->{x:(dn ps).den}->{i:Nat}->{es:List Value}->gy ps t y=some x->Rd w S t y es->dT w L1 i ps x es
 | [],.unit,y,x,i,es,h,hr=>by
  simp only[Rd]at hr;subst hr;rfl
 | (t,.ro)::ps,.pair (.cap k t') r,y,x,i,es,h,hr=>by
  simp only[gy]at h;split at h
  ·rename_i ht;subst ht;obtain⟨z,hz,h⟩:∃z,gy ps r y.2=some z/\(y.1,z)=x:=by
    cases hc:gy ps r y.2 with
    | none=>rw[hc]at h;cases h
    | some z=>rw[hc]at h;injection h with h;exact⟨z,rfl,h⟩
   subst h;simp only[Rd]at hr;obtain⟨c0,c1,rfl,h0,h1⟩:=hr;have XS:Rd w S (.cap k t') y.1 c0:=by simp only[Rd];exact h0
   have hl:=Rd.len XS
   match c0,hl with
   | [c],_ =>
    refine⟨c,c1,[c],rfl,rfl,?_,WK hS hz h1⟩;exact Own.dM (Rd.move (λk hk=>⟨hS k hk,rfl⟩) XS)
  ·cases h
 | [],.int _,_,_,_,_,h,_|[],.bool,_,_,_,_,h,_|[],.str,_,_,_,_,h,_|[],.raw _,_,_,_,_,h,_|[],.pair _ _,_,_,_,_,h,_|[],.agg _,_,_,_,_,h,_|[],.slice _ _,_,_,_,_,h,_|[],.cap _ _,_,_,_,_,h,_=>by simp[gy]at h
 | (_,.mut _)::_,_,_,_,_,_,h,_|(_,.ptr _)::_,_,_,_,_,_,h,_|(_,.bU _)::_,_,_,_,_,_,h,_=>by simp[gy]at h
 | (_,.ro)::_,.int _,_,_,_,_,h,_|(_,.ro)::_,.bool,_,_,_,_,h,_|(_,.ro)::_,.str,_,_,_,_,h,_|(_,.ro)::_,.raw _,_,_,_,_,h,_|(_,.ro)::_,.unit,_,_,_,_,h,_|(_,.ro)::_,.agg _,_,_,_,_,h,_|(_,.ro)::_,.slice _ _,_,_,_,_,h,_|(_,.ro)::_,.cap _ _,_,_,_,_,h,_=>by simp[gy]at h
 | (_,.ro)::_,.pair (.int _) _,_,_,_,_,h,_|(_,.ro)::_,.pair .bool _,_,_,_,_,h,_|(_,.ro)::_,.pair .str _,_,_,_,_,h,_|(_,.ro)::_,.pair (.raw _) _,_,_,_,_,h,_|(_,.ro)::_,.pair .unit _,_,_,_,_,h,_|(_,.ro)::_,.pair (.agg _) _,_,_,_,_,h,_|(_,.ro)::_,.pair (.slice _ _) _,_,_,_,_,h,_|(_,.ro)::_,.pair (.pair _ _) _,_,_,_,_,h,_=>by simp[gy]at h
theorem WL:{ps:List (Ty×Mode)}->{t:Ty}->{y:t.den}->{x:(dn ps).den}->gy ps t y=some x->∀(j:Nat) (u:Ty) (m:Mode),ps[j]?=some (u,m)->m = .ro
 | [],_,_,_,_,j,u,m,hj=>by simp at hj
 | (t,.ro)::ps,.pair (.cap k t') r,y,x,h,j,u,m,hj=>by
  cases j with
  | zero=>simp at hj;exact hj.2.symm
  | succ j =>
   simp only[gy]at h;split at h
   ·cases hc:gy ps r y.2 with
    | none=>rw[hc]at h;cases h
    | some z=>exact WL hc j u m (by simpa using hj)
   ·cases h
 | (_,.mut _)::_,_,_,_,h,_,_,_,_|(_,.ptr _)::_,_,_,_,h,_,_,_,_|(_,.bU _)::_,_,_,_,h,_,_,_,_=>by simp[gy]at h
 | (_,.ro)::_,.int _,_,_,h,_,_,_,_|(_,.ro)::_,.bool,_,_,h,_,_,_,_|(_,.ro)::_,.str,_,_,h,_,_,_,_|(_,.ro)::_,.raw _,_,_,h,_,_,_,_|(_,.ro)::_,.unit,_,_,h,_,_,_,_|(_,.ro)::_,.agg _,_,_,h,_,_,_,_|(_,.ro)::_,.slice _ _,_,_,h,_,_,_,_|(_,.ro)::_,.cap _ _,_,_,h,_,_,_,_=>by simp[gy]at h
 | (_,.ro)::_,.pair (.int _) _,_,_,h,_,_,_,_|(_,.ro)::_,.pair .bool _,_,_,h,_,_,_,_|(_,.ro)::_,.pair .str _,_,_,h,_,_,_,_|(_,.ro)::_,.pair (.raw _) _,_,_,h,_,_,_,_|(_,.ro)::_,.pair .unit _,_,_,h,_,_,_,_|(_,.ro)::_,.pair (.agg _) _,_,_,h,_,_,_,_|(_,.ro)::_,.pair (.slice _ _) _,_,_,h,_,_,_,_|(_,.ro)::_,.pair (.pair _ _) _,_,_,h,_,_,_,_=>by simp[gy]at h
theorem Wr[ae](hI:Inv w0 L0 N vs T a w L){y:t.den}{es:List Value}(hy:Rd w (SL L none) t y es):{ps:List (Ty×Mode)}->{xs:List Operand}->{A:lv ps}->{log:List Nat}->(i:Nat)->(vl C ps xs t y).aj T A log ->
  (∀r∈A.ls,(T.getD r .dead).deep=true)/\(∀(j:Nat) (u:Ty) (m:Mode),ps[j]?=some (u,m)->m = .ro) /\
  ∀L1:Nat->ak,(∀k,L k = .au->L1 k = .au)->(∀k r q,r∈A.ls->L k = .own r q->L1 k = .au)->dT w L1 i ps A.x (xs.map a.eval++es)
 | ps,[],A,log,i,h=>by
  unfold vl at h;split at h
  ·rename_i x hx;obtain⟨rfl,_⟩:=h;refine⟨by simp,WL hx,λL1 H1 _=>?_⟩;exact WK (λk hk=>by
    rcases hk with hk|⟨_,_,hk,_⟩
    ·exact H1 k hk
    ·cases hk) hx hy
  ·exact h.elim
 | (u,.ro)::ps,x::xs,A,log,i,h=>by
  simp only[vl]at h;obtain⟨⟨z,ls⟩,l1,l2,rfl,h1,h⟩:=M.aq h;obtain⟨A',l3,l4,rfl,h2,h⟩:=M.aq h;obtain⟨rfl,_⟩:=h;obtain⟨cells,k1,k2,k3⟩:=vk hI h1;obtain⟨j1,j2,j3⟩:=Wr hI hy (i+1) h2;refine⟨λr hr=>?_,λj u' m hj=>?_,λL1 H1 H2=>?_⟩
  ·rcases List.mem_append.1 hr with hr|hr
   ·exact k2 r hr
   ·exact j1 r hr
  ·cases j with
   | zero=>simp at hj;exact hj.2.symm
   | succ j=>exact j2 j u' m (by simpa using hj)
  ·exact⟨a.eval x,_,cells,rfl,k1,Own.dM (k3 _ H1 (λk r q hr hk=>H2 k r q (List.mem_append_left _ hr) hk)),j3 L1 H1 (λk r q hr hk=>H2 k r q (List.mem_append_right _ hr) hk)⟩
 | [],_::_,_,_,_,h=>h.elim
 | (_,.mut _)::_,_::_,_,_,_,h=>h.elim
 | (_,.ptr _)::_,_::_,_,_,_,h=>h.elim
 | (_,.bU _)::_,_::_,_,_,_,h=>h.elim
theorem aqZ{s:Nat}{f:FuncId}{fn:Func}{gK:Array Value}(KW:o.op = .call { callee:=.value (.tmp s),args,argTypes:=cG })
  (hs : a.tmps.getD s undef = .func (.func f) #[] gK) (hf : P.funcs[f]? = some fn) (gf : (fn.name == "runtime.NumGoroutine") = false) (hb : fn.body.isNone = false) : (execOp a.eval o).run P w = .ok (.enter f (args.map a.eval ++ gK)) w := by
 have h1 : ¬ fn.name = "runtime.NumGoroutine" := by simpa using gf
 have h2:¬fn.body=none:=by cases hx:fn.body<;>simp_all
 have h3:a.eval (.tmp s) = .func (.func f) #[] gK:=hs;unfold execOp;simp[KW,resolve,Deferred.ofValue,invoke,callFunc,hf,h1,h2,h3]
theorem ary[ae](hI:Inv w0 L0 N vs T a w L){bj:dI}(ed:fY P bj){s:Nat}{d:Nat}  
  (ho:o.op = .call { callee:=.value (.tmp s),args,argTypes:=cG }) (aA:o.dst=some d) (hd:d<N) (hid:(T.getD d .dead).idle=true)
  (h:(JO C bj vs d s args.toList).aj T ups log):Step P o w0 L0 N vs (ai T ups) a w:=by
 unfold JO at h;obtain⟨aD,rfl,h⟩:=h;dsimp only at h;split at h
 ·rename_i g t y0 hv;obtain⟨y,hy,h⟩:=h;split at h
  ·exact h.elim
  ·rename_i F hF;obtain⟨⟨fn,iw,gf,mX⟩,aH⟩:=ed g F hF;have hb:=M.aq h;clear h;obtain⟨A,l1,l2,rfl,h1,h⟩:=hb;have hs:=hI.aX s;rw[hv]at hs;obtain⟨_,cs,hf,bT⟩:=hs;have bD:=Own.eH bT;rw[hy]at bD;simp only[Rd]at bD;have dj:cs=[a.tmps.getD s undef]:=hf;rcases bD with⟨h0,_⟩|⟨y',es,e1,e2,e3⟩
   ·cases h0
   injection e1 with e1;subst e1;have e3:cs=[.func (.func g) #[] es.toArray]:=e3.2;rw[dj]at e3;have e3:=(List.cons.inj e3).1;obtain⟨er,wI,gQ⟩:=Wr hI e2 0 h1;have aT:=aqZ (P:=P) (a:=a) (w:=w) ho e3 iw gf mX;have lL:∀r∈A.ls,r≠d:=λr hr=>dm hid (V.fg (er r hr));obtain⟨r,fa,h⟩:=h;dsimp only at h;split at h
   ·rename_i v cS;obtain⟨rfl,_⟩:=h;intro K Q hK;unfold Oper.wp;rw[aT,Oper.upon_enter];have ni:jB w (λk=>cN none A.ls (L k)) F.ps:=by
     refine⟨λk hk=>by rw[hI.free k hk];rfl,λk k' s q h h'=>?_,λk s q h=>?_,ae.aV hI.fr.gP λk hk h0=>⟨?_,(hI.fr.aV k hk h0).2⟩⟩
     ·obtain⟨r1,e1,e2⟩:=lq h;cases e1
     ·obtain⟨r1,e1,e2⟩:=lq h;cases e1
     ·rw[(hI.fr.aV k hk h0).1];rcases h0 with h0|h0<;>rw[h0]<;>simp[cN]
    have dK:=gQ (λk=>cN none A.ls (L k)) (λk hk=>by rw[hk];rfl) (λk r q hr hk=>by
     rw[hk];unfold cN;dsimp only;rw[if_pos (by simpa using hr)])
    refine Calls.mono (aH A.x r fa w _ (args.map a.eval++es.toArray) ni (by simpa using dK)) ?_
    rintro e w' ⟨bl,L',rfl,bd,cc,jR⟩
    dsimp only;rw[aA];refine hK _ _ (dJ none F.ps.length d L L') ?_;have nr:∀(j:Nat) (t:Ty) (m:Mode),F.ps[j]?=some (t,m)->m.back=true->False:=by
     intro j t m hj hm;rw[wI j t m hj]at hm;cases hm
    have bW:(ai T [(d,v)]).getD d .dead=v:=by
     show (T.set d v).getD d .dead=v;rw[aJ,if_pos ⟨rfl,by rw[hI.len];exact hd⟩]
    have bt:∀s,s≠d->(ai T [(d,v)]).getD s .dead=T.getD s .dead:=by
     intro s hs;show (T.set d v).getD s .dead=_;rw[aJ,if_neg (λe=>hs e.1)]
    obtain⟨k1,k2,k3⟩:=xy (T':=ai T [(d,v)]) (d:=d) hI bd rfl (λr hr=>by rw[bt r (lL r hr)];exact er r hr) cc cS;exact Inv.called hI hd hid rfl (λr i h=>by cases h) bd (by rw[cC,hI.len]) (λj t n hj hm=>(nr j t n hj hm).elim) (λr i h=>by cases h) (λs r i h=>by cases h) (λs hs _=>bt s hs) bW k1 k2 (λr i h=>by cases h) k3
   ·exact h.elim
 ·exact h.elim
end
def ql(vs:List Nat)(N:Nat):List Nat->M (List (Nat×V))->M (List (Nat×V))
 | [],m=>m
 | s::l,m=>.get s λv=>match v with
  | .view r p t=>(mf s v).bind λz=>cond (decide (s<N)&&fy vs (.d z.1 0 z.2.1 z.2.2)&&z.1 != some s)
    (((ql vs N l m).eR [(s,.d z.1 0 z.2.1 z.2.2)]).bind λups=>.ret ((s,.d z.1 0 z.2.1 z.2.2)::ups)) (ql vs N l m)
  | _=>ql vs N l m
def Mh:V:=.d none 0 (.cap (some jZ) .unit) none
def isNil:V->Bool
 | .d none 0 (.cap (some f) .unit) _=>f==jZ
 | _=>false
def JV(d:Nat)(l:List Operand)(m:M (List (Nat×V))):M (List (Nat×V)):=match l with
 | [.tmp s]=>.get s λv=>cond (isNil v) (.ret [(d,.d none 0 (.int .i64) (0:Int))]) m
 | _=>m
def J5(C:Ctx)(vs:List Nat)(N d:Nat)(hint:Bool)(X:TypeId)(s:Nat)(lo hi:Option Operand)(m:M (List (Nat×V))):M (List (Nat×V)):=
 .get s λv=>cond (isNil v) ((jn C lo).bind λl=>(jn C hi).bind λh=>.bn (l.getD 0==0&&h.getD 0==0) (match C.ty X with
   | some (.slice _ _)=>.ret [(d,Mh)]
   | _=>.fail))
  (cond hint (match v with
   | .d none (n+1) (.slice e t) xs=>(jn C lo).bind λl=>(jn C hi).bind λh=>cond (l.getD 0==0&&h==some 0 && !vs.contains s&&decide (s≠d)) (match C.ty X with
     | some (.slice e' t')=>cond (decide (e'=e/\t'=t)) (.ret [(s,.dead),(d,.d none (n+1) (.slice e t) [])]) .fail
     | _=>.fail) .fail
   | _=>m) m)
def Mg(C:Ctx)(d:Nat)(hint:Bool)(X:TypeId)(x:Operand)(m:M (List (Nat×V))):M (List (Nat×V)):=match x with
 | .tmp s=>cond hint (.get s λv=>cond (isNil v) (match C.ty X with
   | some (.slice e t)=>.ret [(d,.d none (t.depth+1) (.slice e t) [])]
   | _=>.fail) m) m
 | _=>m
def Nu(C:Ctx)(d:Nat)(X X2:TypeId)(s x:Operand)(m:M (List (Nat×V))):M (List (Nat×V)):=match s with
 | .tmp s=>.get s λv=>cond (isNil v) (match C.ty X,C.ty X2 with
   | some (.slice e t),some (.int _)=>(cI C X2 x).bind λu=>match u with
    | .d _ _ (.int .i64) n=>.bn (decide (0<n)&&decide (t.sz≠0)&&decide (n*C.bytes e<=140737488355328)&&decide (n<=140737488355328)) (.ret [(d,.d none (t.depth+1) (.slice e t) (List.replicate n.toNat t.zero))])
    | _=>.fail
   | _,_=>.fail) m
 | _=>m
section
variable{P:Program}{C:Ctx}{w w' w0:World}{L L' L0:Nat->ak}{s N:Nat}{vs:List Nat}{T T':List V}{a:Act}
theorem D1[ae](hI:Inv w0 L0 N vs T a w L){s:Nat}(h:isNil (T.getD s .dead)=true):a.tmps.getD s undef = .slice none 0 0:=by
 have hs:=hI.aX s;generalize T.getD s .dead=v at h hs;unfold isNil at h;split at h
 ·rename_i f x;obtain⟨_,cs,hf,ho⟩:=hs;have hr:=Own.eH ho;simp only[Rd]at hr;have hf:cs=[a.tmps.getD s undef]:=hf;rcases hr with⟨_,hr⟩|⟨_,_,_,_,hr⟩
  ·rw[hf]at hr;have hr:=(List.cons.inj hr).1;rw[hr];show cond (f==jZ) _ _=_;rw[h];rfl
  ·have:=hr.1;rw[h]at this;cases this
 ·cases h
theorem ap4{tm:Array Value}:aB L T tm d Mh w (.slice none 0 0):=by
 refine⟨by simp,[.slice none 0 0],rfl,?_⟩;simp[Own,Rd,sh]
theorem wZ[ae]:{l:List Nat}->{T:List V}->{L:Nat->ak}->{ups:List (Nat×V)}->{log:List Nat}->Inv w0 L0 N vs T a w L->(ql vs N l m).aj T ups log ->
  ∃T1 L1 bK log2,Inv w0 L0 N vs T1 a w L1/\m.aj T1 bK log2/\ai T ups=ai T1 bK
 | [],T,L,ups,log,hI,h=>⟨T,L,ups,log,hI,h,rfl⟩
 | s::l,T,L,ups,log,hI,h=>by
  simp only[ql]at h;obtain⟨aD,rfl,h⟩:=h;dsimp only at h;split at h
  ·rename_i r p t hv;have hb:=M.aq h;clear h;obtain⟨⟨lz,tz,yz⟩,l1,l2,rfl,hz,h⟩:=hb;dsimp only at h;cases hc:(decide (s<N)&&fy vs (.d lz 0 tz yz)&&lz != some s)with
   | false=>rw[hc]at h;exact wZ hI h
   | true =>
    rw[hc,cond_true]at h;simp only[Bool.and_eq_true,decide_eq_true_eq,bne_iff_ne,ne_eq]at hc;obtain⟨⟨b8,aH⟩,er⟩:=hc;obtain⟨bK,l3,l4,rfl,h1,h2⟩:=M.aq h;clear h;obtain⟨rfl,_⟩:=h2;have bh:s<T.length:=by rw[hI.len];exact b8
    obtain⟨fH,h1⟩:=oR (T':=T.set s (.d lz 0 tz yz)) (by simp) (λz hz=>by
     simp only[List.map_cons,List.map_nil,List.mem_cons,List.not_mem_nil,or_false]at hz;rw[hz];exact bh) (LS bh) _ h1
    have je:=hI.aX s;obtain⟨cells,hf,bD,cB⟩:=qB hI hz je (λ_=>rfl);have jM:fD (λz q=>ak.own z q) (λz=>z=s):=by
     refine⟨λz q _=>rfl,λz q z' q' hX h=>?_,λz q z2 q2 z' q' h1 h2=>?_,λz q=>?_⟩
     ·injection h with h _;rw[<-h];exact hX
     ·rw[<-h2]at h1;injection h1 with e1 e2;exact⟨e1,e2⟩
     ·simp
    have cu:(T.getD s .dead).aO=false:=by rw[hv];rfl
    have bz:Inv w0 L0 N vs (T.set s (.d lz 0 tz yz)) a w (aW (λz q=>ak.own z q) w L (λ_=>.free)):=by
     refine Inv.gI hI jM (Wd.refl hI _) (λ_ _ _ _ _ h=>by cases h) hI.size (by simp[hI.len]) hI.dO ?_ ?_ ?_ ?_ ?_
     ·intro k s' q bP h;subst bP;unfold aW at h;split at h
      ·obtain⟨s0,q0,e0,f0⟩:=eS h;injection f0 with f0 _;have:=hI.owner k _ _ e0;rw[f0,cu]at this;cases this
      ·cases h
     ·intro z r _ ho hr;subst hr;exact cu
     ·intro z hz;rw[aJ,if_neg (λh=>hz h.1)];exact⟨rfl,rfl⟩
     ·intro z r hz ho;subst hz;rw[aJ,if_pos ⟨rfl,bh⟩]at ho;exact qx aH r ho
     ·intro z hz;subst hz;rw[aJ,if_pos ⟨rfl,bh⟩];have hm:∀k,SL L lz k->SL (aW (λz q=>ak.own z q) w L (λ_=>.free)) lz k/\w.heap[k]?=w.heap[k]?:=by
       rintro k (hk|⟨r,q,hl,hk⟩)
       ·exact⟨.inl (ew hI hk),rfl⟩
       ·exact⟨.inr ⟨r,q,hl,by rw[dc hI (by rw[hk];simp),hk];rfl⟩,rfl⟩
      refine⟨λr hr=>?_,cells,hf,Own.dM (Rd.move hm bD)⟩;rw[aJ,if_neg (λe=>er (by rw[hr,e.1]))];exact cB r hr
    obtain⟨T1,L2,jv,jj,k1,k2,k3⟩:=wZ bz h1;exact⟨T1,L2,jv,jj,k1,k2,k3⟩
  ·exact wZ hI h
theorem arE[ae](hI:Inv w0 L0 N vs T a w L){b:Builtin}(hb:b = .cap\/b = .len)      
  (hu:∀X,cG[0]?=some X->∃e,P.underlying X=some (.slice e)) (bq:cG.size=1) (ho:o.op = .call { callee:=.builtin b,args,argTypes:=cG }) (aA:o.dst=some d) (hd:d<N) (hid:(T.getD d .dead).idle=true)
  (h:(JV d args.toList m).aj T ups log) (hm:∀log,m.aj T ups log->Step P o w0 L0 N vs (ai T ups) a w):Step P o w0 L0 N vs (ai T ups) a w:=by
 obtain⟨args⟩:=args;obtain⟨cG⟩:=cG;unfold JV at h;dsimp only at h;split at h
 ·rename_i s;obtain⟨aD,rfl,h⟩:=h;dsimp only at h;cases hn:isNil (T.getD s .dead)with
  | false=>rw[hn]at h;exact hm _ h
  | true =>
   rw[hn,cond_true]at h;obtain⟨rfl,_⟩:=h;have hv:=D1 hI hn
   match cG,bq with
   | [X],_ =>
    obtain⟨e,he⟩:=hu X rfl;have c8:a.eval (.tmp s) = .slice none 0 0:=hv;have cc:aP P o vs T a w L d (.d none 0 (.int .i64) (0:Int)):=by
     refine aP.still hI (c:=.int .i64 0) ?_ (λ_=>rfl) aB.mkInt;rcases hb with rfl|rfl
     ·simp[execOp,ho,resolve,invoke,builtin,Builtin.cap_,c8,run_underlying he,goInt]
     ·simp[execOp,ho,resolve,invoke,builtin,Builtin.len_,c8,run_underlying he,goInt]
    intro K Q hK;exact aP.inv hI hd hid aA cc hK
 ·exact hm _ h
end
section
variable{P:Program}{C:Ctx}{w w' w0:World}{L L' L0:Nat->ak}{s N:Nat}{vs:List Nat}{T T':List V}{a:Act}
theorem Ms{l:Option Int}(h:(l.getD 0==0)=true):l.getD 0=0:=by simpa using h
theorem arG[ae](hI:Inv w0 L0 N vs T a w L)(hC:bF P C){s:Nat}{hint:Bool}{lo hi:Option Operand}{m:M (List (Nat×V))}  
  (ho:o.op = .slice X (.tmp s) lo hi none) (aA:o.dst=some d) (hd:d<N) (hid:(T.getD d .dead).idle=true)
  (h:(J5 C vs N d hint X s lo hi m).aj T ups log) (hm:∀log,m.aj T ups log->Step P o w0 L0 N vs (ai T ups) a w):Step P o w0 L0 N vs (ai T ups) a w:=by
 have key:∀c,(Instr.sliceAt X (a.eval (.tmp s)) (lo.map a.eval) (hi.map a.eval) none).run P w = .ok c w->(execOp a.eval o).run P w = .ok (.value c) w:=by
  intro c hc;simp[execOp,ho,hc]
 unfold J5 at h;obtain⟨aD,rfl,h⟩:=h;dsimp only at h;cases hn:isNil (T.getD s .dead)with
 | true =>
  rw[hn,cond_true]at h;have hv:=D1 hI hn;obtain⟨l,l1,l2,rfl,hl,h⟩:=M.aq h;obtain⟨z,l3,l4,rfl,hh,h⟩:=M.aq h;obtain⟨hc,h⟩:=h;rw[Bool.and_eq_true]at hc;split at h
  ·rename_i e t hX;obtain⟨rfl,_⟩:=h;obtain⟨hu,he⟩:=(hC X _ hX).b7;have el:=nM (z:=0) (nL hI hl);have eh:=nM (z:=0) (nL hI hh);rw[Ms hc.1]at el;rw[Ms hc.2]at eh;have aT:=EM (P:=P) (w:=w) hu ((hC e t he).run_sizeOf) (A:=none) (len:=0) (cap:=0) el eh (by omega) (by omega) (by omega) (by omega);have c8:a.eval (.tmp s) = .slice none 0 0:=hv;have cc:aP P o vs T a w L d Mh:=aP.still hI (c:=.slice none 0 0) (key _ (by rw[c8];exact aT)) (λ_=>rfl) ap4;intro K Q hK;exact aP.inv hI hd hid aA cc hK
  ·exact h.elim
 | false =>
  rw[hn,cond_false]at h;cases hint with
  | false=>exact hm _ h
  | true =>
   rw[cond_true]at h;have hs:=hI.aX s;generalize hv:T.getD s .dead=v at h hs;split at h
   ·rename_i n e t xs;obtain⟨l,l1,l2,rfl,hl,h⟩:=M.aq h;obtain⟨z,l3,l4,rfl,hh,h⟩:=M.aq h;cases hc:(l.getD 0==0&&z==some 0 && !vs.contains s&&decide (s≠d))with
    | false=>rw[hc]at h;exact h.elim
    | true =>
     rw[hc,cond_true]at h;simp only[Bool.and_eq_true,Bool.not_eq_true',decide_eq_true_eq]at hc;obtain⟨⟨⟨eo,ft⟩,Yd⟩,hc4⟩:=hc;have hz:z=some 0:=by simpa using ft
     subst hz;split at h
     ·rename_i e' t' hX;cases KG:decide (e'=e/\t'=t)with
      | false=>rw[KG]at h;exact h.elim
      | true =>
       rw[KG,cond_true]at h;obtain⟨rfl,_⟩:=h;obtain⟨rfl,rfl⟩:=of_decide_eq_true KG;obtain⟨hu,he⟩:=(hC X _ hX).b7;have el:=nM (z:=0) (nL hI hl);rw[Ms eo]at el;obtain⟨_,cs,hf,bT⟩:=hs;have hf:cs=[a.tmps.getD s undef]:=hf;rw[hf]at bT;have jf:s∉vs:=λhm=>by rw[List.contains_iff_mem.2 hm]at Yd;cases Yd
       have nw:(some s=some s/\s∉vs/\(T.getD s .dead).aO=true)\/(some s=(none:Option Nat)/\s=d):=.inl ⟨rfl,jf,by rw[hv];simp[V.aO,Ty.depth]⟩;have fin:∀c,(Instr.sliceAt X (a.eval (.tmp s)) (lo.map a.eval) (hi.map a.eval) none).run P w = .ok c w ->
         (∀(L':Nat->ak),(∀g,L g = .own s [0]->L' g = .own d [0])->Own w L' (SL L' none) d (n+1) (.slice e' t') [] [] 0 [c]) ->
         Step P o w0 L0 N vs (ai T [(s,.dead),(d,.d none (n+1) (.slice e' t') [])]) a w:=by
        intro c aT dK;refine Step.value aA (key c aT) (Inv.app (sb:=some s) (sx:=none) (kept:=true) (b1:=0) (b2:=0) (m:=n) (nl:=λ_=>.free) hI hd hid nw (λs h=>by cases h) (Wd.refl hI _) (λ_ _ _ _ h=>by cases h) rfl (by simp[V.aO,Ty.depth]) (λT' tm'=>⟨by simp,[c],rfl,dK _ (λg hg=>?_)⟩));rw[dc hI (by rw[hg];simp),hg];show gw d s none true 0 0 n s [0]=_;unfold gw;rw[if_pos rfl];simp
       simp only[Own]at bT;rcases bT with⟨dX,jg⟩|⟨g,cap,cur,ee,hg,hh1,hh2,hh3,hh4,_⟩
       ·have c8:a.eval (.tmp s) = .slice none 0 0:=(List.cons.inj dX).1;have eh:=nM (z:=0) (nL hI hh);have aT:=EM (P:=P) (w:=w) hu ((hC e' t' he).run_sizeOf) (A:=none) (len:=0) (cap:=0) el eh (by omega) (by simp) (by simp) (by omega);refine fin (.slice none 0 0) (by rw[c8];exact aT) (λL' _=>?_);simp only[Own];exact .inl ⟨by trivial,by trivial⟩
       ·have c8:a.eval (.tmp s) = .slice (some ⟨g,0,none⟩) xs.length cap:=(List.cons.inj ee).1;have eh:=nM (z:=(xs.length:Int)) (nL hI hh);have aT:=EM (P:=P) (w:=w) hu ((hC e' t' he).run_sizeOf) (A:=some ⟨g,0,none⟩) (len:=xs.length) (cap:=cap) el eh (by omega) (by simp) (by simp) hh2;have e0:(if cap=(0:Int).toNat then some (⟨g,0,none⟩:Addr)else (some ⟨g,0,none⟩:Option Addr).map (·.add ((0:Int).toNat*t'.sz)))=some ⟨g,0,none⟩:=by
         split
         ·rfl
         ·simp[Addr.add_lit]
        rw[e0]at aT;refine fin _ (by rw[c8];exact aT) (λL' hL=>?_);simp only[Own];refine .inr ⟨g,cap,cur,by simp,hL g hg,hh1,by simp,hh3,hh4,λj hj=>absurd hj (by simp)⟩
     ·exact h.elim
   ·exact hm _ h
theorem arO[ae](hI:Inv w0 L0 N vs T a w L)(hC:bF P C){x:Operand}{hint:Bool}   
  (ho:qg o x) (aA:o.dst=some d) (hd:d<N) (hid:(T.getD d .dead).idle=true)
  (h:(Mg C d hint X x m).aj T ups log) (hm:∀log,m.aj T ups log->Step P o w0 L0 N vs (ai T ups) a w):Step P o w0 L0 N vs (ai T ups) a w:=by
 unfold Mg at h;split at h
 ·rename_i s;cases hint with
  | false=>exact hm _ h
  | true =>
   rw[cond_true]at h;obtain⟨aD,rfl,h⟩:=h;dsimp only at h;cases hn:isNil (T.getD s .dead)with
   | false=>rw[hn]at h;exact hm _ h
   | true =>
    rw[hn,cond_true]at h;have hv:=D1 hI hn;split at h
    ·rename_i e t hX;obtain⟨rfl,_⟩:=h;have c8:a.eval (.tmp s) = .slice none 0 0:=hv;have cc:aP P o vs T a w L d (.d none (t.depth+1) (.slice e t) []):=by
      refine aP.still hI (c:=.slice none 0 0) ?_ (λ_=>rfl) ⟨by simp,[.slice none 0 0],rfl,?_⟩
      ·rw[tu ho,c8]
      ·simp only[Own];exact .inl ⟨by trivial,by trivial⟩
     intro K Q hK;exact aP.inv hI hd hid aA cc hK
    ·exact h.elim
 ·exact hm _ h
theorem ak8{w:World}{X2 ty e:TypeId}{i:TypeInfo}{z:Value}{k2:IntKind}(hX:P.underlying X=some (.slice e))(iq:P.underlying X2=some (.int k2))(hi:P.info? e=some i)(hz:i.zero=some z)
  {n:Int} (h0:0<n) (hm:n<=140737488355328) (hb:n*i.bytes<=140737488355328) (bq:i.size≠0) :
  (Builtin.append_ #[X,X2] ty #[.slice none 0 0,.int .i64 n]).run P w = .ok (.slice (some ⟨w.heap.size,0,none⟩) n.toNat (grownCap w n.toNat 0 e))
   (w.drew.alloc (.cells (Builtin.zeroCells z.cells n.toNat++Builtin.zeroCells z.cells (grownCap w n.toNat 0 e - n.toNat)) e)):=by
 obtain⟨n,rfl⟩:∃k:Nat,n=k:=⟨n.toNat,by omega⟩;have hbn:n*i.bytes<=140737488355328:=by
  have:((n*i.bytes:Nat):Int)<=140737488355328:=by rw[Int.natCast_mul];exact hb
  omega
 have hf:=growslice_fits (need:=n) (old:=0) (bytes:=i.bytes) (by omega) hbn;have e1:¬(0+n<=0):=by omega
 have e2:¬(9223372036854775807<(n:Int)):=by omega
 have e3:¬(281474976710656<Builtin.nextslicecap n 0*i.bytes):=by omega
 have wn:IntKind.i64.wrap (n:Int)=n:=IntWalk.i64_in _ (by omega);have e4:¬((n:Int)<0):=by omega
 have e5:¬(281474976710656<(n:Int)*(i.bytes:Int)):=by omega
 have e7:¬n=0:=by omega
 have e6:¬(n*i.size=0):=by
  intro h;rcases Nat.mul_eq_zero.1 h with h|h
  ·omega
  ·exact bq h
 have KK:=run_firstCells_none (P:=P) w.drew i.size 0 0 0;simp[Builtin.append_,run_underlying hX,run_underlying iq,sizeOf,typeInfo,zeroValue,hi,hz,wn,asInt,asIntOf,e1,e2,e3,e4,e5,e6,e7,Question.forced,KK,newRow,grownCap]
end
def MX(vs:List Nat)(N s:Nat)(h:Nat->Option Nat)(m:M (List (Nat×V))):M (List (Nat×V)):=
 .get s λv=>match v with
 | .bH l=>cond (partsOf s h 0 0 l).isEmpty m
   (if cm (s::(partsOf s h 0 0 l).map (·.1.1))=true/\((partsOf s h 0 0 l).all λp=>decide (p.1.1<N))=true/\vs.contains s=true/\s<N then
    ig true s s ((partsOf s h 0 0 l).map (·.1.1)) (wT ((partsOf s h 0 0 l).map (·.1.1)) ((m.eR ((partsOf s h 0 0 l).map (λp=>(p.1.1,p.2))++[(s,.bH (hY l))])).bind λups =>
     .ret (((partsOf s h 0 0 l).map (λp=>(p.1.1,p.2))++[(s,.bH (hY l))])++ups)))
   else m)
 | _=>m
def EP(vs:List Nat)(N d:Nat)(h:Nat->Option Nat)(ups:List (Nat×V)):M (List (Nat×V)):=
 match ups.getLast? with
 | some (d',.bH l)=>cond (d'==d && !(partsOf d h 0 0 l).isEmpty)
   (if cm (d::(partsOf d h 0 0 l).map (·.1.1))=true/\((partsOf d h 0 0 l).all λp=>decide (p.1.1<N))=true/\vs.contains d=true/\d<N/\(((partsOf d h 0 0 l).map (·.1.1)).all λe => !(ups.map (·.1)).contains e)=true/\(ups.all λp => !p.2.on d)=true then
    ig true d d ((partsOf d h 0 0 l).map (·.1.1)) (wT ((partsOf d h 0 0 l).map (·.1.1)) (.ret (ups++((partsOf d h 0 0 l).map (λp=>(p.1.1,p.2))++[(d,.bH (hY l))]))))
   else .ret ups) (.ret ups)
 | _=>.ret ups
section
variable{P:Program}{C:Ctx}{w w' w0:World}{L L' L0:Nat->ak}{s N:Nat}{vs:List Nat}{T T':List V}{a:Act}
theorem ek.als[ae](hI:Inv w0 L0 N vs T a w L)(d:Nat)(q:List Nat)(ob:Obj):ek w (w.drew.alloc ob) L (λk=>if k=w.heap.size then .own d q else L k) d:=by
 refine⟨rfl,rfl,rfl,by simp,Nat.le_succ _,λk hk=>?_,λk s q' hk h=>?_,λk k' q' hk aL h h'=>?_,λk hk=>?_⟩
 ·rw[if_neg (by omega)];exact⟨rfl,Go.RowKit.Below.heap_alloc w.drew ob k hk⟩
 ·split at h
  ·injection h with h _;exact h.symm
  ·rw[hI.free k hk]at h;cases h
 ·split at h
  ·split at h'
   ·omega
   ·rw[hI.free k' aL]at h';cases h'
  ·rw[hI.free k hk]at h;cases h
 ·simp at hk;rw[if_neg (by omega)];exact hI.free k (by omega)
theorem arU[ae](hI:Inv w0 L0 N vs T a w L)(hC:bF P C){o:Oper}{X2:TypeId}{sO xO:Operand}    
  (ho:o.op = .call { callee:=.builtin .append,args:=#[sO,xO],argTypes:=#[X,X2] }) (aA:o.dst=some d) (hd:d<N) (hid:(T.getD d .dead).idle=true)
  (h:(Nu C d X X2 sO xO m).aj T ups log) (hm:∀log,m.aj T ups log->Step P o w0 L0 N vs (ai T ups) a w):Step P o w0 L0 N vs (ai T ups) a w:=by
 unfold Nu at h;split at h
 ·rename_i s;obtain⟨aD,rfl,h⟩:=h;dsimp only at h;cases hn:isNil (T.getD s .dead)with
  | false=>rw[hn]at h;exact hm _ h
  | true =>
   rw[hn,cond_true]at h;have hv:=D1 hI hn;have c8:a.eval (.tmp s) = .slice none 0 0:=hv;split at h
   ·rename_i e t k2 hX iq;obtain⟨u,l1,l2,rfl,h1,h⟩:=M.aq h;split at h
    ·rename_i lu nu n;obtain⟨hc,rfl,_⟩:=h;simp only[Bool.and_eq_true,decide_eq_true_eq]at hc;obtain⟨⟨⟨ix,bq⟩,hb⟩,nr⟩:=hc;obtain⟨hu,he⟩:=(hC X _ hX).b7;have Le:=(hC X2 _ iq).b7;obtain⟨i,z,i1,i2,i3,i4,i5⟩:=(hC e t he).info;have dY:∀v∈t.cq,v.oneCell'=true:=Own.one (Own.zero (w:=w) (L:=L) (S:=λ_=>True) (s:=0) (n:=0) (t:=t) (q:=[]) (o:=0));have iX:=Form.cells i5 dY;have gZ:z.cells.size=t.sz:=by rw[<-Array.length_toList,iX,Ty.jy]
     have hx:=gG hI h1;have aT:=ak8 (P:=P) (w:=w) (ty:=o.type) hu Le i1 i4 ix nr (by rw[i3];exact hb) (by rw[i2];exact bq);obtain⟨k,hk⟩:∃k:Int,k=n:=⟨n,rfl⟩;have avv:k<=140737488355328:=by rw[hk];exact nr
     have sQ:k.toNat<=maxLen:=by simp only[maxLen];omega
     rw[hk]at sQ;have avt:n.toNat<=maxLen:=sQ;have lJ:=grownCap_ge w n.toNat 0 e;have DF:=grownCap_le_maxLen w n.toNat 0 e sQ;have vU:(execOp a.eval o).run P w = .ok (.value (.slice (some ⟨w.heap.size,0,none⟩) n.toNat (grownCap w n.toNat 0 e))) (w.drew.alloc (.cells (Builtin.zeroCells z.cells n.toNat++Builtin.zeroCells z.cells (grownCap w n.toNat 0 e - n.toNat)) e)):=by
      simp[execOp,ho,resolve,invoke,builtin,c8,hx,aT]
     have cc:aP P o vs T a w L d (.d none (t.depth+1) (.slice e t) (List.replicate n.toNat t.zero)):=by
      refine⟨_,_,_,vU,ek.als hI d [0] _,λ_ _ _ _=>by simp[V.aO,Ty.depth],λr hr=>by simp[V.on,V.root]at hr,by simp,_,rfl,?_⟩;simp only[Own];refine .inr ⟨w.heap.size,grownCap w n.toNat 0 e,_,by simp,by simp,oD w.drew _,by simpa using lJ,DF,?_,λj hj=>?_⟩
      ·rw[Array.size_append,size_zeroCells,size_zeroCells,gZ,<-Nat.add_mul];congr 1;omega
      ·simp only[List.length_replicate]at hj;have pS:(((Builtin.zeroCells z.cells n.toNat++Builtin.zeroCells z.cells (grownCap w n.toNat 0 e - n.toNat)).toList.drop (j*t.sz)).take t.sz)=t.cq:=by
        have:=LW z.cells n.toNat j hj;rw[gZ]at this;rw[<-iX,<-this];refine qT λk hk=>?_;have ax:(j+1)*t.sz<=n.toNat*t.sz:=Nat.mul_le_mul_right _ (by omega);rw[Nat.add_mul,Nat.one_mul]at ax;rw[Array.getElem?_toList,Array.getElem?_toList,Array.getElem?_append_left (by rw[size_zeroCells,gZ];omega)];unfold Builtin.zeroCells;rw[gZ]
       rw[pS,List.getElem_replicate];exact Own.zero
     intro K Q hK;exact aP.inv hI hd hid aA cc hK
    ·exact h.elim
   ·exact h.elim
 ·exact hm _ h
theorem aaV:{U:List (Nat×V)}->cm (U.map (·.1))=true->∀{z:Nat} {v:V},(z,v)∈U->eE U z=some v
 | [],_,z,v,h=>by cases h
 | (k,u)::U,hn,z,v,h=>by
  simp only[List.map_cons,cm,Bool.and_eq_true,Bool.not_eq_true']at hn;simp only[eE];rcases List.mem_cons.1 h with h|h
  ·injection h with h1 h2;subst h1 h2;simp
  ·have:(k==z)=false:=by
    cases hk:k==z with
    | false=>rfl
    | true =>
     have e:k=z:=by simpa using hk
     subst e;have:=List.contains_iff_mem.2 (List.mem_map_of_mem (f:=(·.1)) h);rw[hn.1]at this;cases this
   rw[this];simpa using aaV hn.2 h
theorem aaW:{U:List (Nat×V)}->{z:Nat}->z∉U.map (·.1)->eE U z=none
 | [],z,h=>rfl
 | (k,u)::U,z,h=>by
  simp only[List.map_cons,List.mem_cons,not_or]at h;simp only[eE];have:(k==z)=false:=by simpa using Ne.symm h.1
  rw[this];simpa using aaW h.2
theorem apQ[ae]{U:List (Nat×V)}(hn:cm (U.map (·.1))=true){T:List V}(hl:∀z∈U.map (·.1),z<T.length)(z:Nat):(ai T U).getD z .dead=(eE U z).getD (T.getD z .dead):=by
 by_cases hz:z∈U.map (·.1)
 ·obtain⟨⟨k,v⟩,hm,rfl⟩:=List.mem_map.1 hz;rw[aaV hn hm];exact sr hn hm (hl _ hz)
 ·rw[aaW hz];exact eX _ _ _ hz
theorem arn[ae](hI:Inv w0 L0 N vs T a w L){s:Nat}{h0:Nat->Option Nat}{l:List mw}(cW:cm (s::(partsOf s h0 0 0 l).map (·.1.1))=true)
  (ax:((partsOf s h0 0 0 l).all λp=>decide (p.1.1<N))=true) (b8:s<N) :
  cm (((partsOf s h0 0 0 l).map (λp=>(p.1.1,p.2))++[(s,V.bH (hY l))]).map (·.1))=true/\∀z∈((partsOf s h0 0 0 l).map (λp=>(p.1.1,p.2))++[(s,V.bH (hY l))]).map (·.1),z<T.length:=by
 generalize lQ:partsOf s h0 0 0 l=ps at cW ax;have wB:=Ml cW;have je:ps.map (·.1.1)=(ps.map (·.1)).map (·.1):=by rw[List.map_map];rfl
 obtain⟨kO,pY⟩:=List.nodup_cons.1 wB;have hU:(ps.map (λp=>(p.1.1,p.2))++[(s,V.bH (hY l))]).map (·.1)=ps.map (·.1.1)++[s]:=by simp[List.map_map,Function.comp_def]
 refine⟨?_,λz hz=>?_⟩
 ·rw[hU];refine xm ?_;rw[List.nodup_append];refine⟨pY,by simp,λx hx y hy e=>?_⟩;rw[List.mem_singleton]at hy;subst e hy;exact kO hx
 ·rw[hU]at hz;rcases List.mem_append.1 hz with hz|hz
  ·obtain⟨p,hp,rfl⟩:=List.mem_map.1 hz;rw[List.all_eq_true]at ax;rw[hI.len];simpa using ax _ hp
  ·rw[List.mem_singleton.1 hz,hI.len];exact b8
theorem Inv.split[ae](hI:Inv w0 L0 N vs T a w L){s:Nat}{h0:Nat->Option Nat}{l:List mw}(hv:T.getD s .dead = .bH l)(cW:cm (s::(partsOf s h0 0 0 l).map (·.1.1))=true)
  (ax:((partsOf s h0 0 0 l).all λp=>decide (p.1.1<N))=true) (jf:vs.contains s=true) (b8:s<N) (cQ:∀z,¬z=s->(T.getD z .dead).on s=false)
  (jO:∀e∈(partsOf s h0 0 0 l).map (·.1.1),(T.getD e .dead).idle=true):∃L',Inv w0 L0 N vs (ai T ((partsOf s h0 0 0 l).map (λp=>(p.1.1,p.2))++[(s,.bH (hY l))])) a w L':=by
 have hs:=hI.aX s;rw[hv]at hs;obtain⟨dz,ee,dK⟩:=hs;generalize lQ:partsOf s h0 0 0 l=ps at cW ax jO;have wL:eU 0 (ps.map (·.1)):=by rw[<-lQ];exact ED
 have wB:=Ml cW;have je:ps.map (·.1.1)=(ps.map (·.1)).map (·.1):=by rw[List.map_map];rfl
 obtain⟨kO,pY⟩:=List.nodup_cons.1 wB;have wA:cm ((ps.map (·.1)).map (·.1))=true:=by rw[<-je];exact xm pY
 have bh:s<T.length:=by rw[hI.len];exact b8
 let U:List (Nat×V):=ps.map (λp=>(p.1.1,p.2))++[(s,.bH (hY l))];have hU:U.map (·.1)=ps.map (·.1.1)++[s]:=by simp[U,List.map_map,Function.comp_def]
 have oz:cm (U.map (·.1))=true:=by
  rw[hU];refine xm ?_;rw[List.nodup_append];refine⟨pY,by simp,λx hx y hy e=>?_⟩;rw[List.mem_singleton]at hy;subst e hy;exact kO hx
 have Dy:∀z∈U.map (·.1),z<T.length:=by
  intro z hz;rw[hU]at hz;rcases List.mem_append.1 hz with hz|hz
  ·obtain⟨p,hp,rfl⟩:=List.mem_map.1 hz;rw[List.all_eq_true]at ax;rw[hI.len];simpa using ax _ hp
  ·rw[List.mem_singleton.1 hz];exact bh
 have bL:(ai T U).getD s .dead = .bH (hY l):=sr oz (by simp[U]) bh;have pP:∀p v,(p,v)∈ps->(ai T U).getD p.1 .dead=v:=by
  intro p v hp;refine sr oz ?_ (Dy _ ?_)
  ·exact List.mem_append_left _ (List.mem_map.2 ⟨(p,v),hp,rfl⟩)
  ·rw[hU];exact List.mem_append_left _ (List.mem_map.2 ⟨(p,v),hp,rfl⟩)
 have bt:∀z,¬(z=s\/z∈(ps.map (·.1)).map (·.1))->(ai T U).getD z .dead=T.getD z .dead:=by
  intro z hz;refine eX _ _ _ ?_;rw[hU,je];intro hm;rcases List.mem_append.1 hm with hm|hm
  ·exact hz (.inr hm)
  ·exact hz (.inl (List.mem_singleton.1 hm))
 have p4:∀p v,(p,v)∈ps->∃j n t x u cs,v = .part s j n t x/\dz.toList[j]?=some u/\t.sz=p.2.2/\Form t cs u/\Own w L (SL L none) s n t x [] p.2.1 cs:=by
  intro p v hp;rw[<-lQ]at hp;obtain⟨j,n,t,x,u,cs,e1,e2⟩:=Mw dK p v hp;exact⟨0+j,n,t,x,u,cs,e1,by rw[Nat.zero_add];exact e2⟩
 have gb:∀z,z∈(ps.map (·.1)).map (·.1)->∃p v,(p,v)∈ps/\p.1=z:=by
  intro z hz;rw[<-je]at hz;obtain⟨⟨p,v⟩,hp,rfl⟩:=List.mem_map.1 hz;exact⟨p,v,hp,rfl⟩
 have amx:fD (kZ s s (ps.map (·.1))) (λz=>z=s\/z=s\/z∈(ps.map (·.1)).map (·.1)):=abM wL wA;have jM:fD (kZ s s (ps.map (·.1))) (λz=>z=s\/z∈(ps.map (·.1)).map (·.1)):=by
  have e:(λz=>z=s\/z=s\/z∈(ps.map (·.1)).map (·.1))=(λz=>z=s\/z∈(ps.map (·.1)).map (·.1)):=by
   funext z;apply propext;constructor
   ·rintro (h|h|h)
    ·exact .inl h
    ·exact .inl h
    ·exact .inr h
   ·rintro (h|h)
    ·exact .inl h
    ·exact .inr (.inr h)
  rwa [e]at amx
 refine⟨aW (kZ s s (ps.map (·.1))) w L (λ_=>.free),Inv.gI (T':=ai T U) hI jM (Wd.refl hI _) (λ_ _ _ _ _ h=>by cases h) hI.size (by rw[cC,hI.len]) hI.dO ?_ ?_ ?_ ?_ ?_⟩
 ·intro k z q hz hk;rcases hz with rfl|hz
  ·rw[bL];rfl
  ·obtain⟨p,v,hp,rfl⟩:=gb z hz;rw[pP p v hp];obtain⟨j,n,t,x,u,cs,rfl,_⟩:=p4 p v hp;rfl
 ·intro z r hz ag hr;rcases hr with rfl|hr
  ·exfalso;have dL:z≠r:=λe=>hz (.inl e);rw[cQ z dL]at ag;cases ag
  ·exact V.kd (jO r (by rw[je];exact hr))
 ·intro z hz;exact⟨bt z hz,rfl⟩
 ·intro z r hz ag;rcases hz with rfl|hz
  ·rw[bL]at ag;simp[V.on,V.root]at ag
  ·obtain⟨p,v,hp,rfl⟩:=gb z hz;rw[pP p v hp]at ag;obtain⟨j,n,t,x,u,cs,rfl,_⟩:=p4 p v hp;simp only[V.on,V.root,beq_iff_eq,Option.some.injEq]at ag;subst ag;exact List.contains_iff_mem.1 jf
 ·intro z hz;rcases hz with rfl|hz
  ·rw[bL];exact⟨dz,ee,MI (λk hk=>⟨ew hI hk,rfl⟩) dK⟩
  ·obtain⟨p,v,hp,rfl⟩:=gb z hz;rw[pP p v hp];obtain⟨j,n,t,x,u,cs,rfl,e2,e3,e4,e5⟩:=p4 p v hp;refine⟨by rw[bL];rfl,dz,u,cs,ee,by simpa using e2,e4,?_⟩;refine Own.move (λk hk=>?_) (λk i rest hi hk=>⟨?_,rfl⟩) e5
   ·rcases hk with hk|⟨_,_,hk,_⟩
    ·exact⟨.inl (ew hI hk),rfl⟩
    ·cases hk
   ·have aL:L k = .own s ((p.2.1+i)::rest):=by simpa using hk
    rw[dc hI (by rw[aL];simp),aL];have:=abL (s:=s) (d:=s) wL wA (List.mem_map_of_mem (f:=(·.1)) hp) (i:=i) (by rw[<-e3];exact hi) (rest:=rest);simpa[eI]using this
theorem arl[ae]{s:Nat}{h0:Nat->Option Nat}(hI:Inv w0 L0 N vs T a w L)(h:(MX vs N s h0 m).aj T ups log):
  ∃T1 L1 bK log2,Inv w0 L0 N vs T1 a w L1/\m.aj T1 bK log2/\ai T ups=ai T1 bK:=by
 unfold MX at h;obtain⟨aD,rfl,h⟩:=h;dsimp only at h;generalize hv:T.getD s .dead=v at h;split at h
 ·rename_i l;cases he:(partsOf s h0 0 0 l).isEmpty with
  | true=>rw[he]at h;exact⟨T,L,ups,_,hI,h,rfl⟩
  | false =>
   rw[he,cond_false]at h;split at h
   ·rename_i hc;obtain⟨cW,ax,jf,b8⟩:=hc;obtain⟨cQ,log2,h⟩:=jI h;obtain⟨jO,fH,h⟩:=D0 h;have hb:=M.aq h;clear h;obtain⟨bK,l3,l4,rfl,h1,h2⟩:=hb;obtain⟨rfl,_⟩:=h2;obtain⟨L1,bz⟩:=Inv.split hI hv cW ax jf b8 (λz hz=>by simpa using cQ z hz) jO;have bh:s<T.length:=by rw[hI.len];exact b8
    obtain⟨oz,Dy⟩:=arn hI cW ax b8;obtain⟨jj,h1⟩:=oR (T':=ai T ((partsOf s h0 0 0 l).map (λp=>(p.1.1,p.2))++[(s,.bH (hY l))])) (by simp[cC]) Dy (apQ oz Dy) _ h1;exact⟨_,L1,bK,jj,bz,h1,by rw[lg]⟩
   ·exact⟨T,L,ups,_,hI,h,rfl⟩
 ·exact⟨T,L,ups,_,hI,h,rfl⟩
theorem aq8{ups:List (Nat×V)}:∀{T:List V} {z:Nat},(ai T ups).getD z .dead=T.getD z .dead\/∃v,(z,v)∈ups/\(ai T ups).getD z .dead=v:=by
 induction ups with
 | nil=>intro T z;exact .inl rfl
 | cons u l ih =>
  intro T z;have e:ai T (u::l)=ai (T.set u.1 u.2) l:=rfl;rw[e];rcases ih (T:=T.set u.1 u.2) (z:=z)with h|⟨v,h1,h2⟩
  ·rw[h,aJ];split
   ·rename_i hz;exact .inr ⟨u.2,by rw[hz.1];exact List.mem_cons_self,rfl⟩
   ·exact .inl rfl
  ·exact .inr ⟨v,List.mem_cons_of_mem _ h1,h2⟩
theorem acs[ae](hI:Inv w0 L0 N vs T a w L){h0:Nat->Option Nat}{ups:List (Nat×V)} 
  (h:(m.bind (EP vs N d h0)).aj T ups log) (hm:∀ups log,m.aj T ups log->Step P o w0 L0 N vs (ai T ups) a w):Step P o w0 L0 N vs (ai T ups) a w:=by
 obtain⟨xL,l1,l2,rfl,h1,h⟩:=M.aq h;have ba:=hm _ _ h1;unfold EP at h;split at h
 ·rename_i d' l Yz;cases iu:(d'==d && !(partsOf d h0 0 0 l).isEmpty)with
  | false=>rw[iu]at h;obtain⟨rfl,_⟩:=h;exact ba
  | true =>
   rw[iu,cond_true]at h;simp only[Bool.and_eq_true,beq_iff_eq]at iu;obtain⟨rfl,_⟩:=iu;split at h
   ·rename_i hc;obtain⟨cW,ax,jf,b8,hk,ag⟩:=hc;obtain⟨cQ,log2,h⟩:=jI h;obtain⟨jO,fH,h⟩:=D0 h;obtain⟨rfl,_⟩:=h;have vR:d'<T.length:=by rw[hI.len];exact b8
    have iU:(ai T xL).getD d' .dead = .bH l:=by
     obtain⟨ys,rfl⟩:∃ys,xL=ys++[(d',V.bH l)]:=by
      rw[List.getLast?_eq_some_iff]at Yz;exact Yz
     rw[lg];show ((ai T ys).set d' (V.bH l)).getD d' .dead=_;rw[aJ,if_pos ⟨rfl,by rw[cC];exact vR⟩]
    intro K Q hK;refine ba K Q (λa' w' L' il=>?_);have pR:∀z,¬z=d'->((ai T xL).getD z .dead).on d'=false:=by
     intro z hz;rcases aq8 (T:=T) (ups:=xL) (z:=z)with h|⟨v,h,h2⟩
     ·rw[h];simpa using cQ z hz
     ·rw[h2];rw[List.all_eq_true]at ag;simpa using ag _ h
    have v7:∀e∈(partsOf d' h0 0 0 l).map (·.1.1),((ai T xL).getD e .dead).idle=true:=by
     intro e he;rw[List.all_eq_true]at hk;have Yu:=hk e he;rw[eX _ _ _ (λhm=>by
      rw[List.contains_iff_mem.2 hm]at Yu;cases Yu)]
     exact jO e he
    obtain⟨L1,bz⟩:=Inv.split il iU cW ax jf b8 pR v7;rw[lg]at hK;exact hK a' w' L1 bz
   ·obtain⟨rfl,_⟩:=h;exact ba
 ·obtain⟨rfl,_⟩:=h;exact ba
end
def eC(N d:Nat)(m:M (List (Nat×V))):M (List (Nat×V)):=.get d λv=>.bn (v.idle&&decide (d<N)) m
def me(C:Ctx)(vs:List Nat)(d:Nat)(o:Oper):M (List (Nat×V)):=(MA C o).bind λv=>.bn (fy vs v) (.ret [(d,v)])
def Eg(C:Ctx)(d:Nat)(mx:Bool)(args:List Operand):M (List (Nat×V)):=
 match args with
 | [x,y]=>(cI C 0 x).bind λu=>(cI C 0 y).bind λv=>match u,v with
  | .d _ _ (.int k) m,.d _ _ (.int _) n=>.ret [(d,.d none 0 (.int k) (cond mx (if m<n then n else m) (if n<m then n else m)))]
  | _,_=>.fail
 | _=>.fail
def WE(C:Ctx)(vs:List Nat)(X:TypeId)(d:Nat)(x:Operand):M (List (Nat×V)):=
 (cI C X x).bind λv=>match v with
 | .d l k t y=>if C.ty X=some t/\(k=0\/t.depth=0)then .bn (fy vs (.box l 0 t y)) (.ret [(d,.box l 0 t y)])else .fail
 | _=>.fail
def Ep(C:Ctx)(vs:List Nat)(N d:Nat)(X:TypeId)(x:Operand)(hx:Nat->Nat->Option Nat):M (List (Nat×V)):=
 match x with
 | .tmp s=>.get s λv=>match v with
  | .bH _=>.bn (decide (d<N)) (acG vs N d s (hx d))
  | _=>C6 C vs N d X x
 | _=>C6 C vs N d X x
def tmpsOf:List Operand->List Nat
 | []=>[]
 | .tmp s::l=>s::tmpsOf l
 | _::l=>tmpsOf l
def ak4(C:Ctx)(X:TypeId)(s x:Operand):List Nat :=
 match C.ty X with
 | some (.slice _ t)=>if t.depth=0 then tmpsOf [s]else tmpsOf [s,x]
 | _=>[]
structure Hints where
 hx:Nat->Nat->Option Nat
 bx:Nat->Bool
 kids:Nat->List Nat
def arX(C:Ctx)(vs:List Nat)(N:Nat)(hx:Hints)(X:TypeId)(t:Nat)(x:Operand):M (List (Nat×V)):=
 .get t λv=>match addrOf t v with
 | none=>.fail
 | some (r,p)=>.get r λu=>match u with
  | .hole u' p'=>Ki C vs N (hx.kids r) X r p u' p' x
  | _=>(λm=>cond (hx.bx (3000+r)) (L4 C vs N (hx.kids r) X r p u x m) m) <| match p with
   | []=>cond (hx.bx r) (E2 C vs N (hx.kids r) X r u x (lj C vs N (some (hx.kids r)) X t x)) (lj C vs N none X t x)
   | _::_=>cond (hx.bx r) (M4 C N (hx.kids r) X r p u x (lj C vs N (some (hx.kids r)) X t x)) (cond (hx.bx (5000+r)) (M5 C N (hx.kids r) X r p u x (lj C vs N none X t x)) (lj C vs N none X t x))
def alJ(bj:dI)(f:FuncId):Bool:=match bj f with
 | some F=>(F.rs.any λp=>decide (p.2<p.1.depth)) || !pM F.ps
 | none=>false
def aqV(bj:dI)(f:FuncId)(l:List Operand):List Operand:=match bj f with
 | some F=>((F.ps.zip l).filter λp=>match p.1.2 with | .ro=>true|_=>false).map (·.2)
 | none=>l
def C9(C:Ctx)(d:Nat)(l:List Operand)(cG:List TypeId)(m:M (List (Nat×V))):M (List (Nat×V)):=match cG with
 | [X]=>match C.ty X with
  | some (.slice _ _)=>JV d l m
  | _=>m
 | _=>m
def M0(C:Ctx)(bj:dI)(vs:List Nat)(hx:Hints)(N:Nat)(o:Oper):M (List (Nat×V)):=
 match o.dst with
 | none=>match o.op with
  | .store X (.tmp t) x=>tf 1 N (cond (hx.bx (9000+t)) [t] []) <| qc N (cond (hx.bx (8000+t)) (tmpsOf [x]) []) (ql vs N (cond (hx.bx (7000+t)) (tmpsOf [x]) []) (mo N hx.kids (tmpsOf [x]) (arX C vs N hx X t x)))
  | _=>.fail
 | some d=>match o.op with
  | .move x=>cond (hx.bx (10000+d)) (match x with
   | .tmp t=>eC N d ((abR t ((C.ty ((hx.kids (10000+d)).headD 0)).getD .unit)).bind λv=>.bn (fy vs v) (.ret [(d,v)]))
   | _=>.fail) (cond (hx.bx (6000+d)) (eC N d (Mg C d true o.type x (vx vs N d (hx.bx (1000+d)) x (Ep C vs N d o.type x hx.hx)))) (vx vs N d (hx.bx (1000+d)) x (Ep C vs N d o.type x hx.hx)))
  | .load X (.tmp t)=>xB N t (cond (hx.bx (1000+d)) (Ka C N X d t) (eC N d (me C vs d o)))
  | .nilCheck (.tmp t)=>xB N t (eC N d (me C vs d o))
  | .makeFunc (.func g) ⟨[]⟩ gK=>tp N (tmpsOf gK.toList) (eC N d (WS d g gK.toList))
  | .indexAddr X (.tmp t) y=>eC N d (J8 C vs X d t y (me C vs d o))
  | .assign x=>C6 C vs N d o.type x
  | .box X x=>eC N d (JM C vs X d x (WE C vs X d x))
  | .build X parts=>mo N hx.kids (tmpsOf (parts.toList.map (·.2))) (eC N d (JL C vs X d parts.toList))
  | .buildSlice X len parts=>ql vs N (cond (hx.bx (7000+d)) (tmpsOf (parts.toList.map (·.2))) []) (mo N hx.kids (tmpsOf (parts.toList.map (·.2))) (eC N d (MJ C vs X d len parts.toList)))
  | .extract (.tmp s) i=>MX vs N s (hx.hx s) (.bn (decide (d<N)) (Xh vs d (.tmp s) i))
  | .slice X (.tmp s) lo hi none=>eC N d (J5 C vs N d (hx.bx (6000+d)) X s lo hi (me C vs d o))
  | .fieldAddr X (.tmp t) f=>xB N t (cond (hx.bx t) (eC N d ((Xi C X f t).bind λv=>.bn (fy vs v) (.ret [(d,v)]))) (eC N d (me C vs d o)))
  | .call c=>match c.callee with
   | .value (.func f)=>tf 1 N (cond (hx.bx (9000+d)) ((tmpsOf c.args.toList).filter λs => !vs.contains s) []) <| qc N (cond (alJ bj f) ((tmpsOf (aqV bj f c.args.toList)).filter λs => !vs.contains s) []) (eC N d ((JT C bj vs N d f c.args.toList).bind (EP vs N d (hx.hx d))))
   | .value (.tmp s)=>eC N d ((JO C bj vs d s c.args.toList).bind (EP vs N d (hx.hx d)))
   | .builtin .max=>eC N d (Eg C d true c.args.toList)
   | .builtin .len=>eC N d (C9 C d c.args.toList c.argTypes.toList (J9 C d c.args.toList c.argTypes.toList (me C vs d o)))
   | .builtin .cap=>eC N d (C9 C d c.args.toList c.argTypes.toList .fail)
   | .builtin .min=>eC N d (Eg C d false c.args.toList)
   | .builtin .append=>match c.args,c.argTypes with
    | ⟨[s,x]⟩,⟨[X,X2]⟩=>mo N hx.kids (ak4 C X s x) (eC N d (Nu C d X X2 s x (Jx C vs d X X2 s x)))
    | _,_=>.fail
   | _=>eC N d (me C vs d o)
  | _=>eC N d (me C vs d o)
section
variable{P:Program}{C:Ctx}{w w' w0:World}{L L' L0:Nat->ak}{N:Nat}{vs:List Nat}{T T':List V}{a:Act}
theorem fu(h:(eC N d m).aj T ups log):(T.getD d .dead).idle=true/\d<N/\∃log,m.aj T ups log:=by
 obtain⟨aD,rfl,hc,h⟩:=h;simp only[Bool.and_eq_true,decide_eq_true_eq]at hc;exact⟨hc.1,hc.2,aD,h⟩
theorem qJ[ae](hI:Inv w0 L0 N vs T a w L)(hC:bF P C)(aA:o.dst=some d)(hd:d<N)(hid:(T.getD d .dead).idle=true)
  (h:(me C vs d o).aj T ups log):Step P o w0 L0 N vs (ai T ups) a w:=by
 obtain⟨v,l1,l2,rfl,h1,aH,rfl,_⟩:=M.aq h;intro K Q hK;exact aP.inv hI hd hid aA (aqK hI hC hid (qx aH) h1) hK
theorem acp[ae](hI:Inv w0 L0 N vs T a w L){mx:Bool}(ho:o.op = .call { callee:=.builtin (cond mx .max .min),args,argTypes:=cG })(aA:o.dst=some d)(hd:d<N)(hid:(T.getD d .dead).idle=true)
  (h:(Eg C d mx args.toList).aj T ups log):Step P o w0 L0 N vs (ai T ups) a w:=by
 obtain⟨args⟩:=args;dsimp only at h;unfold Eg at h;split at h
 ·rename_i x y;obtain⟨u,l1,l2,rfl,h1,h⟩:=M.aq h;obtain⟨v,l3,l4,rfl,h2,h⟩:=M.aq h;split at h
  ·rename_i l n k m l' n' k' m' _;obtain⟨rfl,_⟩:=h;have hx:=gG hI h1;have hy:=gG hI h2;have cc:aP P o vs T a w L d (.d none 0 (.int k) (cond mx (if m<m' then m' else m) (if m'<m then m' else m))):=by
    refine aP.still hI ?_ (λ_=>rfl) aB.mkInt;cases mx with
    | true=>simp[execOp,ho,resolve,invoke,builtin,Builtin.max_,Builtin.max2,hx,hy]
    | false=>simp[execOp,ho,resolve,invoke,builtin,Builtin.min_,Builtin.min2,hx,hy]
   intro K Q hK;exact aP.inv hI hd hid aA cc hK
  ·exact h.elim
 ·exact h.elim
theorem aru[ae](hI:Inv w0 L0 N vs T a w L)(hC:bF P C){x:Operand}(ho:o.op = .box X x)(aA:o.dst=some d)(hd:d<N)(hid:(T.getD d .dead).idle=true)
  (h:(WE C vs X d x).aj T ups log):Step P o w0 L0 N vs (ai T ups) a w:=by
 obtain⟨v,l1,l2,rfl,h1,h2⟩:=M.aq h;split at h2
 ·rename_i l k t y;split at h2
  ·rename_i hc;obtain⟨hX,hk⟩:=hc;obtain⟨aH,rfl,_⟩:=h2;have dK:∃s0,aB L T a.tmps s0 (.d l k t y) w (a.eval x):=by
    rcases ke hI h1 with⟨s,_,_,hs⟩|⟨_,hs⟩
    ·exact⟨s,hs⟩
    ·exact⟨0,hs _ _ _ _ _⟩
   obtain⟨s0,cB,cs,hf,bT⟩:=dK;have dj:=Form.cells hf (Own.one bT);have aT:(execOp a.eval o).run P w = .ok (.value (.pointer (some ⟨w.heap.size,0,none⟩))) (w.alloc (.cells (a.eval x).cells X)):=by
    simp[execOp,ho,Instr.box,newVar,newRow,newObj,Sem.run]
   have cc:aP P o vs T a w L d (.box l 0 t y):=by
    refine⟨_,_,_,aT,ek.alloc hI d [] _,λ_ _ _ _=>rfl,qx aH,λr hr=>?_,w.heap.size,(a.eval x).cells,X,rfl,by simp,oD _ _,?_,?_⟩
    ·have:=cB r hr;rw[aJ,if_neg (λe=>dm hid (V.fg this) e.1)];exact this
    ·rw[<-Array.length_toList,dj,Own.len bT]
    ·rw[dj];have h0:=Own.eH (Own.bB (s':=0) (q':=[]) (o':=0) (n':=0) hk bT (.inl rfl));refine Own.dM (Rd.move (λk hk=>?_) h0);have ax:k<w.heap.size:=hI.lt (by rcases hk with hk|⟨_,_,_,hk⟩<;>rw[hk]<;>simp);refine⟨?_,Go.RowKit.Below.heap_alloc w _ k ax⟩;unfold SL;dsimp only;rw[if_neg (by omega)];exact hk
   intro K Q hK;exact aP.inv hI hd hid aA cc hK
  ·exact h2.elim
 ·exact h2.elim
theorem vi[ae](hI:Inv w0 L0 N vs T a w L){t r:Nat}{p:List St}(he:addrOf t (T.getD t .dead)=some (r,p)):∃g,a.eval (.tmp t) = .pointer (some ⟨g,(node [] 0 p).2,none⟩)/\L g = .own r (node [] 0 p).1:=by
 have ba:=hI.aX t;generalize T.getD t .dead=v at he ba;cases v with
 | ptr r2 p2 t2 =>
  simp only[addrOf,Option.some.injEq,Prod.mk.injEq]at he;obtain⟨rfl,rfl⟩:=he;exact ba
 | box l n t2 x2 =>
  simp only[addrOf,Option.some.injEq,Prod.mk.injEq]at he;obtain⟨rfl,rfl⟩:=he;obtain⟨_,g,cur,e,h1,h2,_⟩:=ba;exact⟨g,h1,h2⟩
 | dead=>cases he
 | bH _=>cases he
 | d _ _ _ _=>cases he
 | rp _ _ _=>cases he
 | view _ _ _=>cases he
 | hole _ _=>cases he
 | part _ _ _ _ _=>cases he
 | bQ _ _ _ _=>cases he
 | same _ _=>cases he
theorem aco[ae](hI:Inv w0 L0 N vs T a w L)(hC:bF P C){b:Builtin}(hb:b = .cap\/b = .len)      
  (ho:o.op = .call { callee:=.builtin b,args,argTypes:=cG }) (aA:o.dst=some d) (hd:d<N) (hid:(T.getD d .dead).idle=true)
  (h:(C9 C d args.toList cG.toList m).aj T ups log) (hm:∀log,m.aj T ups log->Step P o w0 L0 N vs (ai T ups) a w):Step P o w0 L0 N vs (ai T ups) a w:=by
 unfold C9 at h;split at h
 ·rename_i X hX;split at h
  ·rename_i e t hCX;refine arE hI hb (λX' sA=>?_) ?_ ho aA hd hid h hm
   ·have:X'=X:=by
     have h0:cG.toList[0]?=some X':=by simpa using sA
     rw[hX]at h0;simpa using h0.symm
    subst this;exact⟨e,(hC _ _ hCX).b7.1⟩
   ·have:=congrArg List.length hX;simpa using this
  ·exact hm _ h
 ·exact hm _ h
theorem art[ae](lM:P.follows .mixedOrders=true)(hC:bF P C){bj:dI}(ed:fY P bj){hx:Hints}{E:Env}(hE:E.step=M0 C bj vs hx E.N):rX P w0 L0 vs E:=by
 refine⟨lM,?_⟩;intro o T ups log a w L hI h;rw[hE]at h;unfold M0 at h;have YV:∀{d:Nat},o.dst=some d->(eC E.N d (me C vs d o)).aj T ups log->Step P o w0 L0 E.N vs (ai T ups) a w:=by
  intro d aA h;obtain⟨h1,h2,log,h3⟩:=fu h;exact qJ hI hC aA h2 h1 h3
 split at h
 ·rename_i aA;split at h
  ·rename_i X t x ho;obtain⟨T8,L8,auU,apP,Ky,h,La⟩:=Ed hI h;rw[La];obtain⟨T9,L9,avM,avH,hI9,h,ank⟩:=wS Ky h;rw[ank];obtain⟨T0,L00,auT,LR,Kx,h,K9⟩:=wZ hI9 h;rw[K9];obtain⟨T1,L1,bK,log2,bz,h,eO⟩:=nS Kx h;rw[eO];obtain⟨l1,rfl,h⟩:=h;dsimp only at h;split at h
   ·exact h.elim
   ·rename_i r p vL;obtain⟨l2,rfl,h⟩:=h;dsimp only at h;split at h
    ·rename_i u' p' wO;exact arM bz hC ho aA vL (λr p=>vi bz) wO h
    ·have hold:∀log,(match p with
       | []=>cond (hx.bx r) (E2 C vs E.N (hx.kids r) X r (T1.getD r .dead) x (lj C vs E.N (some (hx.kids r)) X t x)) (lj C vs E.N none X t x)
       | _::_=>cond (hx.bx r) (M4 C E.N (hx.kids r) X r p (T1.getD r .dead) x (lj C vs E.N (some (hx.kids r)) X t x)) (cond (hx.bx (5000+r)) (M5 C E.N (hx.kids r) X r p (T1.getD r .dead) x (lj C vs E.N none X t x)) (lj C vs E.N none X t x)):M (List (Nat×V))).aj T1 bK log->Step P o w0 L0 E.N vs (ai T1 bK) a w:=by
      intro log h;split at h
      ·cases hb:hx.bx r with
       | true =>
        rw[hb,cond_true]at h;exact arT bz hC ho aA vL (λr p=>vi bz) rfl (λh=>xF bz hC ho aA h) h
       | false =>
        rw[hb,cond_false]at h;exact xF bz hC ho aA h
      ·cases hb:hx.bx r with
       | true =>
        rw[hb,cond_true]at h;exact arQ bz hC ho aA vL (λr p=>vi bz) rfl h (λ_ h=>xF bz hC ho aA h)
       | false =>
        rw[hb,cond_false]at h;cases X8:hx.bx (5000+r)with
        | true =>
         rw[X8,cond_true]at h;exact arR bz hC ho aA vL (λr p=>vi bz) rfl h (λ_ h=>xF bz hC ho aA h)
        | false =>
         rw[X8,cond_false]at h;exact xF bz hC ho aA h
     cases X7:hx.bx (3000+r)with
     | true =>
      rw[X7,cond_true]at h;exact arN bz hC ho aA vL (λr p=>vi bz) rfl h hold
     | false =>
      rw[X7,cond_false]at h;exact hold _ h
  ·exact h.elim
 ·rename_i d aA;split at h
  ·rename_i x ho;have hold:∀log,(vx vs E.N d (hx.bx (1000+d)) x (Ep C vs E.N d o.type x hx.hx)).aj T ups log->Step P o w0 L0 E.N vs (ai T ups) a w:=by
    intro log h;refine arK hI (.inl ho) aA h (λlog h=>?_);unfold Ep at h;split at h
    ·rename_i s;obtain⟨aD,rfl,h⟩:=h;dsimp only at h;split at h
     ·obtain⟨hd,h⟩:=h;exact arS hI (.inl ho) aA (by simpa using hd) h
     ·exact M1 hI (.inl ho) aA h
    ·exact M1 hI (.inl ho) aA h
   cases X6:hx.bx (10000+d)with
   | true =>
    rw[X6,cond_true]at h;split at h
    ·rename_i t;obtain⟨h1,h2,log,h3⟩:=fu h;obtain⟨v,l1,l2,rfl,h4,aH,rfl,_⟩:=M.aq h3;intro K Q hK;exact aP.inv hI h2 h1 aA (aqG hI ho h4 (qx aH)) hK
    ·exact h.elim
   | false =>
   rw[X6,cond_false]at h;cases hb:hx.bx (6000+d)with
   | false=>rw[hb]at h;exact hold _ h
   | true =>
    rw[hb,cond_true]at h;obtain⟨h1,h2,log,h3⟩:=fu h;exact arO hI hC (.inl ho) aA h2 h1 h3 hold
  ·rename_i X t ho;obtain⟨T1,L1,bK,log2,bz,h,eO⟩:=ML hI h;rw[eO];cases hb:hx.bx (1000+d)with
   | true=>rw[hb,cond_true]at h;exact arJ bz hC ho aA h
   | false =>
    rw[hb,cond_false]at h;obtain⟨h1,h2,log,h3⟩:=fu h;exact qJ bz hC aA h2 h1 h3
  ·rename_i t ho;obtain⟨T1,L1,bK,log2,bz,h,eO⟩:=ML hI h;rw[eO];obtain⟨h1,h2,log,h3⟩:=fu h;exact qJ bz hC aA h2 h1 h3
  ·rename_i g gK ho;obtain⟨T1,L1,bK,log2,bz,h,eO⟩:=EG hI h;rw[eO];obtain⟨h1,h2,log,h3⟩:=fu h;exact arF bz ho aA h2 h1 h3
  ·rename_i X t y ho;obtain⟨h1,h2,log,h3⟩:=fu h;exact arH hI hC ho aA h2 h1 h3 (λ_ hm=>qJ hI hC aA h2 h1 hm)
  ·rename_i x ho;exact M1 hI (.inr ho) aA h
  ·rename_i X x ho;obtain⟨h1,h2,log,h3⟩:=fu h;exact arw hI hC ho aA h2 h1 h3 (λ_ hm=>aru hI hC ho aA h2 h1 hm)
  ·rename_i X parts ho;obtain⟨T1,L1,bK,log2,bz,h,eO⟩:=nS hI h;rw[eO];obtain⟨h1,h2,log,h3⟩:=fu h;exact arv bz hC ho aA h2 h1 h3
  ·rename_i X len parts ho;obtain⟨T0,L00,auT,LR,Kx,h,K9⟩:=wZ hI h;rw[K9];obtain⟨T1,L1,bK,log2,bz,h,eO⟩:=nS Kx h;rw[eO];obtain⟨h1,h2,log,h3⟩:=fu h;exact arP bz hC ho aA h2 h1 h3
  ·rename_i s i ho;obtain⟨T1,L1,bK,log2,bz,h,eO⟩:=arl hI h;rw[eO];obtain⟨hd,h⟩:=h;exact arL bz ho aA (by simpa using hd) h
  ·rename_i X s lo hi ho;obtain⟨h1,h2,log,h3⟩:=fu h;exact arG hI hC ho aA h2 h1 h3 (λ_ hm=>qJ hI hC aA h2 h1 hm)
  ·rename_i X t f ho;obtain⟨T1,L1,bK,log2,bz,h,eO⟩:=ML hI h;rw[eO];cases hb:hx.bx t with
   | false =>
    rw[hb]at h;obtain⟨h1,h2,log,h3⟩:=fu h;exact qJ bz hC aA h2 h1 h3
   | true =>
    rw[hb]at h;obtain⟨h1,h2,log,h3⟩:=fu h;obtain⟨v,l1,l2,rfl,h4,aH,rfl,_⟩:=M.aq h3;intro K Q hK;exact aP.inv bz h2 h1 aA (aqx bz hC ho h4 (qx aH)) hK
  ·rename_i c ho;split at h
   ·rename_i f hf;obtain⟨T8,L8,auU,apP,Ky,h,La⟩:=Ed hI h;rw[La];obtain⟨T1,L1,bK,log2,bz,h,eO⟩:=wS Ky h;rw[eO];obtain⟨h1,h2,log,h3⟩:=fu h;obtain⟨callee,args,cG⟩:=c;dsimp only at hf h3;subst hf;exact acs bz h3 (λ_ _ h3=>arD bz ed ho aA h2 h1 h3)
   ·rename_i s hf;obtain⟨h1,h2,log,h3⟩:=fu h;obtain⟨callee,args,cG⟩:=c;dsimp only at hf h3;subst hf;exact acs hI h3 (λ_ _ h3=>ary hI ed ho aA h2 h1 h3)
   ·rename_i hf;obtain⟨h1,h2,log,h3⟩:=fu h;obtain⟨callee,args,cG⟩:=c;dsimp only at hf h3;subst hf;exact acp hI (mx:=true) (by rw[ho];rfl) aA h2 h1 h3
   ·rename_i hf;obtain⟨h1,h2,log,h3⟩:=fu h;obtain⟨callee,args,cG⟩:=c;dsimp only at hf h3;subst hf;exact aco hI hC (.inr rfl) ho aA h2 h1 h3 (λ_ hm=>arI hI hC ho aA h2 h1 hm (λ_ hm=>qJ hI hC aA h2 h1 hm))
   ·rename_i hf;obtain⟨h1,h2,log,h3⟩:=fu h;obtain⟨callee,args,cG⟩:=c;dsimp only at hf h3;subst hf;exact aco hI hC (.inl rfl) ho aA h2 h1 h3 (λ_ hm=>hm.elim)
   ·rename_i hf;obtain⟨h1,h2,log,h3⟩:=fu h;obtain⟨callee,args,cG⟩:=c;dsimp only at hf h3;subst hf;exact acp hI (mx:=false) (by rw[ho];rfl) aA h2 h1 h3
   ·rename_i hf;obtain⟨callee,args,cG⟩:=c;dsimp only at hf h;subst hf;split at h
    ·rename_i s x X X2;obtain⟨T1,L1,bK,log2,bz,h,eO⟩:=nS hI h;rw[eO];obtain⟨h1,h2,log,h3⟩:=fu h;exact arU bz hC ho aA h2 h1 h3 (λ_ hm=>step_append bz hC ho aA h2 h1 hm)
    ·exact h.elim
   ·exact YV aA h
  ·exact YV aA h
end
def MG(t:Ty)(n s:Nat)(v:V):M (t.den×Option Nat×List Nat):=
 if t.depth=0\/n=0 then (mf s v).bind λz=>if h:z.2.1=t then .ret (h▸z.2.2,none,if t.depth=0 then []else z.1.toList)else .fail
 else match v with
  | .d none k t' y=>if h:t'=t then (if n<=k then .ret (h▸y,some s,[])else .fail)else .fail
  | .view r [] _=>.get r λu=>match u with
   | .d none k t' y=>if h:t'=t then (if n<=k then .ret (h▸y,some r,[])else .fail)else .fail
   | _=>.fail
  | _=>.fail
structure Src where
 s:Nat
 o:Nat
 sz:Nat
 n:Nat
structure Vp (rs:List (Ty×Nat)) where
 x:(cX rs).den
 ss:List Src
 ls:List Nat
inductive RV where
 | tmp (s:Nat)
 | cell (s:Nat) (X:TypeId)
def RV.slot:RV->Nat
 | .tmp s=>s
 | .cell s _=>s
def RV.var:RV->ResultVar
 | .tmp s=>.tmp s
 | .cell s X=>.cell s X
def MD(C:Ctx)(X:TypeId)(t:Ty)(n s:Nat)(v:V):M (t.den×Option Nat×List Nat):=
 match v with
 | .box none k t' y=>if h:t'=t then
   if C.ty X=some t then
    (if t.depth=0\/n=0 then .ret (h▸y,none,if t.depth=0 then []else [s])else if n<=k then .ret (h▸y,some s,[])else .fail)
   else .fail
  else .fail
 | _=>.fail
def ab0(C:Ctx)(t:Ty)(n:Nat)(rv:RV)(v:V):M (t.den×Option Nat×List Nat):=
 match rv with
 | .tmp s=>MG t n s v
 | .cell s X=>MD C X t n s v
def ME(C:Ctx):Nat->(rs:List (Ty×Nat))->List RV->M (Vp rs)
 | _,[],[]=>.ret ⟨(),[],[]⟩
 | o,(t,n)::rs,rv::sl=>.get rv.slot λv=>(ab0 C t n rv v).bind λy=>(ME C (o+t.sz) rs sl).bind λr =>
   .ret ⟨(y.1,r.x),(match y.2.1 with|some s'=>⟨s',o,t.sz,n⟩::r.ss|none=>r.ss),y.2.2++r.ls⟩
 | _,_,_=>.fail
def ye(P:Program)(w:World)(a:Act):RV->Value->Prop
 | .tmp s,c=>c=a.tmps.getD s undef
 | .cell s X,c=>∃A,a.tmps.getD s undef = .pointer (some A)/\(loadVar X A).run P w = .ok c w
def rb(P:Program)(w:World)(a:Act):List RV->List Value->Prop
 | [],cs=>cs=[]
 | rv::l,cs=>∃c bl,cs=c::bl/\ye P w a rv c/\rb P w a l bl
def kY:Nat->(ps:List (Ty×Mode))->M ((cD ps).den×List (Nat×Nat))
 | _,[]=>.ret ((),[])
 | i,(t,.mut n)::ps=>.get i λv=>match v with
  | .d none k t' y=>if h:t'=t then (if k=n then (kY (i+1) ps).bind λr=>.ret ((h▸y,r.1),(i,i)::r.2)else .fail)else .fail
  | .view d [] tv=>.get d λu=>match u with
   | .box none k t' y=>if h:t'=t then (if k=n/\tv=t then (kY (i+1) ps).bind λr=>.ret ((h▸y,r.1),(d,i)::r.2)else .fail)else .fail
   | _=>.fail
  | _=>.fail
 | i,(t,.ptr n)::ps=>.get i λv=>match v with
  | .box none k t' y=>if h:t'=t then (if k=n then (kY (i+1) ps).bind λr=>.ret ((h▸y,r.1),(i,i)::r.2)else .fail)else .fail
  | _=>.fail
 | i,(_,.ro)::ps=>kY (i+1) ps
 | i,(_,.bU _)::ps=>kY (i+1) ps
def jm:Nat->List (Ty×Mode)->List Nat
 | _,[]=>[]
 | i,(_,.mut _)::ps=>i::jm (i+1) ps
 | i,(_,.ptr _)::ps=>i::jm (i+1) ps
 | i,(_,.ro)::ps=>jm (i+1) ps
 | i,(_,.bU _)::ps=>jm (i+1) ps
def Kj(C:Ctx)(ps:List (Ty×Mode))(rs:List (Ty×Nat))(sl:List RV):M (Ty.pair (cX rs) (cD ps)).den :=
 (ME C 0 rs sl).bind λr=>(kY 0 ps).bind λm =>
  .bn (cm (r.ss.map (·.s))&&r.ls.all (λl => !(r.ss.map (·.s)).contains l && !(m.2.map (·.1)).contains l)&&(m.2.map (·.1)).all (λi => !(r.ss.map (·.s)).contains i)&&cm (m.2.map (·.1))) (.ret (r.x,m.1))
def Dl:(ps:List (Ty×Mode))->(rs:List (Ty×Nat))->List RV->M (Ty.pair (cX rs) (cD ps)).den
 | ps,[(t,n)],[.tmp s]=>.get s λv=>(sf s v).bind λz=>if h:z.2.t=t then (if z.2.n+1000=n then (kY 0 ps).bind λm=>.bn (cm (z.1::m.2.map (·.1))) (.ret ((h▸z.2.x,()),m.1))else .fail)else .fail
 | _,_,_=>.fail
def gO(m:Nat)(mu:List (Nat×Nat))(ss:List Src):ak->ak
 | .own s q=>match mu.find? (λp=>p.1==s)with
  | some p=>.own p.2 q
  | none=>match ss.find? (λp=>p.s==s)with
   | some p=>match q with
    | y::rest=>if y<p.sz then (if rest.length<p.n then .own m ((p.o+y)::rest)else .au)else .au
    | []=>.au
   | none=>.au
 | x=>x
theorem Xp{s:Nat}(h:s∉mu.map (·.1)):mu.find? (λp=>p.1==s)=none:=by
 rw[List.find?_eq_none];intro p hp he;exact h (List.mem_map.2 ⟨p,hp,by simpa using he⟩)
theorem Xo{s j:Nat}(hn:cm (mu.map (·.1))=true)(h:(s,j)∈mu):mu.find? (λp=>p.1==s)=some (s,j):=by
 induction mu with
 | nil=>cases h
 | cons x l ih =>
  simp only[List.map_cons,cm,Bool.and_eq_true,Bool.not_eq_true']at hn;rcases List.mem_cons.1 h with rfl|hm
  ·simp
  ·have bm:x.1≠s:=λe=>by
    have:(l.map (·.1)).contains x.1=true:=by
     rw[List.contains_iff_mem,e];exact List.mem_map.2 ⟨(s,j),hm,rfl⟩
    rw[hn.1]at this;cases this
   rw[List.find?_cons_of_neg (by simpa using bm)];exact ih hn.2 hm
section
variable{P:Program}{C:Ctx}{w w' w0:World}{L L' L0:Nat->ak}{N:Nat}{vs:List Nat}{T T':List V}{a:Act}
theorem alz[ae]{m:Nat}{ss:List Src}{s:Nat}{q:List Nat}(h1:s∉mu.map (·.1))(h2:s∉ss.map (·.s)):gO m mu ss (.own s q) = .au:=by
 unfold gO;dsimp only;rw[Xp h1];have:ss.find? (λp=>p.s==s)=none:=by
  rw[List.find?_eq_none];intro p hp he;exact h2 (List.mem_map.2 ⟨p,hp,by simpa using he⟩)
 rw[this]
theorem alA[ae]{m:Nat}{ss:List Src}{p:Src}(hn:cm (ss.map (·.s))=true)(h1:p.s∉mu.map (·.1))(hp:p∈ss){y:Nat}{rest:List Nat}(hy:y<p.sz):
  gO m mu ss (.own p.s (y::rest))=if rest.length<p.n then .own m ((p.o+y)::rest)else .au:=by
 unfold gO;dsimp only;rw[Xp h1];have:ss.find? (λp'=>p'.s==p.s)=some p:=by
  clear h1 hy;induction ss with
  | nil=>cases hp
  | cons x l ih =>
   simp only[List.map_cons,cm,Bool.and_eq_true,Bool.not_eq_true']at hn;rcases List.mem_cons.1 hp with rfl|hp
   ·simp
   ·have bm:x.s≠p.s:=λe=>by
     have:(l.map (·.s)).contains x.s=true:=by
      rw[List.contains_iff_mem,e];exact List.mem_map_of_mem hp
     rw[hn.1]at this;cases this
    rw[List.find?_cons_of_neg (by simpa using bm)];exact ih hn.2 hp
 rw[this];dsimp only;rw[if_pos hy]
theorem aqT[ae](hI:Inv w0 L0 N vs T a w L){s:Nat}{y:t.den}{src:Option Nat}{ls:List Nat}(h:(MG t n s (T.getD s .dead)).aj T (y,src,ls) log):
  ∃cells,Form t cells (a.tmps.getD s undef)/\(∀s',src=some s'->n≠0/\t.depth≠0) /\
   ∀(L':Nat->ak) (m o:Nat),(∀k,L k = .au->L' k = .au)->(∀k r q,r∈ls->L k = .own r q->L' k = .au) ->
    (∀s' k i rest,src=some s'->L k = .own s' (i::rest)->i<t.sz->(rest.length<n->L' k = .own m ((o+i)::rest))/\(n<=rest.length->L' k = .au)) ->
    Own w L' (λk=>L' k = .au) m n t y [] o cells:=by
 have hs:=hI.aX s;have YP:∀{k:Nat} {cells:List Value} {s':Nat} {y:t.den},n<=k->Own w L (SL L none) s' k t y [] 0 cells->∀(L':Nat->ak) (m o:Nat),(∀k,L k = .au->L' k = .au) ->
    (∀k i rest,L k = .own s' (i::rest)->i<t.sz->(rest.length<n->L' k = .own m ((o+i)::rest))/\(n<=rest.length->L' k = .au)) ->
    Own w L' (λk=>L' k = .au) m n t y [] o cells:=by
  intro k cells s' y kN ho L' m o H1 H3;refine Own.ff kN (λk hk=>⟨?_,rfl⟩) (λk d rest hd hk=>?_) ho
  ·rcases hk with hk|⟨_,_,hk,_⟩
   ·exact H1 k hk
   ·cases hk
  ·have aL:L k = .own s' (d::rest):=by simpa using hk
   have:=H3 k d rest aL hd;exact⟨rfl,λh=>by simpa using this.1 h,this.2⟩
 unfold MG at h;split at h
 ·rename_i hc;obtain⟨⟨l,t',y'⟩,l1,l2,rfl,h1,h2⟩:=M.aq h;dsimp only at h2;split at h2
  ·rename_i ht;subst ht;obtain⟨h2,_⟩:=h2;cases h2;obtain⟨cells,hf,bD,cB⟩:=qB hI h1 hs (λ_=>rfl);refine⟨cells,hf,λs' h=>(by cases h),λL' m o H1 H2 _=>?_⟩;have h0:=Own.dM (L:=L) (s:=0) (q:=[]) (o:=0) bD;by_cases hd:t'.depth=0
   ·exact Own.flat hd h0
   ·have hn:n=0:=by omega
    subst hn;rw[if_neg hd]at H2;refine Own.dM (Rd.move (λk hk=>⟨?_,rfl⟩) bD);rcases hk with hk|⟨r,q,hl,hk⟩
    ·exact H1 k hk
    ·exact H2 k r q (by simp[hl]) hk
  ·exact h2.elim
 ·rename_i hc;have hc:=not_or.1 hc;generalize hv:T.getD s .dead=v at h hs;split at h
  ·rename_i k t' y';split at h
   ·rename_i ht;subst ht;split at h
    ·rename_i kN;obtain⟨h,_⟩:=h;cases h;obtain⟨_,cells,hf,ho⟩:=hs;exact⟨cells,hf,λ_ _=>⟨hc.2,hc.1⟩,λL' m o H1 _ H3=>YP kN ho L' m o H1 (λk i rest hk hi=>H3 s k i rest rfl hk hi)⟩
    ·exact h.elim
   ·exact h.elim
  ·rename_i r t2;obtain⟨log2,rfl,h⟩:=h;dsimp only at h;split at h
   ·rename_i k t' y' hu;split at h
    ·rename_i ht;subst ht;split at h
     ·rename_i kN;obtain⟨h,_⟩:=h;cases h;obtain⟨_,h1⟩:=hs;have hr:=hI.aX r;rw[hu]at hr;obtain⟨_,cells,hf,ho⟩:=hr;refine⟨cells,?_,λ_ _=>⟨hc.2,hc.1⟩,λL' m o H1 _ H3=>YP kN ho L' m o H1 (λk i rest hk hi=>H3 r k i rest rfl hk hi)⟩;rcases h1 with⟨_,h2,_⟩|⟨_,_,_,h2,_⟩
      ·rw[h2];exact hf
      ·rw[hu]at h2;simp[V.dE]at h2
     ·exact h.elim
    ·exact h.elim
   ·exact h.elim
  ·exact h.elim
theorem aqS[ae](hI:Inv w0 L0 N vs T a w L)(hC:bF P C){s:Nat}{y:t.den}{src:Option Nat}{ls:List Nat}(h:(MD C X t n s (T.getD s .dead)).aj T (y,src,ls) log):
  ∃c cells,ye P w a (.cell s X) c/\Form t cells c/\(∀s',src=some s'->n≠0/\t.depth≠0) /\
   ∀(L':Nat->ak) (m o:Nat),(∀k,L k = .au->L' k = .au)->(∀k r q,r∈ls->L k = .own r q->L' k = .au) ->
    (∀s' k i rest,src=some s'->L k = .own s' (i::rest)->i<t.sz->(rest.length<n->L' k = .own m ((o+i)::rest))/\(n<=rest.length->L' k = .au)) ->
    Own w L' (λk=>L' k = .au) m n t y [] o cells:=by
 have hs:=hI.aX s;unfold MD at h;generalize hv:T.getD s .dead=v at h hs;split at h
 ·rename_i k t' y';split at h
  ·rename_i ht;subst ht;split at h
   ·rename_i hX;obtain⟨_,g,cur,e,h1,h2,h3,h4,h5⟩:=hs;obtain⟨c,aT,hf⟩:=(hC X t' hX).MN (w:=w) (g:=g) (o:=0) (Own.len h5) (λi v hv=>by
     rw[Nat.zero_add,JX h3];simpa using hv)
    have vY:ye P w a (.cell s X) c:=⟨_,h1,aT⟩;have ba:∀{L':Nat->ak},(∀k,L k = .au->L' k = .au)->∀k,SL L none k->L' k = .au/\w.heap[k]?=w.heap[k]?:=by
     intro L' H k hk;rcases hk with hk|⟨_,_,hk,_⟩
     ·exact⟨H k hk,rfl⟩
     ·cases hk
    split at h
    ·rename_i hc;obtain⟨h,_⟩:=h;cases h;refine⟨c,cur.toList,vY,hf,λs' h=>(by cases h),λL' m o H1 H2 _=>?_⟩;by_cases hd:t'.depth=0
     ·exact Own.flat hd h5
     ·have hn:n=0:=by omega
      subst hn;rw[if_neg hd]at H2;refine Own.dM (Own.rd (S':=λk=>L' k = .au) (λk q hk=>H2 k s q (by simp) hk) (λk hk=>(ba H1 k hk).1) h5)
    ·rename_i hc;have hc:=not_or.1 hc;split at h
     ·rename_i kN;obtain⟨h,_⟩:=h;cases h;refine⟨c,cur.toList,vY,hf,λ_ _=>⟨hc.2,hc.1⟩,λL' m o H1 _ H3=>?_⟩;refine Own.ff kN (ba H1) (λk d rest hd hk=>?_) h5;have aL:L k = .own s (d::rest):=by simpa using hk
      have:=H3 s k d rest rfl aL hd;exact⟨rfl,λh=>by simpa using this.1 h,this.2⟩
     ·exact h.elim
   ·exact h.elim
  ·exact h.elim
 ·exact h.elim
theorem aqU[ae](hI:Inv w0 L0 N vs T a w L)(hC:bF P C){rv:RV}{y:t.den}{src:Option Nat}{ls:List Nat}(h:(ab0 C t n rv (T.getD rv.slot .dead)).aj T (y,src,ls) log):
  ∃c cells,ye P w a rv c/\Form t cells c/\(∀s',src=some s'->n≠0/\t.depth≠0) /\
   ∀(L':Nat->ak) (m o:Nat),(∀k,L k = .au->L' k = .au)->(∀k r q,r∈ls->L k = .own r q->L' k = .au) ->
    (∀s' k i rest,src=some s'->L k = .own s' (i::rest)->i<t.sz->(rest.length<n->L' k = .own m ((o+i)::rest))/\(n<=rest.length->L' k = .au)) ->
    Own w L' (λk=>L' k = .au) m n t y [] o cells:=by
 cases rv with
 | tmp s =>
  obtain⟨cells,h1,h2,h3⟩:=aqT hI (s:=s) h;exact⟨_,cells,rfl,h1,h2,h3⟩
 | cell s X=>exact aqS hI hC h
theorem abZ[ae](hI:Inv w0 L0 N vs T a w L)(hC:bF P C):{rs:List (Ty×Nat)}->{o:Nat}->{sl:List RV}->{R:Vp rs}->{log:List Nat}->(ME C o rs sl).aj T R log ->
  ∃cs,rb P w a sl cs/\(∀p∈R.ss,o<=p.o/\∃t,(t,p.n)∈rs/\p.n≠0/\t.depth≠0)/\(∀p p',p∈R.ss->p'∈R.ss->p.s≠p'.s->p.o+p.sz<=p'.o\/p'.o+p'.sz<=p.o) /\
  ∀(L':Nat->ak) (m:Nat),(∀k,L k = .au->L' k = .au)->(∀k r q,r∈R.ls->L k = .own r q->L' k = .au) ->
   (∀p k i rest,p∈R.ss->L k = .own p.s (i::rest)->i<p.sz->(rest.length<p.n->L' k = .own m ((p.o+i)::rest))/\(p.n<=rest.length->L' k = .au)) ->
   iO w L' m o rs R.x cs
 | [],o,[],R,log,h=>by
  obtain⟨rfl,_⟩:=h;exact⟨[],rfl,by simp,by simp,λ_ _ _ _ _=>rfl⟩
 | (t,n)::rs,o,s::sl,R,log,h=>by
  obtain⟨aD,rfl,h⟩:=h;obtain⟨⟨y,src,ls⟩,l1,l2,rfl,h1,h⟩:=M.aq h;obtain⟨R',l3,l4,rfl,h2,h⟩:=M.aq h;obtain⟨rfl,_⟩:=h;obtain⟨c,cells,k0,k1,k2,k3⟩:=aqU hI hC h1;obtain⟨cs,j0,j1,j2,j3⟩:=abZ hI hC h2;have gb:∀p,p∈(match src with|some s'=>(⟨s',o,t.sz,n⟩:Src)::R'.ss|none=>R'.ss)->(∃s',src=some s'/\p=⟨s',o,t.sz,n⟩)\/p∈R'.ss:=by
   intro p hp;cases src with
   | none=>exact .inr hp
   | some s' =>
    rcases List.mem_cons.1 hp with hp|hp
    ·exact .inl ⟨s',rfl,hp⟩
    ·exact .inr hp
  refine⟨c::cs,⟨c,cs,rfl,k0,j0⟩,λp hp=>?_,λp p' hp cw bm=>?_,λL' m H1 H2 H3=>?_⟩
  ·rcases gb p hp with⟨s',bP,rfl⟩|hp
   ·exact⟨Nat.le_refl _,t,by simp,(k2 s' bP).1,(k2 s' bP).2⟩
   ·obtain⟨e1,t',e2,e3,e4⟩:=j1 p hp;exact⟨by omega,t',by simp[e2],e3,e4⟩
  ·rcases gb p hp with⟨s',bP,rfl⟩|hp
   ·rcases gb p' cw with⟨s2,dZ,rfl⟩|cw
    ·rw[bP]at dZ;injection dZ with dZ;exact absurd dZ bm
    ·exact .inl (j1 p' cw).1
   ·rcases gb p' cw with⟨s2,dZ,rfl⟩|cw
    ·exact .inr (j1 p hp).1
    ·exact j2 p p' hp cw bm
  ·refine⟨c,_,cells,rfl,k1,k3 L' m o H1 (λk r q hr hk=>H2 k r q (List.mem_append_left _ hr) hk) (λs' k i rest bP hk hi=>?_),j3 L' m H1 (λk r q hr hk=>H2 k r q (List.mem_append_right _ hr) hk) (λp k i rest hp hk hi=>H3 p k i rest ?_ hk hi)⟩
   ·subst bP;exact H3 ⟨s',o,t.sz,n⟩ k i rest (by simp) hk hi
   ·cases src with
    | none=>exact hp
    | some s'=>exact List.mem_cons_of_mem _ hp
 | [],_,_::_,_,_,h=>h.elim
 | _::_,_,[],_,_,h=>h.elim
theorem abn:{ps:List (Ty×Mode)}->{i s:Nat}->(s∈jm i ps↔i<=s/\∃t m,ps[s - i]?=some (t,m)/\m.back=true)
 | [],i,s=>by simp[jm]
 | (t,md)::ps,i,s=>by
  have ih:=abn (ps:=ps) (i:=i+1) (s:=s);have key:(i+1<=s/\∃t' m,ps[s - (i+1)]?=some (t',m)/\m.back=true)↔(s≠i/\i<=s/\∃t' m,((t,md)::ps)[s - i]?=some (t',m)/\m.back=true):=by
   constructor
   ·rintro⟨h1,t',n',h2,h3⟩
    exact⟨by omega,by omega,t',n',by rw[show s - i=(s - (i+1))+1 by omega];simpa using h2,h3⟩
   ·rintro⟨hs,h1,t',n',h2,h3⟩
    refine⟨by omega,t',n',?_,h3⟩;rw[show s - i=(s - (i+1))+1 by omega]at h2;simpa using h2
  have put:md.back=true->((s=i\/s∈jm (i+1) ps)↔i<=s/\∃t' m,((t,md)::ps)[s - i]?=some (t',m)/\m.back=true):=by
   intro hm;rw[ih,key];constructor
   ·rintro (rfl|⟨_,h⟩)
    ·exact⟨Nat.le_refl _,t,md,by simp,hm⟩
    ·exact h
   ·intro h;by_cases hs:s=i
    ·exact .inl hs
    ·exact .inr ⟨hs,h⟩
  match md,key,put with
  | .mut n,_,put=>simpa only[jm,List.mem_cons]using put (by simp)
  | .ptr n,_,put=>simpa only[jm,List.mem_cons]using put (by simp)
  | .ro,key,_ =>
   simp only[jm];rw[ih,key];constructor
   ·exact λh=>h.2
   ·rintro⟨h1,t',m,h2,h3⟩
    refine⟨?_,h1,t',m,h2,h3⟩
    rintro rfl
    rw[Nat.sub_self]at h2;simp only[List.getElem?_cons_zero,Option.some.injEq,Prod.mk.injEq]at h2;rw[<-h2.2]at h3;cases h3
  | .bU _,key,_ =>
   simp only[jm];rw[ih,key];constructor
   ·exact λh=>h.2
   ·rintro⟨h1,t',m,h2,h3⟩
    refine⟨?_,h1,t',m,h2,h3⟩
    rintro rfl
    rw[Nat.sub_self]at h2;simp only[List.getElem?_cons_zero,Option.some.injEq,Prod.mk.injEq]at h2;rw[<-h2.2]at h3;cases h3
theorem qy[ae](hI:Inv w0 L0 N vs T a w L){A0:List Value}:{ps:List (Ty×Mode)}->{i:Nat}->{y:(cD ps).den}->{mu:List (Nat×Nat)}->{log:List Nat}->(kY i ps).aj T (y,mu) log->ps.length=A0.length->(∀j,(∃t m,ps[j]?=some (t,m)/\m.back=true)->A0[j]?=some (a.tmps.getD (i+j) undef)) ->
  ∀(L':Nat->ak),(∀k,L k = .au->L' k = .au)->(∀k s j q,(s,j)∈mu->L k = .own s q->L' k = .own j q)->fP w L' i ps y A0
 | [],i,y,mu,log,h,hl,_,L',_,_=>by
  simp only[List.length_nil]at hl;exact List.eq_nil_of_length_eq_zero hl.symm
 | (t,.mut n)::ps,i,y,mu,log,h,hl,hA,L',H1,H2=>by
  cases A0 with
  | nil=>simp at hl
  | cons c A0 =>
   obtain⟨aD,rfl,h⟩:=h;have hs:=hI.aX i;have hc:c=a.tmps.getD i undef:=by
    have:=hA 0 ⟨t,.mut n,rfl,by simp⟩;simpa using this
   subst hc;have Dx:∀j,(∃t m,ps[j]?=some (t,m)/\m.back=true)->A0[j]?=some (a.tmps.getD (i+1+j) undef):=λj hj=>by
    have:=hA (j+1) (by simpa using hj);rw[show i+1+j=i+(j+1)by omega];simpa using this
   generalize hv:T.getD i .dead=v at h hs;dsimp only at h;split at h
   ·rename_i k t' y';split at h
    ·rename_i ht;subst ht;split at h
     ·rename_i hk;subst hk;obtain⟨⟨r,mr⟩,l1,l2,rfl,h1,h2⟩:=M.aq h;obtain⟨h2,_⟩:=h2;injection h2 with h2 h3;subst h2 h3;obtain⟨_,cells,hf,ho⟩:=hs;refine⟨_,A0,cells,rfl,hf,?_,qy hI h1 (by simpa using hl) Dx L' H1 (λk' s j q hm aL=>H2 k' s j q (List.mem_cons_of_mem _ hm) aL)⟩
      ·refine Own.move (λk' aL=>⟨?_,rfl⟩) (λk' d rest _ aL=>⟨H2 k' i i _ (by simp) aL,rfl⟩) ho;rcases aL with aL|⟨_,_,aL,_⟩
       ·exact H1 k' aL
       ·cases aL
     ·exact h.elim
    ·exact h.elim
   ·rename_i d tv;obtain⟨log2,rfl,h⟩:=h;have hd:=hI.aX d;generalize hu:T.getD d .dead=u at h hd;dsimp only at h;split at h
    ·rename_i k t' y';split at h
     ·rename_i ht;subst ht;split at h
      ·rename_i hk;obtain⟨rfl,rfl⟩:=hk;obtain⟨⟨r,mr⟩,l1,l2,rfl,h1,h2⟩:=M.aq h;obtain⟨h2,_⟩:=h2;injection h2 with h2 h3;subst h2 h3;obtain⟨_,cS⟩:=hs;rcases cS with⟨_,_,l0,n0,x0,iY,_⟩|⟨g,cur,e,_,g1,g2,g3,g4⟩
       ·rw[hu]at iY;cases iY
       ·obtain⟨_,g',cur',e',_,j2,j3,j4,j5⟩:=hd;obtain rfl:=hI.inj g g' d _ g1 j2;rw[g2]at j3;injection j3 with j3;injection j3 with j3 _ _;subst j3;simp only[node,List.drop_zero]at g4;rw[List.take_of_length_le (by rw[Array.length_toList,j4];exact Nat.le_refl _)]at g4;refine⟨_,A0,cur.toList,rfl,g4,?_,qy hI h1 (by simpa using hl) Dx L' H1 (λk' s j q hm aL=>H2 k' s j q (List.mem_cons_of_mem _ hm) aL)⟩;refine Own.move (λk' aL=>⟨?_,rfl⟩) (λk' dd rest _ aL=>⟨H2 k' d i _ (by simp) aL,rfl⟩) j5;rcases aL with aL|⟨_,_,aL,_⟩
        ·exact H1 k' aL
        ·cases aL
      ·exact h.elim
     ·exact h.elim
    ·exact h.elim
   ·exact h.elim
 | (t,.ptr n)::ps,i,y,mu,log,h,hl,hA,L',H1,H2=>by
  cases A0 with
  | nil=>simp at hl
  | cons c A0 =>
   obtain⟨aD,rfl,h⟩:=h;have hs:=hI.aX i;have hc:c=a.tmps.getD i undef:=by
    have:=hA 0 ⟨t,.ptr n,rfl,by simp⟩;simpa using this
   subst hc;have Dx:∀j,(∃t m,ps[j]?=some (t,m)/\m.back=true)->A0[j]?=some (a.tmps.getD (i+1+j) undef):=λj hj=>by
    have:=hA (j+1) (by simpa using hj);rw[show i+1+j=i+(j+1)by omega];simpa using this
   generalize hv:T.getD i .dead=v at h hs;dsimp only at h;split at h
   ·rename_i k t' y';split at h
    ·rename_i ht;subst ht;split at h
     ·rename_i hk;subst hk;obtain⟨⟨r,mr⟩,l1,l2,rfl,h1,h2⟩:=M.aq h;obtain⟨h2,_⟩:=h2;injection h2 with h2 h3;subst h2 h3;obtain⟨_,g,cur,e,hf,hL,hg,hz,ho⟩:=hs;refine⟨_,A0,rfl,⟨g,cur,e,hf,H2 g i i _ (by simp) hL,hg,hz,?_⟩,qy hI h1 (by simpa using hl) Dx L' H1 (λk' s j q hm aL=>H2 k' s j q (List.mem_cons_of_mem _ hm) aL)⟩;refine Own.move (λk' aL=>⟨?_,rfl⟩) (λk' d rest _ aL=>⟨H2 k' i i _ (by simp) aL,rfl⟩) ho;rcases aL with aL|⟨_,_,aL,_⟩
      ·exact H1 k' aL
      ·cases aL
     ·exact h.elim
    ·exact h.elim
   ·exact h.elim
 | (t,.ro)::ps,i,y,mu,log,h,hl,hA,L',H1,H2=>by
  cases A0 with
  | nil=>simp at hl
  | cons c A0 =>
   refine⟨c,A0,rfl,qy (ps:=ps) (i:=i+1) hI h (by simpa using hl) (λj hj=>?_) L' H1 H2⟩;have:=hA (j+1) (by simpa using hj);rw[show i+1+j=i+(j+1)by omega];simpa using this
 | (t,.bU _)::ps,i,y,mu,log,h,hl,hA,L',H1,H2=>by
  cases A0 with
  | nil=>simp at hl
  | cons c A0 =>
   refine⟨c,A0,rfl,qy (ps:=ps) (i:=i+1) hI h (by simpa using hl) (λj hj=>?_) L' H1 H2⟩;have:=hA (j+1) (by simpa using hj);rw[show i+1+j=i+(j+1)by omega];simpa using this
theorem tl:{ps:List (Ty×Mode)}->{i:Nat}->{y:(cD ps).den}->{mu:List (Nat×Nat)}->{log:List Nat}->(kY i ps).aj T (y,mu) log ->
  ∀s j,(s,j)∈mu->i<=j/\(∃t m,ps[j - i]?=some (t,m)/\m.back=true)/\∀s',(s',j)∈mu->s'=s
 | [],i,y,mu,log,h=>by
  obtain⟨h,_⟩:=h;injection h with _ h;subst h;simp
 | (t,.mut n)::ps,i,y,mu,log,h=>by
  obtain⟨aD,rfl,h⟩:=h;have key:∀{d:Nat} {y2:(cD ps).den} {mr:List (Nat×Nat)} {l:List Nat},(kY (i+1) ps).aj T (y2,mr) l->mu=(d,i)::mr->∀s j,(s,j)∈mu->i<=j/\(∃t' m',((t,Mode.mut n)::ps)[j - i]?=some (t',m')/\m'.back=true)/\∀s',(s',j)∈mu->s'=s:=by
   intro d y2 mr l h1 gd s j hm;subst gd;have ih:=tl h1;rcases List.mem_cons.1 hm with hm|hm
   ·injection hm with h2 h3;subst h2 h3;refine⟨Nat.le_refl _,⟨t,.mut n,by simp,by simp⟩,λs' bZ=>?_⟩;rcases List.mem_cons.1 bZ with bZ|bZ
    ·injection bZ
    ·have:=(ih s' j bZ).1;omega
   ·obtain⟨e1,⟨t',n',e2,lD⟩,e3⟩:=ih s j hm;refine⟨by omega,⟨t',n',by rw[show j - i=(j - (i+1))+1 by omega];simpa using e2,lD⟩,λs' bZ=>?_⟩;rcases List.mem_cons.1 bZ with bZ|bZ
    ·injection bZ with _ h3;omega
    ·exact e3 s' bZ
  generalize hv:T.getD i .dead=v at h;dsimp only at h;split at h
  ·split at h
   ·split at h
    ·obtain⟨⟨r,mr⟩,l1,l2,rfl,h1,h2⟩:=M.aq h;obtain⟨h2,_⟩:=h2;injection h2 with h2 h3;exact key h1 h3
    ·exact h.elim
   ·exact h.elim
  ·rename_i d tv;obtain⟨log2,rfl,h⟩:=h;generalize T.getD d .dead=u at h;dsimp only at h;split at h
   ·split at h
    ·split at h
     ·obtain⟨⟨r,mr⟩,l1,l2,rfl,h1,h2⟩:=M.aq h;obtain⟨h2,_⟩:=h2;injection h2 with h2 h3;exact key h1 h3
     ·exact h.elim
    ·exact h.elim
   ·exact h.elim
  ·exact h.elim
 | (t,.ptr n)::ps,i,y,mu,log,h=>by
  obtain⟨aD,rfl,h⟩:=h;have key:∀{d:Nat} {y2:(cD ps).den} {mr:List (Nat×Nat)} {l:List Nat},(kY (i+1) ps).aj T (y2,mr) l->mu=(d,i)::mr->∀s j,(s,j)∈mu->i<=j/\(∃t' m',((t,Mode.ptr n)::ps)[j - i]?=some (t',m')/\m'.back=true)/\∀s',(s',j)∈mu->s'=s:=by
   intro d y2 mr l h1 gd s j hm;subst gd;have ih:=tl h1;rcases List.mem_cons.1 hm with hm|hm
   ·injection hm with h2 h3;subst h2 h3;refine⟨Nat.le_refl _,⟨t,.ptr n,by simp,by simp⟩,λs' bZ=>?_⟩;rcases List.mem_cons.1 bZ with bZ|bZ
    ·injection bZ
    ·have:=(ih s' j bZ).1;omega
   ·obtain⟨e1,⟨t',n',e2,lD⟩,e3⟩:=ih s j hm;refine⟨by omega,⟨t',n',by rw[show j - i=(j - (i+1))+1 by omega];simpa using e2,lD⟩,λs' bZ=>?_⟩;rcases List.mem_cons.1 bZ with bZ|bZ
    ·injection bZ with _ h3;omega
    ·exact e3 s' bZ
  generalize hv:T.getD i .dead=v at h;dsimp only at h;split at h
  ·split at h
   ·split at h
    ·obtain⟨⟨r,mr⟩,l1,l2,rfl,h1,h2⟩:=M.aq h;obtain⟨h2,_⟩:=h2;injection h2 with h2 h3;exact key h1 h3
    ·exact h.elim
   ·exact h.elim
  ·exact h.elim
 | (t,.ro)::ps,i,y,mu,log,h=>by
  intro s j hm;obtain⟨e1,⟨t',n',e2,lD⟩,e3⟩:=tl (ps:=ps) (i:=i+1) h s j hm;exact⟨by omega,⟨t',n',by rw[show j - i=(j - (i+1))+1 by omega];simpa using e2,lD⟩,e3⟩
 | (t,.bU _)::ps,i,y,mu,log,h=>by
  intro s j hm;obtain⟨e1,⟨t',n',e2,lD⟩,e3⟩:=tl (ps:=ps) (i:=i+1) h s j hm;exact⟨by omega,⟨t',n',by rw[show j - i=(j - (i+1))+1 by omega];simpa using e2,lD⟩,e3⟩
end
def Mode.val(t:Ty)(x:t.den):Mode->V
 | .ptr n=>.box none n t x
 | .mut n=>.d none n t x
 | .bU n=>.d none n t x
 | .ro=>.d none 0 t x
def zK(w:World)(L0:Nat->ak)(i:Nat)(t:Ty)(x:t.den)(c:Value):Mode->Prop
 | .ptr n=>tY w L0 (λk=>L0 k = .au) i n t x c
 | .mut n=>∃cells,Form t cells c/\Own w L0 (λk=>L0 k = .au) i n t x [] 0 cells
 | .bU n=>∃cells,Form t cells c/\Own w L0 (λk=>L0 k = .au) i n t x [] 0 cells
 | .ro=>∃cells,Form t cells c/\Own w L0 (λk=>L0 k = .au) i 0 t x [] 0 cells
def oN:(ps:List (Ty×Mode))->(dn ps).den->List V
 | [],_=>[]
 | (t,m)::ps,x=>m.val t x.1::oN ps x.2
def aS(N:Nat)(ps:List (Ty×Mode))(x:(dn ps).den):List V:=oN ps x++List.replicate (N - ps.length) .dead
def xg(C:Ctx)(bj:dI)(vs:List Nat)(N:Nat)(aV:Nat->Option Nat)(hx:Hints)(ps:List (Ty×Mode)):Env :=
 { step:=M0 C bj vs hx N,N:=N,pins:=λp=>(jm 0 ps).contains p,aV:=aV }
def Xf(C:Ctx)(ps:List (Ty×Mode))(rs:List (Ty×Nat))(sl:List RV):Ex->List V->Option (Ty.pair (cX rs) (cD ps)).den
 | .ext _,_=>none
 | _,T=>(bif xb rs then Kj C ps rs sl else Dl ps rs sl).runK T [] λ_ r=>some r
noncomputable def abd(C:Ctx)(bj:dI)(vs:List Nat)(N:Nat)(aV:Nat->Option Nat)(hx:Hints)(ps:List (Ty×Mode))(rs:List (Ty×Nat))(sl:List RV)(c:Code):Fn :=
 { ps:=ps,rs:=rs,al:=λx=>aw (xg C bj vs N aV hx ps) c (Xf C ps rs sl) (aS N ps x) }
section
variable{P:Program}{C:Ctx}{w w' w0:World}{L L' L0:Nat->ak}{N:Nat}{vs:List Nat}{T T':List V}{a:Act}
theorem dT.cons{m:Mode}{i:Nat}{x:(dn ((t,m)::ps)).den}{cs:List Value}(h:dT w L0 i ((t,m)::ps) x cs):
  ∃c bl,cs=c::bl/\zK w L0 i t x.1 c m/\dT w L0 (i+1) ps x.2 bl:=by
 match m,x,h with
 | .ptr n,x,h=>exact h
 | .mut n,x,h =>
  obtain⟨c,bl,cells,h1,h2,h3,h4⟩:=h;exact⟨c,bl,h1,⟨cells,h2,h3⟩,h4⟩
 | .bU n,x,h =>
  obtain⟨c,bl,cells,h1,h2,h3,h4⟩:=h;exact⟨c,bl,h1,⟨cells,h2,h3⟩,h4⟩
 | .ro,x,h =>
  obtain⟨c,bl,cells,h1,h2,h3,h4⟩:=h;exact⟨c,bl,h1,⟨cells,h2,h3⟩,h4⟩
theorem dT.len[ae]:{ps:List (Ty×Mode)}->{i:Nat}->{x:(dn ps).den}->{cs:List Value}->dT w L0 i ps x cs->cs.length=ps.length
 | [],_,_,_,h=>by simp only[dT]at h;subst h;rfl
 | (t,m)::ps,i,x,cs,h=>by
  obtain⟨c,bl,rfl,_,h⟩:=h.cons;simp[dT.len h]
theorem dT.get[ae]:{ps:List (Ty×Mode)}->{i:Nat}->{x:(dn ps).den}->{cs:List Value}->dT w L0 i ps x cs->∀(s:Nat) (t:Ty) (m:Mode),ps[s]?=some (t,m) ->
  ∃y c,(oN ps x)[s]?=some (m.val t y)/\cs[s]?=some c/\zK w L0 (i+s) t y c m
 | [],_,_,_,_,s,t,m,h=>by simp at h
 | (t0,m0)::ps,i,x,cs,h,s,t,m,hs=>by
  obtain⟨c,bl,rfl,h1,h⟩:=h.cons;cases s with
  | zero =>
   simp only[List.getElem?_cons_zero,Option.some.injEq,Prod.mk.injEq]at hs;obtain⟨rfl,rfl⟩:=hs;exact⟨x.1,c,rfl,rfl,h1⟩
  | succ s =>
   obtain⟨y,c',e1,e2,e3⟩:=dT.get h s t m (by simpa using hs);exact⟨y,c',by simpa[oN]using e1,by simpa using e2,by rw[show i+(s+1)=i+1+s by omega];exact e3⟩
theorem Mode.auW{x:t.den}:{m:Mode}->m.owned t=true->(m.val t x).aO=true
 | .ro,h=>by cases h
 | .mut n,h=>h
 | .bU n,h=>h
 | .ptr n,_=>rfl
theorem Mode.auX{x:t.den}:{m:Mode}->(m.val t x).root=none
 | .ro=>rfl
 | .mut _=>rfl
 | .bU _=>rfl
 | .ptr _=>rfl
theorem zK.slot{i:Nat}{x:t.den}{c:Value}{T:List V}{tm:Array Value}:{m:Mode}->zK w L0 i t x c m->aB L0 T tm i (m.val t x) w c
 | .ro,h=>by
  obtain⟨cells,h1,h2⟩:=h;exact⟨by simp,cells,h1,Own.move (λk hk=>⟨.inl hk,rfl⟩) (λk d rest _ hk=>⟨hk,rfl⟩) h2⟩
 | .mut n,h=>by
  obtain⟨cells,h1,h2⟩:=h;exact⟨by simp,cells,h1,Own.move (λk hk=>⟨.inl hk,rfl⟩) (λk d rest _ hk=>⟨hk,rfl⟩) h2⟩
 | .bU n,h=>by
  obtain⟨cells,h1,h2⟩:=h;exact⟨by simp,cells,h1,Own.move (λk hk=>⟨.inl hk,rfl⟩) (λk d rest _ hk=>⟨hk,rfl⟩) h2⟩
 | .ptr n,h=>by
  obtain⟨g,cur,e,h1,h2,h3,h4,h5⟩:=h;exact⟨by simp,g,cur,e,h1,h2,h3,h4,Own.move (λk hk=>⟨.inl hk,rfl⟩) (λk d rest _ hk=>⟨hk,rfl⟩) h5⟩
theorem qf:{ps:List (Ty×Mode)}->{x:(dn ps).den}->(oN ps x).length=ps.length
 | [],_=>rfl
 | (t,m)::ps,x=>by simp[oN,qf]
theorem MR[ae]{x:(dn ps).den}(s:Nat):(aS N ps x).getD s .dead=((oN ps x)[s]?).getD .dead:=by
 unfold aS;rw[List.getD_eq_getElem?_getD];by_cases h:s<ps.length
 ·rw[List.getElem?_append_left (by rw[qf];exact h)]
 ·rw[List.getElem?_append_right (by rw[qf];omega),List.getElem?_eq_none (l:=oN ps x) (by rw[qf];omega)];rw[List.getElem?_replicate];split<;>rfl
theorem ars[ae]{x:(dn ps).den}{args:Array Value}(hl:jB w L0 ps)(ha:dT w L0 0 ps x args.toList)(hN:ps.length<=N)(vs:List Nat):
  Inv w L0 N vs (aS N ps x) { tmps:=args++Array.replicate (N - args.size) undef,defers:=[] } w L0:=by
 have hlen:args.size=ps.length:=by simpa using ha.len
 refine⟨by simp;omega,by simp[aS,qf];omega,rfl,⟨rfl,rfl,rfl,Nat.le_refl _,Nat.le_refl _,λ_ _ _=>⟨rfl,rfl⟩,hl.gP⟩,hl.free,hl.inj,λk s q h=>?_,λs r h=>?_,λs=>?_⟩
 ·obtain⟨t,m,h1,h2⟩:=hl.owner k s q h;obtain⟨y,c,e1,_⟩:=ha.get s t _ h1;rw[MR,e1];exact Mode.auW h2
 ·rw[MR]at h;cases hp:ps[s]? with
  | none =>
   rw[List.getElem?_eq_none (by rw[qf];exact List.getElem?_eq_none_iff.1 hp)]at h;simp[V.on,V.root]at h
  | some p =>
   obtain⟨t,m⟩:=p;obtain⟨y,c,e1,_⟩:=ha.get s t m hp;rw[e1]at h;unfold V.on at h;rw[Option.getD_some,Mode.auX]at h;cases h
 ·rw[MR];cases hp:ps[s]? with
  | none =>
   rw[List.getElem?_eq_none (by rw[qf];exact List.getElem?_eq_none_iff.1 hp)];trivial
  | some p =>
   obtain⟨t,m⟩:=p;obtain⟨y,c,e1,e2,e3⟩:=ha.get s t m hp;rw[e1];have hs:s<args.size:=by rw[hlen];exact (List.getElem?_eq_some_iff.1 hp).1
   have hc:(args++Array.replicate (N - args.size) undef).getD s undef=c:=by
    rw[Array.getD_eq_getD_getElem?,Array.getElem?_append_left hs];rw[Array.getElem?_toList]at e2;rw[e2];rfl
   rw[Nat.zero_add]at e3;rw[Option.getD_some,hc];exact e3.slot
theorem Dk{m:Nat}{ss:List Src}{l:ak}{s':Nat}{q':List Nat}(h:gO m mu ss l = .own s' q'):
  ∃s q,l = .own s q/\(((s,s')∈mu/\q'=q)\/∃p y rest,ss.find? (λp=>p.s==s)=some p/\q=y::rest/\y<p.sz/\s'=m/\q'=(p.o+y)::rest):=by
 cases l with
 | own s q =>
  unfold gO at h;dsimp only at h;split at h
  ·rename_i p hp;injection h with h1 h2;have n1:p.1=s:=by simpa using List.find?_some hp
   refine⟨s,_,rfl,.inl ⟨?_,h2.symm⟩⟩;have:=List.mem_of_find?_eq_some hp;rw[<-n1,<-h1];exact this
  ·split at h
   ·rename_i p hp;split at h
    ·split at h
     ·split at h
      ·injection h with h1 h2;exact⟨s,_,rfl,.inr ⟨p,_,_,hp,rfl,by assumption,h1.symm,h2.symm⟩⟩
      ·cases h
     ·cases h
    ·cases h
   ·cases h
 | au=>cases h
 | free=>cases h
 | other=>cases h
theorem alC[ae](hI:Inv w0 L0 N vs T a w L)(hC:bF P C){rs:List (Ty×Nat)}{sl:List RV}{r:(Ty.pair (cX rs) (cD ps)).den}{A0:List Value}(h:(Kj C ps rs sl).aj T r log)
  (hl:ps.length=A0.length) (hA:∀j,(∃t m,ps[j]?=some (t,m)/\m.back=true)->A0[j]?=some (a.tmps.getD j undef)) :
  ∃L' cs,rb P w a sl cs/\Left w0 w L0 L' ps rs/\iO w L' ps.length 0 rs r.1 cs/\fP w L' 0 ps r.2 A0:=by
 obtain⟨R,l1,l2,rfl,h1,h⟩:=M.aq h;obtain⟨⟨m,mu⟩,l3,l4,rfl,h2,hc,rfl,_⟩:=M.aq h;simp only[Bool.and_eq_true,List.all_eq_true,Bool.not_eq_true']at hc;obtain⟨⟨⟨cW,er⟩,gd⟩,nr⟩:=hc;have Mi:∀{x:Nat} {l:List Nat},l.contains x=false->x∉l:=λh hm=>by rw[List.contains_iff_mem.2 hm]at h;cases h
 obtain⟨cs,k0,k1,k2,k3⟩:=abZ hI hC h1;have nq:=tl h2;have da:∀p∈R.ss,p.s∉mu.map (·.1):=λp hp hm=>Mi (gd p.s hm) (List.mem_map_of_mem hp);refine⟨λk=>gO ps.length mu R.ss (L k),cs,k0,⟨hI.fr.os,hI.fr.tape,hI.fr.output,hI.fr.size,hI.fr.drawn,λk hk h0=>?_,λk hk=>by rw[hI.free k hk];rfl,λk k' s q e e'=>?_,λk s q e=>?_⟩,
  k3 _ _ (λk hk=>by rw[hk];rfl) (λk r q hr hk=>?_) (λp k i rest hp hk hi=>?_),qy hI h2 hl (λj hj=>by rw[Nat.zero_add];exact hA j hj) _ (λk hk=>by rw[hk];rfl) (λk s j q hm hk=>?_)⟩
 ·have:=hI.fr.aV k hk h0;refine⟨?_,this.2⟩;rw[this.1];rcases h0 with h0|h0<;>rw[h0]<;>rfl
 ·obtain⟨s1,q1,e1,e2⟩:=Dk e;obtain⟨s2,q2,e3,e4⟩:=Dk e';have ax:∀s j,(s,j)∈mu->j<ps.length:=λs j hs=>by
   obtain⟨_,⟨t,n,h,_⟩,_⟩:=nq s j hs;exact (List.getElem?_eq_some_iff.1 (by simpa using h)).1
  rcases e2 with⟨h1,rfl⟩|⟨p,y,rest,h1,rfl,h3,rfl,rfl⟩
  ·rcases e4 with⟨h2,rfl⟩|⟨p,y,rest,h2,rfl,h3,rfl,_⟩
   ·obtain rfl:=(nq s2 s h2).2.2 s1 h1;exact hI.inj k k' _ _ e1 e3
   ·exact absurd (ax _ _ h1) (Nat.lt_irrefl _)
  ·rcases e4 with⟨h2,rfl⟩|⟨p',y',fA,h2,rfl,h4,_,h5⟩
   ·exact absurd (ax _ _ h2) (Nat.lt_irrefl _)
   ·injection h5 with h5 h6;subst h6;have m1:=List.mem_of_find?_eq_some h1;have m2:=List.mem_of_find?_eq_some h2;have n1:p.s=s1:=by simpa using List.find?_some h1
    have n2:p'.s=s2:=by simpa using List.find?_some h2
    by_cases hs:s1=s2
    ·subst hs;rw[h1]at h2;injection h2 with h2;subst h2;have:y=y':=by omega
     subst this;exact hI.inj k k' _ _ e1 e3
    ·have:=k2 p p' m1 m2 (by rw[n1,n2];exact hs);omega
 ·obtain⟨s1,q1,e1,e2⟩:=Dk e;rcases e2 with⟨h1,rfl⟩|⟨p,y,rest,h1,rfl,h3,rfl,rfl⟩
  ·obtain⟨_,⟨t,n,h,h'⟩,_⟩:=nq _ _ h1;exact .inr ⟨t,n,by simpa using h,h'⟩
  ·obtain⟨_,t,h2,h3,h4⟩:=k1 p (List.mem_of_find?_eq_some h1);exact .inl ⟨rfl,t,p.n,h2,.inl ⟨h3,h4⟩⟩
 ·rw[hk];have:=er r hr;exact alz (Mi this.2) (Mi this.1)
 ·rw[hk,alA cW (da p hp) hp hi];exact⟨λh=>by rw[if_pos h],λh=>by rw[if_neg (by omega)]⟩
 ·rw[hk];unfold gO;dsimp only;rw[Xo nr hm]
theorem alB[ae](hI:Inv w0 L0 N vs T a w L){rs:List (Ty×Nat)}{sl:List RV}{r:(Ty.pair (cX rs) (cD ps)).den}{A0:List Value}(h:(Dl ps rs sl).aj T r log)
  (hl:ps.length=A0.length) (hA:∀j,(∃t m,ps[j]?=some (t,m)/\m.back=true)->A0[j]?=some (a.tmps.getD j undef)) :
  ∃L' cs,rb P w a sl cs/\Left w0 w L0 L' ps rs/\jC w L' ps.length rs r.1 cs/\fP w L' 0 ps r.2 A0:=by
 unfold Dl at h;split at h
 ·rename_i _ t n s;obtain⟨aD,rfl,h⟩:=h;have hb:=M.aq (m:=sf s (T.getD s .dead)) h;clear h;obtain⟨⟨sb,z⟩,l3,l4,rfl,sF,h⟩:=hb;obtain⟨hv,e9⟩:=WC hI sF;obtain⟨k,t',y⟩:=z;dsimp only at h hv;have hs:=hI.aX sb;rw[hv]at hs;split at h
  ·rename_i ht;subst ht;split at h
   ·rename_i hk;obtain⟨⟨m,mu⟩,l1,l2,rfl,h2,cW,rfl,_⟩:=M.aq h;have nq:=tl h2;have am2:cm (((sb,ps.length)::mu).map (·.1))=true:=cW;have ax:∀s j,(s,j)∈mu->j<ps.length:=λs j hs=>by
     obtain⟨_,⟨t,n,h,_⟩,_⟩:=nq s j hs;exact (List.getElem?_eq_some_iff.1 (by simpa using h)).1
    have anr:∀s1 s2 j,(s1,j)∈(sb,ps.length)::mu->(s2,j)∈(sb,ps.length)::mu->s1=s2:=by
     intro s1 s2 j h1 h2;rcases List.mem_cons.1 h1 with h1|h1
     ·injection h1 with e1 e2;rcases List.mem_cons.1 h2 with h2|h2
      ·injection h2 with e3 e4;rw[e1,e3]
      ·exact absurd (ax _ _ h2) (by omega)
     ·rcases List.mem_cons.1 h2 with h2|h2
      ·injection h2 with e3 e4;exact absurd (ax _ _ h1) (by omega)
      ·exact (nq s2 j h2).2.2 s1 h1
    have bA:∀{l:ak} {s':Nat} {q':List Nat},gO ps.length ((sb,ps.length)::mu) [] l = .own s' q'->∃s1,l = .own s1 q'/\(s1,s')∈(sb,ps.length)::mu:=by
     intro l s' q' e;obtain⟨s1,q1,e1,e2⟩:=Dk e;rcases e2 with⟨h1,rfl⟩|⟨p,y,rest,h1,_⟩
     ·exact⟨s1,e1,h1⟩
     ·simp at h1
    have Lc:∀{s1 j:Nat} {q:List Nat},(s1,j)∈(sb,ps.length)::mu->gO ps.length ((sb,ps.length)::mu) [] (.own s1 q) = .own j q:=by
     intro s1 j q hm;unfold gO;dsimp only;rw[Xo am2 hm]
    obtain⟨_,g,cur,e,hf,hL,hg,hz,ho⟩:=hs;rw[<-e9]at hf;refine⟨λk=>gO ps.length ((sb,ps.length)::mu) [] (L k),[a.tmps.getD s undef],⟨_,[],rfl,rfl,rfl⟩,⟨hI.fr.os,hI.fr.tape,hI.fr.output,hI.fr.size,hI.fr.drawn,λk hk h0=>?_,λk hk=>by rw[hI.free k hk];rfl,λk k' s1 q e e'=>?_,λk s1 q e=>?_⟩,
     .inr ⟨by omega,_,rfl,g,cur,e,hf,by show gO _ _ _ (L g)=_;rw[hL];exact Lc (by simp),hg,hz,?_⟩,qy hI h2 hl (λj hj=>by rw[Nat.zero_add];exact hA j hj) _ (λk hk=>by rw[hk];rfl) (λk s1 j q hm hk=>by rw[hk];exact Lc (List.mem_cons_of_mem _ hm))⟩
    ·have:=hI.fr.aV k hk h0;refine⟨?_,this.2⟩;rw[this.1];rcases h0 with h0|h0<;>rw[h0]<;>rfl
    ·obtain⟨a1,e1,e2⟩:=bA e;obtain⟨a2,e3,e4⟩:=bA e';obtain rfl:=anr _ _ _ e2 e4;exact hI.inj k k' _ _ e1 e3
    ·obtain⟨a1,e1,e2⟩:=bA e;rcases List.mem_cons.1 e2 with e2|e2
     ·injection e2 with _ e2;exact .inl ⟨e2,t',n,by simp,.inr (by omega)⟩
     ·obtain⟨_,⟨t,n,h,h'⟩,_⟩:=nq _ _ e2;exact .inr ⟨t,n,by simpa using h,h'⟩
    ·have hkn:n - 1000=k:=by omega
     rw[hkn];refine Own.move (λk hk=>⟨?_,rfl⟩) (λk d rest _ hk=>⟨by show gO _ _ _ (L k)=_;rw[hk];exact Lc (by simp),rfl⟩) ho;show gO _ _ _ (L k)=_;rcases hk with hk|⟨_,_,hk,_⟩
     ·rw[hk];rfl
     ·cases hk
   ·exact h.elim
  ·exact h.elim
 ·exact h.elim
theorem ab8{fn:Func}{sl:List RV}{cs:List Value}(hr:fn.results.toList=sl.map RV.var)(hf:rb P w a sl cs):(results fn a.tmps).run P w = .ok (oS cs) w:=by
 have hm:∀g:ResultVar->Sem Value,(∀t,g (.tmp t)=pure (a.tmps.getD t undef))->(∀s X,g (.cell s X)=(do loadVar X (<-asAddr (a.tmps.getD s undef))))->(fn.results.mapM g).run P w = .ok cs.toArray w:=by
  intro g oF KM;rw[Array.mapM_eq_mapM_toList,hr];have:∀(sl:List RV) (cs:List Value),rb P w a sl cs->((sl.map RV.var).mapM g).run P w = .ok cs w:=by
   intro sl;induction sl with
   | nil=>intro cs h;obtain rfl:cs=[]:=h;simp
   | cons s sl ih =>
    intro cs h;obtain⟨c,bl,rfl,h1,h2⟩:=h;have aT:(g s.var).run P w = .ok c w:=by
     cases s with
     | tmp t =>
      obtain rfl:c=_:=h1;show (g (.tmp t)).run P w=_;rw[oF];rfl
     | cell t X =>
      obtain⟨A,h3,h4⟩:=h1;show (g (.cell t X)).run P w=_;rw[KM,h3];simp[asAddr,h4]
    simp only[List.map_cons,List.mapM_cons,Sem.run_bind,aT,Result.andThen_ok,ih bl h2,Sem.run_pure]
  have h2:=this sl cs hf;simp only[Sem.run_map,h2,Result.andThen_ok]
 unfold results;rw[Sem.run_bind,hm _ (λt=>rfl) (λs X=>rfl),Result.andThen_ok,Sem.run_pure]
 match cs with
 | []=>rfl
 | [s]=>rfl
 | s::s'::l=>rfl
theorem apX[ae]{bj:dI}{aV:Nat->Option Nat}{hx:Hints}{rs:List (Ty×Nat)}{sl:List RV}{c:Code}{f:FuncId}{fn:Func}(lM:P.follows .mixedOrders=true)(hC:bF P C)(ed:fY P bj)
  (hf : P.funcs[f]? = some fn) (gf : (fn.name == "runtime.NumGoroutine") = false) (hb : fn.body = some c) (hN : fn.ntmps = N) (hr : fn.results.toList = sl.map RV.var) (lQ : ps.length <= N) :
  an P f (abd C bj vs N aV hx ps rs sl c):=by
 refine⟨⟨fn,hf,gf,by rw[hb];rfl⟩,λx r fa w L0 args hl ha=>?_⟩;change jB w L0 ps at hl;change dT w L0 0 ps x args.toList at ha;have hlen:args.size=ps.length:=by have:=ha.len;rw[<-this];simp
 refine calls_of_wp hf hb ?_;rw[hN];have ba:rX P w L0 vs (xg C bj vs N aV hx ps):=art lM hC ed rfl;let A0:Array Value:=args++Array.replicate (N - args.size) undef;have hJ:J w L0 vs (xg C bj vs N aV hx ps) A0 (aS N ps x) { tmps:=args++Array.replicate (N - args.size) undef,defers:=[] } w:=⟨⟨L0,ars hl ha lQ vs⟩,λ_ _=>rfl⟩;refine wp_mono (pG (A0:=A0) ba fa _ _ hJ) ?_
 rintro e a' w' ⟨ex,T',rfl,hk,⟨L,hI⟩,sR⟩
 have YS:∀j,(∃t m,ps[j]?=some (t,m)/\m.back=true)->args.toList[j]?=some (a'.tmps.getD j undef):=λj hj=>by
  have hm:(xg C bj vs N aV hx ps).pins j=true:=by
   show (jm 0 ps).contains j=true;rw[List.contains_iff_mem];exact abn.2 ⟨Nat.zero_le _,by simpa using hj⟩
  obtain⟨t,n,hj,_⟩:=hj;have ax:j<args.size:=by rw[hlen];exact (List.getElem?_eq_some_iff.1 hj).1
  rw[sR j hm];show _=some ((args++Array.replicate (N - args.size) undef).getD j undef);rw[Array.getD_eq_getD_getElem?,Array.getElem?_append_left ax];simp[ax]
 have vY:∀{log:List Nat},(bif xb rs then Kj C ps rs sl else Dl ps rs sl).aj T' r log->a'.defers=[]/\∃v,(results fn a'.tmps).run P w' = .ok v w'/\∃cs L',Ending.returned v = .returned (oS cs)/\Left w w' L0 L' ps rs/\jC w' L' ps.length rs r.1 cs/\fP w' L' 0 ps r.2 args.toList:=by
  intro log aT;cases wo:xb rs with
  | true =>
   rw[wo]at aT;obtain⟨L',cs,h0,h1,h2,h3⟩:=alC hI hC aT (A0:=args.toList) (by simpa using hlen.symm) YS;exact⟨hI.dO,_,ab8 hr h0,_,L',rfl,h1,(jC.low wo).2 h2,h3⟩
  | false =>
   rw[wo]at aT;obtain⟨L',cs,h0,h1,h2,h3⟩:=alB hI aT (A0:=args.toList) (by simpa using hlen.symm) YS;exact⟨hI.dO,_,ab8 hr h0,_,L',rfl,h1,h2,h3⟩
 cases ex with
 | ext i=>cases hk
 | bM =>
  obtain⟨r',log,h1,h2⟩:=M.lf hk;injection h2 with h2;subst h2;exact vY h1
 | ret =>
  obtain⟨r',log,h1,h2⟩:=M.lf hk;injection h2 with h2;subst h2;exact vY h1
end
end Go.Proofs.YthfgcmoipebheaaGreat.P.Am
