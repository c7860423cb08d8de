/- A part of the proof: Am61,Am62,Am63,Am64,Am30,Am31. No conditions. -/
import Derived.Test.YthfgcmoipebheaaGreatPG6
import Derived.Test.YthfgcmoipebheaaGreatPG5
set_option linter.unusedVariables false
set_option linter.unusedSimpArgs false
namespace Go.Proofs.YthfgcmoipebheaaGreat.P.Am
variable{log:List Nat}{ups:List (Nat×V)}{d n:Nat}{o:Oper}{m:M (List (Nat×V))}{t:Ty}{X:TypeId}{ps:List (Ty×Mode)}{args:Array Operand}{cA:Array TypeId}{mu:List (Nat×Nat)}
def sC(N:Nat):List Nat->M (List (Nat×V))->M (List (Nat×V))
 | [],m=>m
 | s::l,m=>.get s λv=>match v with
  | .box none n t x =>
   if s<N then
    gQ true s s [] (((sC N l m).eC [(s,.rp none t x)]).bind λups=>.ret ((s,.rp none t x)::ups))
   else sC N l m
  | _=>sC N l m
def wz(N t:Nat)(m:M (List (Nat×V))):M (List (Nat×V)):=
 .get t λv=>match v with
  | .d none 0 (.cap none te) x=>cond (decide (t<N)) (.cD te x λy=>(m.eC [(t,.rp none te y)]).bind λups=>.ret ((t,.rp none te y)::ups)) m
  | _=>m
def uC:List Operand->M ((t:Ty)×t.den)
 | []=>.ret ⟨.unit,()⟩
 | .tmp s::l=>.get s λv=>match v with
  | .rp none t x=>(uC l).bind λr=>.ret ⟨.pair (.cap none t) r.1,(some x,r.2)⟩
  | _=>.fail
 | .const (.pointer none)::l=>(uC l).bind λr=>.ret ⟨.pair (.cap none .unit) r.1,((none:Option Unit),r.2)⟩
 | _=>.fail
def SO(d:Nat)(g:FuncId)(gv:List Operand):M (List (Nat×V)):=
 .bj (!(g==jL)) ((uC gv).bind λz=>.ret [(d,.d none 0 (.cap (some g) z.1) (some z.2))])
def gi:(ps:List (Ty×Mode))->(T:Ty)->T.den->Option (cX ps).den
 | [],.unit,_=>some ()
 | (t,.ro)::ps,.pair (.cap k t') r,y=>if h:Ty.cap k t'=t then (gi ps r y.2).map λz=>(h▸y.1,z)else none
 | _,_,_=>none
def uw(C:Ctx):(ps:List (Ty×Mode))->List Operand->(T:Ty)->T.den->M (kO ps)
 | ps,[],T,y=>match gi ps T y with
  | some x=>.ret ⟨x,[],[]⟩
  | none=>.fail
 | (t,.ro)::ps,x::xs,T,y=>(oV C t x).bind λu=>(uw C ps xs T y).bind λr=>.ret ⟨(u.1,r.x),u.2++r.ls,r.mu⟩
 | _,_,_,_=>.fail
def Hf(C:Ctx)(bd:dp)(vs:List Nat)(d s:Nat)(args:List Operand):M (List (Nat×V)):=
 .get s λv=>match v with
  | .d none 0 (.cap (some g) T) y=>.cD T y λy=>match bd g with
   | none=>.fail
   | some F=>(uw C F.ps args T y).bind λA=>.cD (.pair (cL F.rs) (cu F.ps)) (F.ao A.x) λr=>match lO vs A.ls F.rs r.1 with
    | some v=>.ret [(d,v)]
    | none=>.fail
  | _=>.fail
section
variable{P:Program}{C:Ctx}{w w' w0:World}{L L' L0:Nat->aj}{s N:Nat}{vs:List Nat}{T T':List V}{a:Act}
theorem Jk{T:List V}{s:Nat}{u:V}(bb:s<T.length)(z:Nat):(T.set s u).getD z .dead=(ej [(s,u)] z).getD (T.getD z .dead):=by
 simp only[ej];rw[aF];by_cases h1:z=s
 ·subst h1;simp[bb]
 ·have e1:(s==z)=false:=by simpa using Ne.symm h1
  rw[e1];simp[h1]
theorem Inv.akA[ae](hI:Inv w0 L0 N vs T a w L){s:Nat}{x:t.den}(hs:s<N)(hv:T.getD s .dead = .box none n t x)(af:∀z,(T.getD z .dead).on s=false):
  ∃L',Inv w0 L0 N vs (T.set s (.rp none t x)) a w L':=by
 have bb:s<T.length:=by rw[hI.len];exact hs
 have jx:fi (λz q=>cond (z==s) aj.an (.own z q)) (λz=>z=s):=by
  refine⟨λz q hX=>?_,λz q z' q' hX h=>?_,λz q z2 q2 z' q' h1 h2=>?_,λz q=>?_⟩
  ·have:(z==s)=false:=by simpa using hX
   rw[this];rfl
  ·have:(z==s)=true:=by simpa using hX
   rw[this]at h;cases h
  ·cases h3:z==s with
   | true=>rw[h3]at h1;cases h1
   | false =>
    cases h4:z2==s with
    | true=>rw[h4]at h2;cases h2
    | false =>
     rw[h3]at h1;rw[h4]at h2;simp only[cond_false]at h1 h2;rw[<-h2]at h1;injection h1 with e1 e2;exact⟨e1,e2⟩
  ·cases z==s<;>simp
 refine⟨aS (λz q=>cond (z==s) aj.an (.own z q)) w L (λ_=>.free),Inv.gr hI jx (Wd.refl hI _) (λ_ _ _ _ _ h=>by cases h) hI.size (by simp[hI.len]) hI.dB ?_ ?_ ?_ ?_ ?_⟩
 ·intro k s' q bL h;subst bL;unfold aS at h;split at h
  ·obtain⟨s0,q0,e0,f0⟩:=eD h;cases h3:s0==s' with
   | true=>rw[h3]at f0;cases f0
   | false =>
    rw[h3]at f0;simp only[cond_false]at f0;injection f0 with f0 _;rw[f0]at h3;simp at h3
  ·cases h
 ·intro z r hz ho hr;subst hr;rw[af z]at ho;cases ho
 ·intro z hz;rw[aF,if_neg (λh=>hz h.1)];exact⟨rfl,rfl⟩
 ·intro z r hz ho;subst hz;rw[aF,if_pos ⟨rfl,bb⟩]at ho;simp[V.on,V.root]at ho
 ·intro z hz;subst hz;rw[aF,if_pos ⟨rfl,bb⟩];have vu:=hI.aV z;rw[hv]at vu;obtain⟨_,g,cur,e,h2,h3,h4,h5,h6⟩:=vu;have a6:∀k q,L k = .own z q->aS (λz' q=>cond (z'==z) aj.an (.own z' q)) w L (λ_=>.free) k = .an:=by
   intro k q hk;rw[cP hI (by rw[hk];simp),hk];show cond _ _ _=_;rw[beq_self_eq_true];rfl
  refine⟨by simp,g,0,cur.toList,h2,.inl (a6 g [] h3),?_,λi v hv=>?_⟩
  ·refine Own.eo (Own.eO (L':=aS (λz' q=>cond (z'==z) aj.an (.own z' q)) w L (λ_=>.free)) (s':=z) (q2:=[]) (o2:=0) (Nat.zero_le _) (λk hk=>?_) (λk d rest _ hk=>⟨rfl,λh=>absurd h (Nat.not_lt_zero _),λ_=>.inl (a6 k _ hk)⟩) h6);rcases hk with hk|⟨_,_,hk,_⟩
   ·exact⟨.inl (dX hI hk),rfl⟩
   ·cases hk
  ·rw[Nat.zero_add,Ho h4];simpa using hv
theorem CT[ae]:{l:List Nat}->{T:List V}->{L:Nat->aj}->{ups:List (Nat×V)}->{log:List Nat}->Inv w0 L0 N vs T a w L->(sC N l m).ai T ups log ->
  ∃T1 L1 bF log2,Inv w0 L0 N vs T1 a w L1/\m.ai T1 bF log2/\ag T ups=ag T1 bF
 | [],T,L,ups,log,hI,h=>⟨T,L,ups,log,hI,h,rfl⟩
 | s::l,T,L,ups,log,hI,h=>by
  simp only[sC]at h;obtain⟨aC,rfl,h⟩:=h;dsimp only at h;split at h
  ·rename_i n t x hv;split at h
   ·rename_i bX;obtain⟨cG,log2,h⟩:=jt h;obtain⟨bF,l3,l4,rfl,h1,h2⟩:=M.al h;obtain⟨rfl,_⟩:=h2;have bb:s<T.length:=by rw[hI.len];exact bX
    obtain⟨fq,h1⟩:=oo (T':=T.set s (.rp none t x)) (by simp) (λz hz=>by
     simp only[List.map_cons,List.map_nil,List.mem_cons,List.not_mem_nil,or_false]at hz;rw[hz];exact bb) (Jk bb) _ h1
    obtain⟨L1,bq⟩:=Inv.akA hI bX hv (λz=>by
      by_cases hz:z=s
      ·subst hz;rw[hv];rfl
      ·simpa using cG z hz)
    obtain⟨T1,L2,jd,iT,k1,k2,k3⟩:=CT bq h1;exact⟨T1,L2,jd,iT,k1,k2,k3⟩
   ·exact CT hI h
  ·exact CT hI h
theorem J5[ae]{t:Nat}(hI:Inv w0 L0 N vs T a w L)(h:(wz N t m).ai T ups log):
  ∃T1 L1 bF log2,Inv w0 L0 N vs T1 a w L1/\m.ai T1 bF log2/\ag T ups=ag T1 bF:=by
 unfold wz at h;obtain⟨aC,rfl,h⟩:=h;dsimp only at h;split at h
 ·rename_i te x hv;cases hc:decide (t<N)with
  | false=>rw[hc]at h;exact⟨T,L,ups,_,hI,h,rfl⟩
  | true =>
   rw[hc,cond_true]at h;obtain⟨y,hy,h⟩:=h;obtain⟨bF,l3,l4,rfl,h1,h2⟩:=M.al h;clear h;obtain⟨rfl,_⟩:=h2;have htN:=of_decide_eq_true hc;have bb:t<T.length:=by rw[hI.len];exact htN
   obtain⟨fq,h1⟩:=oo (T':=T.set t (.rp none te y)) (by simp) (λz hz=>by
     simp only[List.map_cons,List.map_nil,List.mem_cons,List.not_mem_nil,or_false]at hz;rw[hz];exact bb) (Jk bb) _ h1
   have jx:fi (λz q=>aj.own z q) (λz=>z=t):=by
    refine⟨λz q _=>rfl,λz q z' q' hX h=>?_,λz q z2 q2 z' q' h1 h2=>?_,λz q=>?_⟩
    ·injection h with h _;rw[<-h];exact hX
    ·rw[<-h2]at h1;injection h1 with e1 e2;exact⟨e1,e2⟩
    ·simp
   have cj:∀z,(T.getD z .dead).on t=true->(T.getD t .dead).aJ=false:=λz _=>by rw[hv];rfl
   refine⟨T.set t (.rp none te y),aS (λz q=>aj.own z q) w L (λ_=>.free),bF,fq,Inv.gr hI jx (Wd.refl hI _) (λ_ _ _ _ _ h=>by cases h) hI.size (by simp[hI.len]) hI.dB ?_ ?_ ?_ ?_ ?_,h1,rfl⟩
   ·intro k s' q bL h;subst bL;unfold aS at h;split at h
    ·obtain⟨s0,q0,e0,f0⟩:=eD h;injection f0 with f0 _;have:=hI.owner k _ _ e0;rw[f0,hv]at this;cases this
    ·cases h
   ·intro z r _ ho hr;subst hr;exact cj z ho
   ·intro z hz;rw[aF,if_neg (λh=>hz h.1)];exact⟨rfl,rfl⟩
   ·intro z r hz ho;subst hz;rw[aF,if_pos ⟨rfl,bb⟩]at ho;simp[V.on,V.root]at ho
   ·intro z hz;subst hz;rw[aF,if_pos ⟨rfl,bb⟩];have vu:=hI.aV z;rw[hv]at vu;obtain⟨_,cs,hf,ho⟩:=vu;have hr:=Own.eo ho;rw[hy]at hr;simp only[Rd]at hr;have cV:cs=[a.tmps.getD z undef]:=hf;rcases hr with⟨h,_⟩|⟨y',es,e1,e2,g,o,e3,e4,e5⟩
    ·cases h
    ·injection e1 with e1;subst e1;rw[cV]at e3;have e3:=(List.cons.inj e3).1;have hm:∀k,SL L none k->SL (aS (λz q=>aj.own z q) w L (λ_=>.free)) none k/\w.heap[k]?=w.heap[k]?:=by
      rintro k (hk|⟨_,_,hk,_⟩)
      ·exact⟨.inl (dX hI hk),rfl⟩
      ·cases hk
     exact⟨by simp,g,o,es,e3,(hm g e4).1,Rd.move hm e2,e5⟩
 ·exact⟨T,L,ups,_,hI,h,rfl⟩
theorem Hn[ae](hI:Inv w0 L0 N vs T a w L):{l:List Operand}->{z:(t:Ty)×t.den}->{log:List Nat}->(uC l).ai T z log->Rd w (SL L none) z.1 z.2 (l.map a.eval)
 | [],z,log,h=>by
  obtain⟨rfl,_⟩:=h
  first|rfl|simp[Rd]
 | x::l,z,log,h=>by
  unfold uC at h;split at h
  ·rename_i he;cases he
  ·rename_i s l' he;injection he with e1 e2;subst e1 e2;obtain⟨aC,rfl,h⟩:=h;dsimp only at h;split at h
   ·rename_i t x hv;obtain⟨r,l1,l2,rfl,h1,h2⟩:=M.al h;obtain⟨rfl,_⟩:=h2;have hs:=hI.aV s;rw[hv]at hs;obtain⟨_,g,o,cs,e1,e2,e3,e4⟩:=hs;have ih:=Hn hI h1;simp only[Rd];refine⟨[a.eval (.tmp s)],l.map a.eval,rfl,.inr ⟨x,cs,rfl,e3,g,o,?_,e2,e4⟩,ih⟩;show [a.tmps.getD s undef]=_;rw[e1]
   ·exact h.elim
  ·rename_i l' he;injection he with e1 e2;subst e1 e2;obtain⟨r,l1,l2,rfl,h1,h2⟩:=M.al h;obtain⟨rfl,_⟩:=h2;have ih:=Hn hI h1;simp only[Rd];refine⟨[.pointer none],l.map a.eval,rfl,?_,ih⟩
   first|exact .inl ⟨rfl,rfl⟩|simp[rE]
  ·exact h.elim
theorem alO[ae](hI:Inv w0 L0 N vs T a w L){g:FuncId}{gv:Array Operand}   
  (ho:o.op = .makeFunc (.func g) #[] gv) (aw:o.dst=some d) (hd:d<N) (hid:(T.getD d .dead).idle=true)
  (h:(SO d g gv.toList).ai T ups log):Step P o w0 L0 N vs (ag T ups) a w:=by
 obtain⟨hg,h⟩:=h;obtain⟨z,l1,l2,rfl,h1,h2⟩:=M.al h;obtain⟨rfl,_⟩:=h2;have hr:=Hn hI h1;have b8:aK P o vs T a w L d (.d none 0 (.cap (some g) z.1) (some z.2)):=by
  refine aK.still hI (c:=.func (.func g) #[] (gv.map a.eval)) ?_ (λr=>rfl) ?_
  ·simp[execOp,ho,Instr.makeFunc]
  ·refine⟨by simp,[.func (.func g) #[] (gv.map a.eval)],rfl,?_⟩;simp only[Own,Rd];refine .inr ⟨z.2,gv.toList.map a.eval,rfl,hr,by simpa using hg,?_⟩;show [_]=[_];congr 2;apply Array.ext';simp
 intro K Q hK;exact aK.inv hI hd hid aw b8 hK
theorem SG{S:Nat->Prop}{L1:Nat->aj}(hS:∀k,S k->L1 k = .an):{ps:List (Ty×Mode)}->{t:Ty}->{y:t.den}->{x:(cX ps).den}->{i:Nat}->{es:List Value}->gi ps t y=some x->Rd w S t y es->dH w L1 i ps x es
 | [],.unit,y,x,i,es,h,hr=>by
  simp only[Rd]at hr;subst hr;rfl
 | (t,.ro)::ps,.pair (.cap k t') r,y,x,i,es,h,hr=>by
  simp only[gi]at h;split at h
  ·rename_i ht;subst ht;obtain⟨z,hz,h⟩:∃z,gi ps r y.2=some z/\(y.1,z)=x:=by
    cases hc:gi ps r y.2 with
    | none=>rw[hc]at h;cases h
    | some z=>rw[hc]at h;injection h with h;exact⟨z,rfl,h⟩
   subst h;simp only[Rd]at hr;obtain⟨c0,c1,rfl,h0,h1⟩:=hr;have TQ:Rd w S (.cap k t') y.1 c0:=by simp only[Rd];exact h0
   have hl:=Rd.len TQ
   match c0,hl with
   | [c],_ =>
    refine⟨c,c1,[c],rfl,rfl,?_,SG hS hz h1⟩;exact Own.dw (Rd.move (λk hk=>⟨hS k hk,rfl⟩) TQ)
  ·cases h
 | [],.int _,_,_,_,_,h,_|[],.bool,_,_,_,_,h,_|[],.str,_,_,_,_,h,_|[],.raw _,_,_,_,_,h,_|[],.pair _ _,_,_,_,_,h,_|[],.agg _,_,_,_,_,h,_|[],.slice _ _,_,_,_,_,h,_|[],.cap _ _,_,_,_,_,h,_=>by simp[gi]at h
 | (_,.mut _)::_,_,_,_,_,_,h,_|(_,.ptr _)::_,_,_,_,_,_,h,_|(_,.bP _)::_,_,_,_,_,_,h,_=>by simp[gi]at h
 | (_,.ro)::_,.int _,_,_,_,_,h,_|(_,.ro)::_,.bool,_,_,_,_,h,_|(_,.ro)::_,.str,_,_,_,_,h,_|(_,.ro)::_,.raw _,_,_,_,_,h,_|(_,.ro)::_,.unit,_,_,_,_,h,_|(_,.ro)::_,.agg _,_,_,_,_,h,_|(_,.ro)::_,.slice _ _,_,_,_,_,h,_|(_,.ro)::_,.cap _ _,_,_,_,_,h,_=>by simp[gi]at h
 | (_,.ro)::_,.pair (.int _) _,_,_,_,_,h,_|(_,.ro)::_,.pair .bool _,_,_,_,_,h,_|(_,.ro)::_,.pair .str _,_,_,_,_,h,_|(_,.ro)::_,.pair (.raw _) _,_,_,_,_,h,_|(_,.ro)::_,.pair .unit _,_,_,_,_,h,_|(_,.ro)::_,.pair (.agg _) _,_,_,_,_,h,_|(_,.ro)::_,.pair (.slice _ _) _,_,_,_,_,h,_|(_,.ro)::_,.pair (.pair _ _) _,_,_,_,_,h,_=>by simp[gi]at h
theorem SH:{ps:List (Ty×Mode)}->{t:Ty}->{y:t.den}->{x:(cX ps).den}->gi ps t y=some x->∀(j:Nat) (u:Ty) (m:Mode),ps[j]?=some (u,m)->m = .ro
 | [],_,_,_,_,j,u,m,hj=>by simp at hj
 | (t,.ro)::ps,.pair (.cap k t') r,y,x,h,j,u,m,hj=>by
  cases j with
  | zero=>simp at hj;exact hj.2.symm
  | succ j =>
   simp only[gi]at h;split at h
   ·cases hc:gi ps r y.2 with
    | none=>rw[hc]at h;cases h
    | some z=>exact SH hc j u m (by simpa using hj)
   ·cases h
 | (_,.mut _)::_,_,_,_,h,_,_,_,_|(_,.ptr _)::_,_,_,_,h,_,_,_,_|(_,.bP _)::_,_,_,_,h,_,_,_,_=>by simp[gi]at h
 | (_,.ro)::_,.int _,_,_,h,_,_,_,_|(_,.ro)::_,.bool,_,_,h,_,_,_,_|(_,.ro)::_,.str,_,_,h,_,_,_,_|(_,.ro)::_,.raw _,_,_,h,_,_,_,_|(_,.ro)::_,.unit,_,_,h,_,_,_,_|(_,.ro)::_,.agg _,_,_,h,_,_,_,_|(_,.ro)::_,.slice _ _,_,_,h,_,_,_,_|(_,.ro)::_,.cap _ _,_,_,h,_,_,_,_=>by simp[gi]at h
 | (_,.ro)::_,.pair (.int _) _,_,_,h,_,_,_,_|(_,.ro)::_,.pair .bool _,_,_,h,_,_,_,_|(_,.ro)::_,.pair .str _,_,_,h,_,_,_,_|(_,.ro)::_,.pair (.raw _) _,_,_,h,_,_,_,_|(_,.ro)::_,.pair .unit _,_,_,h,_,_,_,_|(_,.ro)::_,.pair (.agg _) _,_,_,h,_,_,_,_|(_,.ro)::_,.pair (.slice _ _) _,_,_,h,_,_,_,_|(_,.ro)::_,.pair (.pair _ _) _,_,_,h,_,_,_,_=>by simp[gi]at h
theorem Sp[ae](hI:Inv w0 L0 N vs T a w L){y:t.den}{es:List Value}(hy:Rd w (SL L none) t y es):{ps:List (Ty×Mode)}->{xs:List Operand}->{A:kO ps}->{log:List Nat}->(i:Nat)->(uw C ps xs t y).ai T A log ->
  (∀r∈A.ls,(T.getD r .dead).deep=true)/\(∀(j:Nat) (u:Ty) (m:Mode),ps[j]?=some (u,m)->m = .ro) /\
  ∀L1:Nat->aj,(∀k,L k = .an->L1 k = .an)->(∀k r q,r∈A.ls->L k = .own r q->L1 k = .an)->dH w L1 i ps A.x (xs.map a.eval++es)
 | ps,[],A,log,i,h=>by
  unfold uw at h;split at h
  ·rename_i x hx;obtain⟨rfl,_⟩:=h;refine⟨by simp,SH hx,λL1 H1 _=>?_⟩;exact SG (λk hk=>by
    rcases hk with hk|⟨_,_,hk,_⟩
    ·exact H1 k hk
    ·cases hk) hx hy
  ·exact h.elim
 | (u,.ro)::ps,x::xs,A,log,i,h=>by
  simp only[uw]at h;obtain⟨⟨z,ls⟩,l1,l2,rfl,h1,h⟩:=M.al h;obtain⟨A',l3,l4,rfl,h2,h⟩:=M.al h;obtain⟨rfl,_⟩:=h;obtain⟨cells,k1,k2,k3⟩:=uv hI h1;obtain⟨j1,j2,j3⟩:=Sp hI hy (i+1) h2;refine⟨λr hr=>?_,λj u' m hj=>?_,λL1 H1 H2=>?_⟩
  ·rcases List.mem_append.1 hr with hr|hr
   ·exact k2 r hr
   ·exact j1 r hr
  ·cases j with
   | zero=>simp at hj;exact hj.2.symm
   | succ j=>exact j2 j u' m (by simpa using hj)
  ·exact⟨a.eval x,_,cells,rfl,k1,Own.dw (k3 _ H1 (λk r q hr hk=>H2 k r q (List.mem_append_left _ hr) hk)),j3 L1 H1 (λk r q hr hk=>H2 k r q (List.mem_append_right _ hr) hk)⟩
 | [],_::_,_,_,_,h=>h.elim
 | (_,.mut _)::_,_::_,_,_,_,h=>h.elim
 | (_,.ptr _)::_,_::_,_,_,_,h=>h.elim
 | (_,.bP _)::_,_::_,_,_,_,h=>h.elim
theorem ak9{s:Nat}{f:FuncId}{fn:Func}{gv:Array Value}(Iu:o.op = .call { callee:=.value (.tmp s),args,argTypes:=cA })
  (hs : a.tmps.getD s undef = .func (.func f) #[] gv) (hf : P.funcs[f]? = some fn) (fT : (fn.name == "runtime.NumGoroutine") = false) (hb : fn.body.isNone = false) : (execOp a.eval o).run P w = .ok (.enter f (args.map a.eval ++ gv)) w := by
 have h1 : ¬ fn.name = "runtime.NumGoroutine" := by simpa using fT
 have h2:¬fn.body=none:=by cases hx:fn.body<;>simp_all
 have h3:a.eval (.tmp s) = .func (.func f) #[] gv:=hs;unfold execOp;simp[Iu,resolve,Deferred.ofValue,invoke,callFunc,hf,h1,h2,h3]
theorem alH[ae](hI:Inv w0 L0 N vs T a w L){bd:dp}(dN:fO P bd){s:Nat}{d:Nat}  
  (ho:o.op = .call { callee:=.value (.tmp s),args,argTypes:=cA }) (aw:o.dst=some d) (hd:d<N) (hid:(T.getD d .dead).idle=true)
  (h:(Hf C bd vs d s args.toList).ai T ups log):Step P o w0 L0 N vs (ag T ups) a w:=by
 unfold Hf at h;obtain⟨aC,rfl,h⟩:=h;dsimp only at h;split at h
 ·rename_i g t y0 hv;obtain⟨y,hy,h⟩:=h;split at h
  ·exact h.elim
  ·rename_i F hF;obtain⟨⟨fn,gZ,fT,mq⟩,aI⟩:=dN g F hF;have hb:=M.al h;clear h;obtain⟨A,l1,l2,rfl,h1,h⟩:=hb;have hs:=hI.aV s;rw[hv]at hs;obtain⟨_,cs,hf,bO⟩:=hs;have bz:=Own.eo bO;rw[hy]at bz;simp only[Rd]at bz;have cV:cs=[a.tmps.getD s undef]:=hf;rcases bz with⟨h0,_⟩|⟨y',es,e1,e2,e3⟩
   ·cases h0
   injection e1 with e1;subst e1;have e3:cs=[.func (.func g) #[] es.toArray]:=e3.2;rw[cV]at e3;have e3:=(List.cons.inj e3).1;obtain⟨dT,vt,gz⟩:=Sp hI e2 0 h1;have aM:=ak9 (P:=P) (a:=a) (w:=w) ho e3 gZ fT mq;have lk:∀r∈A.ls,r≠d:=λr hr=>cW hid (V.eP (dT r hr));obtain⟨r,eK,h⟩:=h;dsimp only at h;split at h
   ·rename_i v cI;obtain⟨rfl,_⟩:=h;intro K Q hK;unfold Oper.wp;rw[aM,Oper.upon_enter];have mC:jm w (λk=>cF none A.ls (L k)) F.ps:=by
     refine⟨λk hk=>by rw[hI.free k hk];rfl,λk k' s q h h'=>?_,λk s q h=>?_,ae.aR hI.fr.gy λk hk h0=>⟨?_,(hI.fr.aR k hk h0).2⟩⟩
     ·obtain⟨r1,e1,e2⟩:=kM h;cases e1
     ·obtain⟨r1,e1,e2⟩:=kM h;cases e1
     ·rw[(hI.fr.aR k hk h0).1];rcases h0 with h0|h0<;>rw[h0]<;>simp[cF]
    have dt:=gz (λk=>cF none A.ls (L k)) (λk hk=>by rw[hk];rfl) (λk r q hr hk=>by
     rw[hk];unfold cF;dsimp only;rw[if_pos (by simpa using hr)])
    refine Calls.mono (aI A.x r eK w _ (args.map a.eval++es.toArray) mC (by simpa using dt)) ?_
    rintro e w' ⟨bf,L',rfl,a7,b8,jC⟩
    dsimp only;rw[aw];refine hK _ _ (dq none F.ps.length d L L') ?_;have mH:∀(j:Nat) (t:Ty) (m:Mode),F.ps[j]?=some (t,m)->m.back=true->False:=by
     intro j t m hj hm;rw[vt j t m hj]at hm;cases hm
    have bQ:(ag T [(d,v)]).getD d .dead=v:=by
     show (T.set d v).getD d .dead=v;rw[aF,if_pos ⟨rfl,by rw[hI.len];exact hd⟩]
    have bn:∀s,s≠d->(ag T [(d,v)]).getD s .dead=T.getD s .dead:=by
     intro s hs;show (T.set d v).getD s .dead=_;rw[aF,if_neg (λe=>hs e.1)]
    obtain⟨k1,k2,k3⟩:=wo (T':=ag T [(d,v)]) (d:=d) hI a7 rfl (λr hr=>by rw[bn r (lk r hr)];exact dT r hr) b8 cI;exact Inv.called hI hd hid rfl (λr i h=>by cases h) a7 (by rw[ct,hI.len]) (λj t n hj hm=>(mH j t n hj hm).elim) (λr i h=>by cases h) (λs r i h=>by cases h) (λs hs _=>bn s hs) bQ k1 k2 (λr i h=>by cases h) k3
   ·exact h.elim
 ·exact h.elim
end
def pT(vs:List Nat)(N:Nat):List Nat->M (List (Nat×V))->M (List (Nat×V))
 | [],m=>m
 | s::l,m=>.get s λv=>match v with
  | .view r p t=>(lN s v).bind λz=>cond (decide (s<N)&&fu vs (.d z.1 0 z.2.1 z.2.2)&&z.1 != some s)
    (((pT vs N l m).eC [(s,.d z.1 0 z.2.1 z.2.2)]).bind λups=>.ret ((s,.d z.1 0 z.2.1 z.2.2)::ups)) (pT vs N l m)
  | _=>pT vs N l m
def JE:V:=.d none 0 (.cap (some jL) .unit) none
def isNil:V->Bool
 | .d none 0 (.cap (some f) .unit) _=>f==jL
 | _=>false
def Hm(d:Nat)(l:List Operand)(m:M (List (Nat×V))):M (List (Nat×V)):=match l with
 | [.tmp s]=>.get s λv=>cond (isNil v) (.ret [(d,.d none 0 (.int .i64) (0:Int))]) m
 | _=>m
def Hx(C:Ctx)(vs:List Nat)(N d:Nat)(hint:Bool)(X:TypeId)(s:Nat)(lo hi:Option Operand)(m:M (List (Nat×V))):M (List (Nat×V)):=
 .get s λv=>cond (isNil v) ((iX C lo).bind λl=>(iX C hi).bind λh=>.bj (l.getD 0==0&&h.getD 0==0) (match C.ty X with
   | some (.slice _ _)=>.ret [(d,JE)]
   | _=>.fail))
  (cond hint (match v with
   | .d none (n+1) (.slice e t) xs=>(iX C lo).bind λl=>(iX C hi).bind λh=>cond (l.getD 0==0&&h==some 0 && !vs.contains s&&decide (s≠d)) (match C.ty X with
     | some (.slice e' t')=>cond (decide (e'=e/\t'=t)) (.ret [(s,.dead),(d,.d none (n+1) (.slice e t) [])]) .fail
     | _=>.fail) .fail
   | _=>m) m)
def JD(C:Ctx)(d:Nat)(hint:Bool)(X:TypeId)(x:Operand)(m:M (List (Nat×V))):M (List (Nat×V)):=match x with
 | .tmp s=>cond hint (.get s λv=>cond (isNil v) (match C.ty X with
   | some (.slice e t)=>.ret [(d,.d none (t.depth+1) (.slice e t) [])]
   | _=>.fail) m) m
 | _=>m
def KK(C:Ctx)(d:Nat)(X X2:TypeId)(s x:Operand)(m:M (List (Nat×V))):M (List (Nat×V)):=match s with
 | .tmp s=>.get s λv=>cond (isNil v) (match C.ty X,C.ty X2 with
   | some (.slice e t),some (.int _)=>(cC C X2 x).bind λu=>match u with
    | .d _ _ (.int .i64) n=>.bj (decide (0<n)&&decide (t.sz≠0)&&decide (n*C.bytes e<=140737488355328)&&decide (n<=140737488355328)) (.ret [(d,.d none (t.depth+1) (.slice e t) (List.replicate n.toNat t.zero))])
    | _=>.fail
   | _,_=>.fail) m
 | _=>m
section
variable{P:Program}{C:Ctx}{w w' w0:World}{L L' L0:Nat->aj}{s N:Nat}{vs:List Nat}{T T':List V}{a:Act}
theorem Cg[ae](hI:Inv w0 L0 N vs T a w L){s:Nat}(h:isNil (T.getD s .dead)=true):a.tmps.getD s undef = .slice none 0 0:=by
 have hs:=hI.aV s;generalize T.getD s .dead=v at h hs;unfold isNil at h;split at h
 ·rename_i f x;obtain⟨_,cs,hf,ho⟩:=hs;have hr:=Own.eo ho;simp only[Rd]at hr;have hf:cs=[a.tmps.getD s undef]:=hf;rcases hr with⟨_,hr⟩|⟨_,_,_,_,hr⟩
  ·rw[hf]at hr;have hr:=(List.cons.inj hr).1;rw[hr];show cond (f==jL) _ _=_;rw[h];rfl
  ·have:=hr.1;rw[h]at this;cases this
 ·cases h
theorem akf{tm:Array Value}:az L T tm d JE w (.slice none 0 0):=by
 refine⟨by simp,[.slice none 0 0],rfl,?_⟩;simp[Own,Rd,rE]
theorem vM[ae]:{l:List Nat}->{T:List V}->{L:Nat->aj}->{ups:List (Nat×V)}->{log:List Nat}->Inv w0 L0 N vs T a w L->(pT vs N l m).ai T ups log ->
  ∃T1 L1 bF log2,Inv w0 L0 N vs T1 a w L1/\m.ai T1 bF log2/\ag T ups=ag T1 bF
 | [],T,L,ups,log,hI,h=>⟨T,L,ups,log,hI,h,rfl⟩
 | s::l,T,L,ups,log,hI,h=>by
  simp only[pT]at h;obtain⟨aC,rfl,h⟩:=h;dsimp only at h;split at h
  ·rename_i r p t hv;have hb:=M.al h;clear h;obtain⟨⟨lz,tz,yz⟩,l1,l2,rfl,hz,h⟩:=hb;dsimp only at h;cases hc:(decide (s<N)&&fu vs (.d lz 0 tz yz)&&lz != some s)with
   | false=>rw[hc]at h;exact vM hI h
   | true =>
    rw[hc,cond_true]at h;simp only[Bool.and_eq_true,decide_eq_true_eq,bne_iff_ne,ne_eq]at hc;obtain⟨⟨bX,aI⟩,dT⟩:=hc;obtain⟨bF,l3,l4,rfl,h1,h2⟩:=M.al h;clear h;obtain⟨rfl,_⟩:=h2;have bb:s<T.length:=by rw[hI.len];exact bX
    obtain⟨fq,h1⟩:=oo (T':=T.set s (.d lz 0 tz yz)) (by simp) (λz hz=>by
     simp only[List.map_cons,List.map_nil,List.mem_cons,List.not_mem_nil,or_false]at hz;rw[hz];exact bb) (Jk bb) _ h1
    have iO:=hI.aV s;obtain⟨cells,hf,bz,cr⟩:=p9 hI hz iO (λ_=>rfl);have jx:fi (λz q=>aj.own z q) (λz=>z=s):=by
     refine⟨λz q _=>rfl,λz q z' q' hX h=>?_,λz q z2 q2 z' q' h1 h2=>?_,λz q=>?_⟩
     ·injection h with h _;rw[<-h];exact hX
     ·rw[<-h2]at h1;injection h1 with e1 e2;exact⟨e1,e2⟩
     ·simp
    have cj:(T.getD s .dead).aJ=false:=by rw[hv];rfl
    have bq:Inv w0 L0 N vs (T.set s (.d lz 0 tz yz)) a w (aS (λz q=>aj.own z q) w L (λ_=>.free)):=by
     refine Inv.gr hI jx (Wd.refl hI _) (λ_ _ _ _ _ h=>by cases h) hI.size (by simp[hI.len]) hI.dB ?_ ?_ ?_ ?_ ?_
     ·intro k s' q bL h;subst bL;unfold aS at h;split at h
      ·obtain⟨s0,q0,e0,f0⟩:=eD h;injection f0 with f0 _;have:=hI.owner k _ _ e0;rw[f0,cj]at this;cases this
      ·cases h
     ·intro z r _ ho hr;subst hr;exact cj
     ·intro z hz;rw[aF,if_neg (λh=>hz h.1)];exact⟨rfl,rfl⟩
     ·intro z r hz ho;subst hz;rw[aF,if_pos ⟨rfl,bb⟩]at ho;exact sy aI r ho
     ·intro z hz;subst hz;rw[aF,if_pos ⟨rfl,bb⟩];have hm:∀k,SL L lz k->SL (aS (λz q=>aj.own z q) w L (λ_=>.free)) lz k/\w.heap[k]?=w.heap[k]?:=by
       rintro k (hk|⟨r,q,hl,hk⟩)
       ·exact⟨.inl (dX hI hk),rfl⟩
       ·exact⟨.inr ⟨r,q,hl,by rw[cP hI (by rw[hk];simp),hk];rfl⟩,rfl⟩
      refine⟨λr hr=>?_,cells,hf,Own.dw (Rd.move hm bz)⟩;rw[aF,if_neg (λe=>dT (by rw[hr,e.1]))];exact cr r hr
    obtain⟨T1,L2,jd,iT,k1,k2,k3⟩:=vM bq h1;exact⟨T1,L2,jd,iT,k1,k2,k3⟩
  ·exact vM hI h
theorem alN[ae](hI:Inv w0 L0 N vs T a w L){b:Builtin}(hb:b = .cap\/b = .len)      
  (hu:∀X,cA[0]?=some X->∃e,P.underlying X=some (.slice e)) (bl:cA.size=1) (ho:o.op = .call { callee:=.builtin b,args,argTypes:=cA }) (aw:o.dst=some d) (hd:d<N) (hid:(T.getD d .dead).idle=true)
  (h:(Hm d args.toList m).ai T ups log) (hm:∀log,m.ai T ups log->Step P o w0 L0 N vs (ag T ups) a w):Step P o w0 L0 N vs (ag T ups) a w:=by
 obtain⟨args⟩:=args;obtain⟨cA⟩:=cA;unfold Hm at h;dsimp only at h;split at h
 ·rename_i s;obtain⟨aC,rfl,h⟩:=h;dsimp only at h;cases hn:isNil (T.getD s .dead)with
  | false=>rw[hn]at h;exact hm _ h
  | true =>
   rw[hn,cond_true]at h;obtain⟨rfl,_⟩:=h;have hv:=Cg hI hn
   match cA,bl with
   | [X],_ =>
    obtain⟨e,he⟩:=hu X rfl;have cN:a.eval (.tmp s) = .slice none 0 0:=hv;have b8:aK P o vs T a w L d (.d none 0 (.int .i64) (0:Int)):=by
     refine aK.still hI (c:=.int .i64 0) ?_ (λ_=>rfl) az.mkInt;rcases hb with rfl|rfl
     ·simp[execOp,ho,resolve,invoke,builtin,Builtin.cap_,cN,run_underlying he,goInt]
     ·simp[execOp,ho,resolve,invoke,builtin,Builtin.len_,cN,run_underlying he,goInt]
    intro K Q hK;exact aK.inv hI hd hid aw b8 hK
 ·exact hm _ h
end
section
variable{P:Program}{C:Ctx}{w w' w0:World}{L L' L0:Nat->aj}{s N:Nat}{vs:List Nat}{T T':List V}{a:Act}
theorem JP{l:Option Int}(h:(l.getD 0==0)=true):l.getD 0=0:=by simpa using h
theorem alP[ae](hI:Inv w0 L0 N vs T a w L)(hC:bA P C){s:Nat}{hint:Bool}{lo hi:Option Operand}{m:M (List (Nat×V))}  
  (ho:o.op = .slice X (.tmp s) lo hi none) (aw:o.dst=some d) (hd:d<N) (hid:(T.getD d .dead).idle=true)
  (h:(Hx C vs N d hint X s lo hi m).ai T ups log) (hm:∀log,m.ai T ups log->Step P o w0 L0 N vs (ag T ups) a w):Step P o w0 L0 N vs (ag T ups) a w:=by
 have key:∀c,(Instr.sliceAt X (a.eval (.tmp s)) (lo.map a.eval) (hi.map a.eval) none).run P w = .ok c w->(execOp a.eval o).run P w = .ok (.value c) w:=by
  intro c hc;simp[execOp,ho,hc]
 unfold Hx at h;obtain⟨aC,rfl,h⟩:=h;dsimp only at h;cases hn:isNil (T.getD s .dead)with
 | true =>
  rw[hn,cond_true]at h;have hv:=Cg hI hn;obtain⟨l,l1,l2,rfl,hl,h⟩:=M.al h;obtain⟨z,l3,l4,rfl,hh,h⟩:=M.al h;obtain⟨hc,h⟩:=h;rw[Bool.and_eq_true]at hc;split at h
  ·rename_i e t hX;obtain⟨rfl,_⟩:=h;obtain⟨hu,he⟩:=(hC X _ hX).bW;have el:=nq (z:=0) (np hI hl);have eh:=nq (z:=0) (np hI hh);rw[JP hc.1]at el;rw[JP hc.2]at eh;have aM:=CZ (P:=P) (w:=w) hu ((hC e t he).run_sizeOf) (A:=none) (len:=0) (cap:=0) el eh (by omega) (by omega) (by omega) (by omega);have cN:a.eval (.tmp s) = .slice none 0 0:=hv;have b8:aK P o vs T a w L d JE:=aK.still hI (c:=.slice none 0 0) (key _ (by rw[cN];exact aM)) (λ_=>rfl) akf;intro K Q hK;exact aK.inv hI hd hid aw b8 hK
  ·exact h.elim
 | false =>
  rw[hn,cond_false]at h;cases hint with
  | false=>exact hm _ h
  | true =>
   rw[cond_true]at h;have hs:=hI.aV s;generalize hv:T.getD s .dead=v at h hs;split at h
   ·rename_i n e t xs;obtain⟨l,l1,l2,rfl,hl,h⟩:=M.al h;obtain⟨z,l3,l4,rfl,hh,h⟩:=M.al h;cases hc:(l.getD 0==0&&z==some 0 && !vs.contains s&&decide (s≠d))with
    | false=>rw[hc]at h;exact h.elim
    | true =>
     rw[hc,cond_true]at h;simp only[Bool.and_eq_true,Bool.not_eq_true',decide_eq_true_eq]at hc;obtain⟨⟨⟨dS,eZ⟩,Ud⟩,hc4⟩:=hc;have hz:z=some 0:=by simpa using eZ
     subst hz;split at h
     ·rename_i e' t' hX;cases Ib:decide (e'=e/\t'=t)with
      | false=>rw[Ib]at h;exact h.elim
      | true =>
       rw[Ib,cond_true]at h;obtain⟨rfl,_⟩:=h;obtain⟨rfl,rfl⟩:=of_decide_eq_true Ib;obtain⟨hu,he⟩:=(hC X _ hX).bW;have el:=nq (z:=0) (np hI hl);rw[JP dS]at el;obtain⟨_,cs,hf,bO⟩:=hs;have hf:cs=[a.tmps.getD s undef]:=hf;rw[hf]at bO;have iP:s∉vs:=λhm=>by rw[List.contains_iff_mem.2 hm]at Ud;cases Ud
       have mO:(some s=some s/\s∉vs/\(T.getD s .dead).aJ=true)\/(some s=(none:Option Nat)/\s=d):=.inl ⟨rfl,iP,by rw[hv];simp[V.aJ,Ty.depth]⟩;have fin:∀c,(Instr.sliceAt X (a.eval (.tmp s)) (lo.map a.eval) (hi.map a.eval) none).run P w = .ok c w ->
         (∀(L':Nat->aj),(∀g,L g = .own s [0]->L' g = .own d [0])->Own w L' (SL L' none) d (n+1) (.slice e' t') [] [] 0 [c]) ->
         Step P o w0 L0 N vs (ag T [(s,.dead),(d,.d none (n+1) (.slice e' t') [])]) a w:=by
        intro c aM dt;refine Step.value aw (key c aM) (Inv.app (sb:=some s) (sx:=none) (kept:=true) (b1:=0) (b2:=0) (m:=n) (nl:=λ_=>.free) hI hd hid mO (λs h=>by cases h) (Wd.refl hI _) (λ_ _ _ _ h=>by cases h) rfl (by simp[V.aJ,Ty.depth]) (λT' tm'=>⟨by simp,[c],rfl,dt _ (λg hg=>?_)⟩));rw[cP hI (by rw[hg];simp),hg];show gg d s none true 0 0 n s [0]=_;unfold gg;rw[if_pos rfl];simp
       simp only[Own]at bO;rcases bO with⟨fU,iQ⟩|⟨g,cap,cur,dO,hg,hh1,hh2,hh3,hh4,_⟩
       ·have cN:a.eval (.tmp s) = .slice none 0 0:=(List.cons.inj fU).1;have eh:=nq (z:=0) (np hI hh);have aM:=CZ (P:=P) (w:=w) hu ((hC e' t' he).run_sizeOf) (A:=none) (len:=0) (cap:=0) el eh (by omega) (by simp) (by simp) (by omega);refine fin (.slice none 0 0) (by rw[cN];exact aM) (λL' _=>?_);simp only[Own];exact .inl ⟨by trivial,by trivial⟩
       ·have cN:a.eval (.tmp s) = .slice (some ⟨g,0,none⟩) xs.length cap:=(List.cons.inj dO).1;have eh:=nq (z:=(xs.length:Int)) (np hI hh);have aM:=CZ (P:=P) (w:=w) hu ((hC e' t' he).run_sizeOf) (A:=some ⟨g,0,none⟩) (len:=xs.length) (cap:=cap) el eh (by omega) (by simp) (by simp) hh2;have e0:(if cap=(0:Int).toNat then some (⟨g,0,none⟩:Addr)else (some ⟨g,0,none⟩:Option Addr).map (·.add ((0:Int).toNat*t'.sz)))=some ⟨g,0,none⟩:=by
         split
         ·rfl
         ·simp[Addr.add_lit]
        rw[e0]at aM;refine fin _ (by rw[cN];exact aM) (λL' hL=>?_);simp only[Own];refine .inr ⟨g,cap,cur,by simp,hL g hg,hh1,by simp,hh3,hh4,λj hj=>absurd hj (by simp)⟩
     ·exact h.elim
   ·exact hm _ h
theorem alX[ae](hI:Inv w0 L0 N vs T a w L)(hC:bA P C){x:Operand}{hint:Bool}   
  (ho:pO o x) (aw:o.dst=some d) (hd:d<N) (hid:(T.getD d .dead).idle=true)
  (h:(JD C d hint X x m).ai T ups log) (hm:∀log,m.ai T ups log->Step P o w0 L0 N vs (ag T ups) a w):Step P o w0 L0 N vs (ag T ups) a w:=by
 unfold JD at h;split at h
 ·rename_i s;cases hint with
  | false=>exact hm _ h
  | true =>
   rw[cond_true]at h;obtain⟨aC,rfl,h⟩:=h;dsimp only at h;cases hn:isNil (T.getD s .dead)with
   | false=>rw[hn]at h;exact hm _ h
   | true =>
    rw[hn,cond_true]at h;have hv:=Cg hI hn;split at h
    ·rename_i e t hX;obtain⟨rfl,_⟩:=h;have cN:a.eval (.tmp s) = .slice none 0 0:=hv;have b8:aK P o vs T a w L d (.d none (t.depth+1) (.slice e t) []):=by
      refine aK.still hI (c:=.slice none 0 0) ?_ (λ_=>rfl) ⟨by simp,[.slice none 0 0],rfl,?_⟩
      ·rw[sE ho,cN]
      ·simp only[Own];exact .inl ⟨by trivial,by trivial⟩
     intro K Q hK;exact aK.inv hI hd hid aw b8 hK
    ·exact h.elim
 ·exact hm _ h
theorem afy{w:World}{X2 ty e:TypeId}{i:TypeInfo}{z:Value}{k2:IntKind}(hX:P.underlying X=some (.slice e))(gW:P.underlying X2=some (.int k2))(hi:P.info? e=some i)(hz:i.zero=some z)
  {n:Int} (h0:0<n) (hm:n<=140737488355328) (hb:n*i.bytes<=140737488355328) (bl:i.size≠0) :
  (Builtin.append_ #[X,X2] ty #[.slice none 0 0,.int .i64 n]).run P w = .ok (.slice (some ⟨w.heap.size,0,none⟩) n.toNat (grownCap w n.toNat 0 e))
   (w.drew.alloc (.cells (Builtin.zeroCells z.cells n.toNat++Builtin.zeroCells z.cells (grownCap w n.toNat 0 e - n.toNat)) e)):=by
 obtain⟨n,rfl⟩:∃k:Nat,n=k:=⟨n.toNat,by omega⟩;have hbn:n*i.bytes<=140737488355328:=by
  have:((n*i.bytes:Nat):Int)<=140737488355328:=by rw[Int.natCast_mul];exact hb
  omega
 have hf:=growslice_fits (need:=n) (old:=0) (bytes:=i.bytes) (by omega) hbn;have e1:¬(0+n<=0):=by omega
 have e2:¬(9223372036854775807<(n:Int)):=by omega
 have e3:¬(281474976710656<Builtin.nextslicecap n 0*i.bytes):=by omega
 have wn:IntKind.i64.wrap (n:Int)=n:=IntWalk.i64_in _ (by omega);have e4:¬((n:Int)<0):=by omega
 have e5:¬(281474976710656<(n:Int)*(i.bytes:Int)):=by omega
 have e7:¬n=0:=by omega
 have e6:¬(n*i.size=0):=by
  intro h;rcases Nat.mul_eq_zero.1 h with h|h
  ·omega
  ·exact bl h
 have Ih:=run_firstCells_none (P:=P) w.drew i.size 0 0 0;simp[Builtin.append_,run_underlying hX,run_underlying gW,sizeOf,typeInfo,zeroValue,hi,hz,wn,asInt,asIntOf,e1,e2,e3,e4,e5,e6,e7,Question.forced,Ih,newRow,grownCap]
end
def Kh(vs:List Nat)(N s:Nat)(h:Nat->Option Nat)(m:M (List (Nat×V))):M (List (Nat×V)):=
 .get s λv=>match v with
 | .bC l=>cond (partsOf s h 0 0 l).isEmpty m
   (if ca (s::(partsOf s h 0 0 l).map (·.1.1))=true/\((partsOf s h 0 0 l).all λp=>decide (p.1.1<N))=true/\vs.contains s=true/\s<N then
    gQ true s s ((partsOf s h 0 0 l).map (·.1.1)) (vG ((partsOf s h 0 0 l).map (·.1.1)) ((m.eC ((partsOf s h 0 0 l).map (λp=>(p.1.1,p.2))++[(s,.bC (gN l))])).bind λups =>
     .ret (((partsOf s h 0 0 l).map (λp=>(p.1.1,p.2))++[(s,.bC (gN l))])++ups)))
   else m)
 | _=>m
def C2(vs:List Nat)(N d:Nat)(h:Nat->Option Nat)(ups:List (Nat×V)):M (List (Nat×V)):=
 match ups.getLast? with
 | some (d',.bC l)=>cond (d'==d && !(partsOf d h 0 0 l).isEmpty)
   (if ca (d::(partsOf d h 0 0 l).map (·.1.1))=true/\((partsOf d h 0 0 l).all λp=>decide (p.1.1<N))=true/\vs.contains d=true/\d<N/\(((partsOf d h 0 0 l).map (·.1.1)).all λe => !(ups.map (·.1)).contains e)=true/\(ups.all λp => !p.2.on d)=true then
    gQ true d d ((partsOf d h 0 0 l).map (·.1.1)) (vG ((partsOf d h 0 0 l).map (·.1.1)) (.ret (ups++((partsOf d h 0 0 l).map (λp=>(p.1.1,p.2))++[(d,.bC (gN l))]))))
   else .ret ups) (.ret ups)
 | _=>.ret ups
section
variable{P:Program}{C:Ctx}{w w' w0:World}{L L' L0:Nat->aj}{s N:Nat}{vs:List Nat}{T T':List V}{a:Act}
theorem dQ.afT[ae](hI:Inv w0 L0 N vs T a w L)(d:Nat)(q:List Nat)(ob:Obj):dQ w (w.drew.alloc ob) L (λk=>if k=w.heap.size then .own d q else L k) d:=by
 refine⟨rfl,rfl,rfl,by simp,Nat.le_succ _,λk hk=>?_,λk s q' hk h=>?_,λk k' q' hk aG h h'=>?_,λk hk=>?_⟩
 ·rw[if_neg (by omega)];exact⟨rfl,Go.RowKit.Below.heap_alloc w.drew ob k hk⟩
 ·split at h
  ·injection h with h _;exact h.symm
  ·rw[hI.free k hk]at h;cases h
 ·split at h
  ·split at h'
   ·omega
   ·rw[hI.free k' aG]at h';cases h'
  ·rw[hI.free k hk]at h;cases h
 ·simp at hk;rw[if_neg (by omega)];exact hI.free k (by omega)
theorem al3[ae](hI:Inv w0 L0 N vs T a w L)(hC:bA P C){o:Oper}{X2:TypeId}{sO xO:Operand}    
  (ho:o.op = .call { callee:=.builtin .append,args:=#[sO,xO],argTypes:=#[X,X2] }) (aw:o.dst=some d) (hd:d<N) (hid:(T.getD d .dead).idle=true)
  (h:(KK C d X X2 sO xO m).ai T ups log) (hm:∀log,m.ai T ups log->Step P o w0 L0 N vs (ag T ups) a w):Step P o w0 L0 N vs (ag T ups) a w:=by
 unfold KK at h;split at h
 ·rename_i s;obtain⟨aC,rfl,h⟩:=h;dsimp only at h;cases hn:isNil (T.getD s .dead)with
  | false=>rw[hn]at h;exact hm _ h
  | true =>
   rw[hn,cond_true]at h;have hv:=Cg hI hn;have cN:a.eval (.tmp s) = .slice none 0 0:=hv;split at h
   ·rename_i e t k2 hX gW;obtain⟨u,l1,l2,rfl,h1,h⟩:=M.al h;split at h
    ·rename_i lu nu n;obtain⟨hc,rfl,_⟩:=h;simp only[Bool.and_eq_true,decide_eq_true_eq]at hc;obtain⟨⟨⟨hG,bl⟩,hb⟩,mH⟩:=hc;obtain⟨hu,he⟩:=(hC X _ hX).bW;have IL:=(hC X2 _ gW).bW;obtain⟨i,z,i1,i2,i3,i4,i5⟩:=(hC e t he).info;have dL:∀v∈t.cc,v.oneCell'=true:=Own.one (Own.zero (w:=w) (L:=L) (S:=λ_=>True) (s:=0) (n:=0) (t:=t) (q:=[]) (o:=0));have iJ:=Form.cells i5 dL;have gI:z.cells.size=t.sz:=by rw[<-Array.length_toList,iJ,Ty.jj]
     have hx:=gq hI h1;have aM:=afy (P:=P) (w:=w) (ty:=o.type) hu IL i1 i4 hG mH (by rw[i3];exact hb) (by rw[i2];exact bl);obtain⟨k,hk⟩:∃k:Int,k=n:=⟨n,rfl⟩;have apD:k<=140737488355328:=by rw[hk];exact mH
     have r6:k.toNat<=maxLen:=by simp only[maxLen];omega
     rw[hk]at r6;have apB:n.toNat<=maxLen:=r6;have lg:=grownCap_ge w n.toNat 0 e;have BT:=grownCap_le_maxLen w n.toNat 0 e r6;have uX:(execOp a.eval o).run P w = .ok (.value (.slice (some ⟨w.heap.size,0,none⟩) n.toNat (grownCap w n.toNat 0 e))) (w.drew.alloc (.cells (Builtin.zeroCells z.cells n.toNat++Builtin.zeroCells z.cells (grownCap w n.toNat 0 e - n.toNat)) e)):=by
      simp[execOp,ho,resolve,invoke,builtin,cN,hx,aM]
     have b8:aK P o vs T a w L d (.d none (t.depth+1) (.slice e t) (List.replicate n.toNat t.zero)):=by
      refine⟨_,_,_,uX,dQ.afT hI d [0] _,λ_ _ _ _=>by simp[V.aJ,Ty.depth],λr hr=>by simp[V.on,V.root]at hr,by simp,_,rfl,?_⟩;simp only[Own];refine .inr ⟨w.heap.size,grownCap w n.toNat 0 e,_,by simp,by simp,nZ w.drew _,by simpa using lg,BT,?_,λj hj=>?_⟩
      ·rw[Array.size_append,size_zeroCells,size_zeroCells,gI,<-Nat.add_mul];congr 1;omega
      ·simp only[List.length_replicate]at hj;have pq:(((Builtin.zeroCells z.cells n.toNat++Builtin.zeroCells z.cells (grownCap w n.toNat 0 e - n.toNat)).toList.drop (j*t.sz)).take t.sz)=t.cc:=by
        have:=Jn z.cells n.toNat j hj;rw[gI]at this;rw[<-iJ,<-this];refine qp λk hk=>?_;have au:(j+1)*t.sz<=n.toNat*t.sz:=Nat.mul_le_mul_right _ (by omega);rw[Nat.add_mul,Nat.one_mul]at au;rw[Array.getElem?_toList,Array.getElem?_toList,Array.getElem?_append_left (by rw[size_zeroCells,gI];omega)];unfold Builtin.zeroCells;rw[gI]
       rw[pq,List.getElem_replicate];exact Own.zero
     intro K Q hK;exact aK.inv hI hd hid aw b8 hK
    ·exact h.elim
   ·exact h.elim
 ·exact hm _ h
theorem WK:{U:List (Nat×V)}->ca (U.map (·.1))=true->∀{z:Nat} {v:V},(z,v)∈U->ej U z=some v
 | [],_,z,v,h=>by cases h
 | (k,u)::U,hn,z,v,h=>by
  simp only[List.map_cons,ca,Bool.and_eq_true,Bool.not_eq_true']at hn;simp only[ej];rcases List.mem_cons.1 h with h|h
  ·injection h with h1 h2;subst h1 h2;simp
  ·have:(k==z)=false:=by
    cases hk:k==z with
    | false=>rfl
    | true =>
     have e:k=z:=by simpa using hk
     subst e;have:=List.contains_iff_mem.2 (List.mem_map_of_mem (f:=(·.1)) h);rw[hn.1]at this;cases this
   rw[this];simpa using WK hn.2 h
theorem WL:{U:List (Nat×V)}->{z:Nat}->z∉U.map (·.1)->ej U z=none
 | [],z,h=>rfl
 | (k,u)::U,z,h=>by
  simp only[List.map_cons,List.mem_cons,not_or]at h;simp only[ej];have:(k==z)=false:=by simpa using Ne.symm h.1
  rw[this];simpa using WL h.2
theorem aj0[ae]{U:List (Nat×V)}(hn:ca (U.map (·.1))=true){T:List V}(hl:∀z∈U.map (·.1),z<T.length)(z:Nat):(ag T U).getD z .dead=(ej U z).getD (T.getD z .dead):=by
 by_cases hz:z∈U.map (·.1)
 ·obtain⟨⟨k,v⟩,hm,rfl⟩:=List.mem_map.1 hz;rw[WK hn hm];exact rK hn hm (hl _ hz)
 ·rw[WL hz];exact eI _ _ _ hz
theorem alx[ae](hI:Inv w0 L0 N vs T a w L){s:Nat}{h0:Nat->Option Nat}{l:List lT}(cK:ca (s::(partsOf s h0 0 0 l).map (·.1.1))=true)
  (au:((partsOf s h0 0 0 l).all λp=>decide (p.1.1<N))=true) (bX:s<N) :
  ca (((partsOf s h0 0 0 l).map (λp=>(p.1.1,p.2))++[(s,V.bC (gN l))]).map (·.1))=true/\∀z∈((partsOf s h0 0 0 l).map (λp=>(p.1.1,p.2))++[(s,V.bC (gN l))]).map (·.1),z<T.length:=by
 generalize lx:partsOf s h0 0 0 l=ps at cK au;have vl:=JI cK;have iO:ps.map (·.1.1)=(ps.map (·.1)).map (·.1):=by rw[List.map_map];rfl
 obtain⟨kq,py⟩:=List.nodup_cons.1 vl;have hU:(ps.map (λp=>(p.1.1,p.2))++[(s,V.bC (gN l))]).map (·.1)=ps.map (·.1.1)++[s]:=by simp[List.map_map,Function.comp_def]
 refine⟨?_,λz hz=>?_⟩
 ·rw[hU];refine v7 ?_;rw[List.nodup_append];refine⟨py,by simp,λx hx y hy e=>?_⟩;rw[List.mem_singleton]at hy;subst e hy;exact kq hx
 ·rw[hU]at hz;rcases List.mem_append.1 hz with hz|hz
  ·obtain⟨p,hp,rfl⟩:=List.mem_map.1 hz;rw[List.all_eq_true]at au;rw[hI.len];simpa using au _ hp
  ·rw[List.mem_singleton.1 hz,hI.len];exact bX
theorem Inv.split[ae](hI:Inv w0 L0 N vs T a w L){s:Nat}{h0:Nat->Option Nat}{l:List lT}(hv:T.getD s .dead = .bC l)(cK:ca (s::(partsOf s h0 0 0 l).map (·.1.1))=true)
  (au:((partsOf s h0 0 0 l).all λp=>decide (p.1.1<N))=true) (iP:vs.contains s=true) (bX:s<N) (cG:∀z,¬z=s->(T.getD z .dead).on s=false)
  (jz:∀e∈(partsOf s h0 0 0 l).map (·.1.1),(T.getD e .dead).idle=true):∃L',Inv w0 L0 N vs (ag T ((partsOf s h0 0 0 l).map (λp=>(p.1.1,p.2))++[(s,.bC (gN l))])) a w L':=by
 have hs:=hI.aV s;rw[hv]at hs;obtain⟨dc,dO,dt⟩:=hs;generalize lx:partsOf s h0 0 0 l=ps at cK au jz;have vx:eF 0 (ps.map (·.1)):=by rw[<-lx];exact CQ
 have vl:=JI cK;have iO:ps.map (·.1.1)=(ps.map (·.1)).map (·.1):=by rw[List.map_map];rfl
 obtain⟨kq,py⟩:=List.nodup_cons.1 vl;have vk:ca ((ps.map (·.1)).map (·.1))=true:=by rw[<-iO];exact v7 py
 have bb:s<T.length:=by rw[hI.len];exact bX
 let U:List (Nat×V):=ps.map (λp=>(p.1.1,p.2))++[(s,.bC (gN l))];have hU:U.map (·.1)=ps.map (·.1.1)++[s]:=by simp[U,List.map_map,Function.comp_def]
 have nV:ca (U.map (·.1))=true:=by
  rw[hU];refine v7 ?_;rw[List.nodup_append];refine⟨py,by simp,λx hx y hy e=>?_⟩;rw[List.mem_singleton]at hy;subst e hy;exact kq hx
 have BN:∀z∈U.map (·.1),z<T.length:=by
  intro z hz;rw[hU]at hz;rcases List.mem_append.1 hz with hz|hz
  ·obtain⟨p,hp,rfl⟩:=List.mem_map.1 hz;rw[List.all_eq_true]at au;rw[hI.len];simpa using au _ hp
  ·rw[List.mem_singleton.1 hz];exact bb
 have bH:(ag T U).getD s .dead = .bC (gN l):=rK nV (by simp[U]) bb;have pk:∀p v,(p,v)∈ps->(ag T U).getD p.1 .dead=v:=by
  intro p v hp;refine rK nV ?_ (BN _ ?_)
  ·exact List.mem_append_left _ (List.mem_map.2 ⟨(p,v),hp,rfl⟩)
  ·rw[hU];exact List.mem_append_left _ (List.mem_map.2 ⟨(p,v),hp,rfl⟩)
 have bn:∀z,¬(z=s\/z∈(ps.map (·.1)).map (·.1))->(ag T U).getD z .dead=T.getD z .dead:=by
  intro z hz;refine eI _ _ _ ?_;rw[hU,iO];intro hm;rcases List.mem_append.1 hm with hm|hm
  ·exact hz (.inr hm)
  ·exact hz (.inl (List.mem_singleton.1 hm))
 have pB:∀p v,(p,v)∈ps->∃j n t x u cs,v = .part s j n t x/\dc.toList[j]?=some u/\t.sz=p.2.2/\Form t cs u/\Own w L (SL L none) s n t x [] p.2.1 cs:=by
  intro p v hp;rw[<-lx]at hp;obtain⟨j,n,t,x,u,cs,e1,e2⟩:=JR dt p v hp;exact⟨0+j,n,t,x,u,cs,e1,by rw[Nat.zero_add];exact e2⟩
 have fR:∀z,z∈(ps.map (·.1)).map (·.1)->∃p v,(p,v)∈ps/\p.1=z:=by
  intro z hz;rw[<-iO]at hz;obtain⟨⟨p,v⟩,hp,rfl⟩:=List.mem_map.1 hz;exact⟨p,v,hp,rfl⟩
 have agY:fi (kE s s (ps.map (·.1))) (λz=>z=s\/z=s\/z∈(ps.map (·.1)).map (·.1)):=XA vx vk;have jx:fi (kE s s (ps.map (·.1))) (λz=>z=s\/z∈(ps.map (·.1)).map (·.1)):=by
  have e:(λz=>z=s\/z=s\/z∈(ps.map (·.1)).map (·.1))=(λz=>z=s\/z∈(ps.map (·.1)).map (·.1)):=by
   funext z;apply propext;constructor
   ·rintro (h|h|h)
    ·exact .inl h
    ·exact .inl h
    ·exact .inr h
   ·rintro (h|h)
    ·exact .inl h
    ·exact .inr (.inr h)
  rwa [e]at agY
 refine⟨aS (kE s s (ps.map (·.1))) w L (λ_=>.free),Inv.gr (T':=ag T U) hI jx (Wd.refl hI _) (λ_ _ _ _ _ h=>by cases h) hI.size (by rw[ct,hI.len]) hI.dB ?_ ?_ ?_ ?_ ?_⟩
 ·intro k z q hz hk;rcases hz with rfl|hz
  ·rw[bH];rfl
  ·obtain⟨p,v,hp,rfl⟩:=fR z hz;rw[pk p v hp];obtain⟨j,n,t,x,u,cs,rfl,_⟩:=pB p v hp;rfl
 ·intro z r hz af hr;rcases hr with rfl|hr
  ·exfalso;have du:z≠r:=λe=>hz (.inl e);rw[cG z du]at af;cases af
  ·exact V.jN (jz r (by rw[iO];exact hr))
 ·intro z hz;exact⟨bn z hz,rfl⟩
 ·intro z r hz af;rcases hz with rfl|hz
  ·rw[bH]at af;simp[V.on,V.root]at af
  ·obtain⟨p,v,hp,rfl⟩:=fR z hz;rw[pk p v hp]at af;obtain⟨j,n,t,x,u,cs,rfl,_⟩:=pB p v hp;simp only[V.on,V.root,beq_iff_eq,Option.some.injEq]at af;subst af;exact List.contains_iff_mem.1 iP
 ·intro z hz;rcases hz with rfl|hz
  ·rw[bH];exact⟨dc,dO,J2 (λk hk=>⟨dX hI hk,rfl⟩) dt⟩
  ·obtain⟨p,v,hp,rfl⟩:=fR z hz;rw[pk p v hp];obtain⟨j,n,t,x,u,cs,rfl,e2,e3,e4,e5⟩:=pB p v hp;refine⟨by rw[bH];rfl,dc,u,cs,dO,by simpa using e2,e4,?_⟩;refine Own.move (λk hk=>?_) (λk i rest hi hk=>⟨?_,rfl⟩) e5
   ·rcases hk with hk|⟨_,_,hk,_⟩
    ·exact⟨.inl (dX hI hk),rfl⟩
    ·cases hk
   ·have aG:L k = .own s ((p.2.1+i)::rest):=by simpa using hk
    rw[cP hI (by rw[aG];simp),aG];have:=Xz (s:=s) (d:=s) vx vk (List.mem_map_of_mem (f:=(·.1)) hp) (i:=i) (by rw[<-e3];exact hi) (rest:=rest);simpa[ep]using this
theorem alw[ae]{s:Nat}{h0:Nat->Option Nat}(hI:Inv w0 L0 N vs T a w L)(h:(Kh vs N s h0 m).ai T ups log):
  ∃T1 L1 bF log2,Inv w0 L0 N vs T1 a w L1/\m.ai T1 bF log2/\ag T ups=ag T1 bF:=by
 unfold Kh at h;obtain⟨aC,rfl,h⟩:=h;dsimp only at h;generalize hv:T.getD s .dead=v at h;split at h
 ·rename_i l;cases he:(partsOf s h0 0 0 l).isEmpty with
  | true=>rw[he]at h;exact⟨T,L,ups,_,hI,h,rfl⟩
  | false =>
   rw[he,cond_false]at h;split at h
   ·rename_i hc;obtain⟨cK,au,iP,bX⟩:=hc;obtain⟨cG,log2,h⟩:=jt h;obtain⟨jz,fq,h⟩:=Cf h;have hb:=M.al h;clear h;obtain⟨bF,l3,l4,rfl,h1,h2⟩:=hb;obtain⟨rfl,_⟩:=h2;obtain⟨L1,bq⟩:=Inv.split hI hv cK au iP bX (λz hz=>by simpa using cG z hz) jz;have bb:s<T.length:=by rw[hI.len];exact bX
    obtain⟨nV,BN⟩:=alx hI cK au bX;obtain⟨iT,h1⟩:=oo (T':=ag T ((partsOf s h0 0 0 l).map (λp=>(p.1.1,p.2))++[(s,.bC (gN l))])) (by simp[ct]) BN (aj0 nV BN) _ h1;exact⟨_,L1,bF,iT,bq,h1,by rw[kH]⟩
   ·exact⟨T,L,ups,_,hI,h,rfl⟩
 ·exact⟨T,L,ups,_,hI,h,rfl⟩
theorem ali{ups:List (Nat×V)}:∀{T:List V} {z:Nat},(ag T ups).getD z .dead=T.getD z .dead\/∃v,(z,v)∈ups/\(ag T ups).getD z .dead=v:=by
 induction ups with
 | nil=>intro T z;exact .inl rfl
 | cons u l ih =>
  intro T z;have e:ag T (u::l)=ag (T.set u.1 u.2) l:=rfl;rw[e];rcases ih (T:=T.set u.1 u.2) (z:=z)with h|⟨v,h1,h2⟩
  ·rw[h,aF];split
   ·rename_i hz;exact .inr ⟨u.2,by rw[hz.1];exact List.mem_cons_self,rfl⟩
   ·exact .inl rfl
  ·exact .inr ⟨v,List.mem_cons_of_mem _ h1,h2⟩
theorem Ye[ae](hI:Inv w0 L0 N vs T a w L){h0:Nat->Option Nat}{ups:List (Nat×V)} 
  (h:(m.bind (C2 vs N d h0)).ai T ups log) (hm:∀ups log,m.ai T ups log->Step P o w0 L0 N vs (ag T ups) a w):Step P o w0 L0 N vs (ag T ups) a w:=by
 obtain⟨wK,l1,l2,rfl,h1,h⟩:=M.al h;have a6:=hm _ _ h1;unfold C2 at h;split at h
 ·rename_i d' l UA;cases gX:(d'==d && !(partsOf d h0 0 0 l).isEmpty)with
  | false=>rw[gX]at h;obtain⟨rfl,_⟩:=h;exact a6
  | true =>
   rw[gX,cond_true]at h;simp only[Bool.and_eq_true,beq_iff_eq]at gX;obtain⟨rfl,_⟩:=gX;split at h
   ·rename_i hc;obtain⟨cK,au,iP,bX,hk,af⟩:=hc;obtain⟨cG,log2,h⟩:=jt h;obtain⟨jz,fq,h⟩:=Cf h;obtain⟨rfl,_⟩:=h;have BU:d'<T.length:=by rw[hI.len];exact bX
    have iG:(ag T wK).getD d' .dead = .bC l:=by
     obtain⟨ys,rfl⟩:∃ys,wK=ys++[(d',V.bC l)]:=by
      rw[List.getLast?_eq_some_iff]at UA;exact UA
     rw[kH];show ((ag T ys).set d' (V.bC l)).getD d' .dead=_;rw[aF,if_pos ⟨rfl,by rw[ct];exact BU⟩]
    intro K Q hK;refine a6 K Q (λa' w' L' gU=>?_);have po:∀z,¬z=d'->((ag T wK).getD z .dead).on d'=false:=by
     intro z hz;rcases ali (T:=T) (ups:=wK) (z:=z)with h|⟨v,h,h2⟩
     ·rw[h];simpa using cG z hz
     ·rw[h2];rw[List.all_eq_true]at af;simpa using af _ h
    have u6:∀e∈(partsOf d' h0 0 0 l).map (·.1.1),((ag T wK).getD e .dead).idle=true:=by
     intro e he;rw[List.all_eq_true]at hk;have Uu:=hk e he;rw[eI _ _ _ (λhm=>by
      rw[List.contains_iff_mem.2 hm]at Uu;cases Uu)]
     exact jz e he
    obtain⟨L1,bq⟩:=Inv.split gU iG cK au iP bX po u6;rw[kH]at hK;exact hK a' w' L1 bq
   ·obtain⟨rfl,_⟩:=h;exact a6
 ·obtain⟨rfl,_⟩:=h;exact a6
end
def ez(N d:Nat)(m:M (List (Nat×V))):M (List (Nat×V)):=.get d λv=>.bj (v.idle&&decide (d<N)) m
def lM(C:Ctx)(vs:List Nat)(d:Nat)(o:Oper):M (List (Nat×V)):=(JV C o).bind λv=>.bj (fu vs v) (.ret [(d,v)])
def Cv(C:Ctx)(d:Nat)(mx:Bool)(args:List Operand):M (List (Nat×V)):=
 match args with
 | [x,y]=>(cC C 0 x).bind λu=>(cC C 0 y).bind λv=>match u,v with
  | .d _ _ (.int k) m,.d _ _ (.int _) n=>.ret [(d,.d none 0 (.int k) (cond mx (if m<n then n else m) (if n<m then n else m)))]
  | _,_=>.fail
 | _=>.fail
def SC(C:Ctx)(vs:List Nat)(X:TypeId)(d:Nat)(x:Operand):M (List (Nat×V)):=
 (cC C X x).bind λv=>match v with
 | .d l k t y=>if C.ty X=some t/\(k=0\/t.depth=0)then .bj (fu vs (.box l 0 t y)) (.ret [(d,.box l 0 t y)])else .fail
 | _=>.fail
def CE(C:Ctx)(vs:List Nat)(N d:Nat)(X:TypeId)(x:Operand)(hx:Nat->Nat->Option Nat):M (List (Nat×V)):=
 match x with
 | .tmp s=>.get s λv=>match v with
  | .bC _=>.bj (decide (d<N)) (Yq vs N d s (hx d))
  | _=>Bq C vs N d X x
 | _=>Bq C vs N d X x
def tmpsOf:List Operand->List Nat
 | []=>[]
 | .tmp s::l=>s::tmpsOf l
 | _::l=>tmpsOf l
def afu(C:Ctx)(X:TypeId)(s x:Operand):List Nat :=
 match C.ty X with
 | some (.slice _ t)=>if t.depth=0 then tmpsOf [s]else tmpsOf [s,x]
 | _=>[]
structure Hints where
 hx:Nat->Nat->Option Nat
 bx:Nat->Bool
 kids:Nat->List Nat
def al6(C:Ctx)(vs:List Nat)(N:Nat)(hx:Hints)(X:TypeId)(t:Nat)(x:Operand):M (List (Nat×V)):=
 .get t λv=>match addrOf t v with
 | none=>.fail
 | some (r,p)=>.get r λu=>match u with
  | .hole u' p'=>HK C vs N (hx.kids r) X r p u' p' x
  | _=>(λm=>cond (hx.bx (3000+r)) (Ju C vs N (hx.kids r) X r p u x m) m) <| match p with
   | []=>cond (hx.bx r) (De C vs N (hx.kids r) X r u x (kJ C vs N (some (hx.kids r)) X t x)) (kJ C vs N none X t x)
   | _::_=>cond (hx.bx r) (Kn C N (hx.kids r) X r p u x (kJ C vs N (some (hx.kids r)) X t x)) (cond (hx.bx (5000+r)) (Ko C N (hx.kids r) X r p u x (kJ C vs N none X t x)) (kJ C vs N none X t x))
def af9(bd:dp)(f:FuncId):Bool:=match bd f with
 | some F=>(F.rs.any λp=>decide (p.2<p.1.depth)) || !pf F.ps
 | none=>false
def ak5(bd:dp)(f:FuncId)(l:List Operand):List Operand:=match bd f with
 | some F=>((F.ps.zip l).filter λp=>match p.1.2 with | .ro=>true|_=>false).map (·.2)
 | none=>l
def Bt(C:Ctx)(d:Nat)(l:List Operand)(cA:List TypeId)(m:M (List (Nat×V))):M (List (Nat×V)):=match cA with
 | [X]=>match C.ty X with
  | some (.slice _ _)=>Hm d l m
  | _=>m
 | _=>m
def Kk(C:Ctx)(bd:dp)(vs:List Nat)(hx:Hints)(N:Nat)(o:Oper):M (List (Nat×V)):=
 match o.dst with
 | none=>match o.op with
  | .store X (.tmp t) x=>sn 1 N (cond (hx.bx (9000+t)) [t] []) <| pK N (cond (hx.bx (8000+t)) (tmpsOf [x]) []) (pT vs N (cond (hx.bx (7000+t)) (tmpsOf [x]) []) (lR N hx.kids (tmpsOf [x]) (al6 C vs N hx X t x)))
  | _=>.fail
 | some d=>match o.op with
  | .move x=>cond (hx.bx (6000+d)) (ez N d (JD C d true o.type x (uG vs N d (hx.bx (1000+d)) x (CE C vs N d o.type x hx.hx)))) (uG vs N d (hx.bx (1000+d)) x (CE C vs N d o.type x hx.hx))
  | .load X (.tmp t)=>wz N t (cond (hx.bx (1000+d)) (HC C N X d t) (ez N d (lM C vs d o)))
  | .nilCheck (.tmp t)=>wz N t (ez N d (lM C vs d o))
  | .makeFunc (.func g) ⟨[]⟩ gv=>sC N (tmpsOf gv.toList) (ez N d (SO d g gv.toList))
  | .indexAddr X (.tmp t) y=>ez N d (HA C vs X d t y (lM C vs d o))
  | .assign x=>Bq C vs N d o.type x
  | .box X x=>ez N d (Hd C vs X d x (SC C vs X d x))
  | .build X parts=>lR N hx.kids (tmpsOf (parts.toList.map (·.2))) (ez N d (Hc C vs X d parts.toList))
  | .buildSlice X len parts=>pT vs N (cond (hx.bx (7000+d)) (tmpsOf (parts.toList.map (·.2))) []) (lR N hx.kids (tmpsOf (parts.toList.map (·.2))) (ez N d (J3 C vs X d len parts.toList)))
  | .extract (.tmp s) i=>Kh vs N s (hx.hx s) (.bj (decide (d<N)) (Th vs d (.tmp s) i))
  | .slice X (.tmp s) lo hi none=>ez N d (Hx C vs N d (hx.bx (6000+d)) X s lo hi (lM C vs d o))
  | .fieldAddr X (.tmp t) f=>wz N t (cond (hx.bx t) (ez N d ((Ti C X f t).bind λv=>.bj (fu vs v) (.ret [(d,v)]))) (ez N d (lM C vs d o)))
  | .call c=>match c.callee with
   | .value (.func f)=>sn 1 N (cond (hx.bx (9000+d)) ((tmpsOf c.args.toList).filter λs => !vs.contains s) []) <| pK N (cond (af9 bd f) ((tmpsOf (ak5 bd f c.args.toList)).filter λs => !vs.contains s) []) (ez N d ((Hk C bd vs N d f c.args.toList).bind (C2 vs N d (hx.hx d))))
   | .value (.tmp s)=>ez N d ((Hf C bd vs d s c.args.toList).bind (C2 vs N d (hx.hx d)))
   | .builtin .max=>ez N d (Cv C d true c.args.toList)
   | .builtin .len=>ez N d (Bt C d c.args.toList c.argTypes.toList (HB C d c.args.toList c.argTypes.toList (lM C vs d o)))
   | .builtin .cap=>ez N d (Bt C d c.args.toList c.argTypes.toList .fail)
   | .builtin .min=>ez N d (Cv C d false c.args.toList)
   | .builtin .append=>match c.args,c.argTypes with
    | ⟨[s,x]⟩,⟨[X,X2]⟩=>lR N hx.kids (afu C X s x) (ez N d (KK C d X X2 s x (GX C vs d X X2 s x)))
    | _,_=>.fail
   | _=>ez N d (lM C vs d o)
  | _=>ez N d (lM C vs d o)
section
variable{P:Program}{C:Ctx}{w w' w0:World}{L L' L0:Nat->aj}{N:Nat}{vs:List Nat}{T T':List V}{a:Act}
theorem fp(h:(ez N d m).ai T ups log):(T.getD d .dead).idle=true/\d<N/\∃log,m.ai T ups log:=by
 obtain⟨aC,rfl,hc,h⟩:=h;simp only[Bool.and_eq_true,decide_eq_true_eq]at hc;exact⟨hc.1,hc.2,aC,h⟩
theorem qi[ae](hI:Inv w0 L0 N vs T a w L)(hC:bA P C)(aw:o.dst=some d)(hd:d<N)(hid:(T.getD d .dead).idle=true)
  (h:(lM C vs d o).ai T ups log):Step P o w0 L0 N vs (ag T ups) a w:=by
 obtain⟨v,l1,l2,rfl,h1,aI,rfl,_⟩:=M.al h;intro K Q hK;exact aK.inv hI hd hid aw (akU hI hC hid (sy aI) h1) hK
theorem Yb[ae](hI:Inv w0 L0 N vs T a w L){mx:Bool}(ho:o.op = .call { callee:=.builtin (cond mx .max .min),args,argTypes:=cA })(aw:o.dst=some d)(hd:d<N)(hid:(T.getD d .dead).idle=true)
  (h:(Cv C d mx args.toList).ai T ups log):Step P o w0 L0 N vs (ag T ups) a w:=by
 obtain⟨args⟩:=args;dsimp only at h;unfold Cv at h;split at h
 ·rename_i x y;obtain⟨u,l1,l2,rfl,h1,h⟩:=M.al h;obtain⟨v,l3,l4,rfl,h2,h⟩:=M.al h;split at h
  ·rename_i l n k m l' n' k' m' _;obtain⟨rfl,_⟩:=h;have hx:=gq hI h1;have hy:=gq hI h2;have b8:aK P o vs T a w L d (.d none 0 (.int k) (cond mx (if m<m' then m' else m) (if m'<m then m' else m))):=by
    refine aK.still hI ?_ (λ_=>rfl) az.mkInt;cases mx with
    | true=>simp[execOp,ho,resolve,invoke,builtin,Builtin.max_,Builtin.max2,hx,hy]
    | false=>simp[execOp,ho,resolve,invoke,builtin,Builtin.min_,Builtin.min2,hx,hy]
   intro K Q hK;exact aK.inv hI hd hid aw b8 hK
  ·exact h.elim
 ·exact h.elim
theorem alD[ae](hI:Inv w0 L0 N vs T a w L)(hC:bA P C){x:Operand}(ho:o.op = .box X x)(aw:o.dst=some d)(hd:d<N)(hid:(T.getD d .dead).idle=true)
  (h:(SC C vs X d x).ai T ups log):Step P o w0 L0 N vs (ag T ups) a w:=by
 obtain⟨v,l1,l2,rfl,h1,h2⟩:=M.al h;split at h2
 ·rename_i l k t y;split at h2
  ·rename_i hc;obtain⟨hX,hk⟩:=hc;obtain⟨aI,rfl,_⟩:=h2;have dt:∃s0,az L T a.tmps s0 (.d l k t y) w (a.eval x):=by
    rcases jO hI h1 with⟨s,_,_,hs⟩|⟨_,hs⟩
    ·exact⟨s,hs⟩
    ·exact⟨0,hs _ _ _ _ _⟩
   obtain⟨s0,cr,cs,hf,bO⟩:=dt;have cV:=Form.cells hf (Own.one bO);have aM:(execOp a.eval o).run P w = .ok (.value (.pointer (some ⟨w.heap.size,0,none⟩))) (w.alloc (.cells (a.eval x).cells X)):=by
    simp[execOp,ho,Instr.box,newVar,newRow,newObj,Sem.run]
   have b8:aK P o vs T a w L d (.box l 0 t y):=by
    refine⟨_,_,_,aM,dQ.alloc hI d [] _,λ_ _ _ _=>rfl,sy aI,λr hr=>?_,w.heap.size,(a.eval x).cells,X,rfl,by simp,nZ _ _,?_,?_⟩
    ·have:=cr r hr;rw[aF,if_neg (λe=>cW hid (V.eP this) e.1)];exact this
    ·rw[<-Array.length_toList,cV,Own.len bO]
    ·rw[cV];have h0:=Own.eo (Own.bu (s':=0) (q':=[]) (o':=0) (n':=0) hk bO (.inl rfl));refine Own.dw (Rd.move (λk hk=>?_) h0);have au:k<w.heap.size:=hI.lt (by rcases hk with hk|⟨_,_,_,hk⟩<;>rw[hk]<;>simp);refine⟨?_,Go.RowKit.Below.heap_alloc w _ k au⟩;unfold SL;dsimp only;rw[if_neg (by omega)];exact hk
   intro K Q hK;exact aK.inv hI hd hid aw b8 hK
  ·exact h2.elim
 ·exact h2.elim
theorem uq[ae](hI:Inv w0 L0 N vs T a w L){t r:Nat}{p:List St}(he:addrOf t (T.getD t .dead)=some (r,p)):∃g,a.eval (.tmp t) = .pointer (some ⟨g,(node [] 0 p).2,none⟩)/\L g = .own r (node [] 0 p).1:=by
 have a6:=hI.aV t;generalize T.getD t .dead=v at he a6;cases v with
 | ptr r2 p2 t2 =>
  simp only[addrOf,Option.some.injEq,Prod.mk.injEq]at he;obtain⟨rfl,rfl⟩:=he;exact a6
 | box l n t2 x2 =>
  simp only[addrOf,Option.some.injEq,Prod.mk.injEq]at he;obtain⟨rfl,rfl⟩:=he;obtain⟨_,g,cur,e,h1,h2,_⟩:=a6;exact⟨g,h1,h2⟩
 | dead=>cases he
 | bC _=>cases he
 | d _ _ _ _=>cases he
 | rp _ _ _=>cases he
 | view _ _ _=>cases he
 | hole _ _=>cases he
 | part _ _ _ _ _=>cases he
 | bN _ _ _ _=>cases he
 | same _ _=>cases he
theorem Ya[ae](hI:Inv w0 L0 N vs T a w L)(hC:bA P C){b:Builtin}(hb:b = .cap\/b = .len)      
  (ho:o.op = .call { callee:=.builtin b,args,argTypes:=cA }) (aw:o.dst=some d) (hd:d<N) (hid:(T.getD d .dead).idle=true)
  (h:(Bt C d args.toList cA.toList m).ai T ups log) (hm:∀log,m.ai T ups log->Step P o w0 L0 N vs (ag T ups) a w):Step P o w0 L0 N vs (ag T ups) a w:=by
 unfold Bt at h;split at h
 ·rename_i X hX;split at h
  ·rename_i e t hCX;refine alN hI hb (λX' rP=>?_) ?_ ho aw hd hid h hm
   ·have:X'=X:=by
     have h0:cA.toList[0]?=some X':=by simpa using rP
     rw[hX]at h0;simpa using h0.symm
    subst this;exact⟨e,(hC _ _ hCX).bW.1⟩
   ·have:=congrArg List.length hX;simpa using this
  ·exact hm _ h
 ·exact hm _ h
theorem alC[ae](ln:P.follows .mixedOrders=true)(hC:bA P C){bd:dp}(dN:fO P bd){hx:Hints}{E:Env}(hE:E.step=Kk C bd vs hx E.N):rf P w0 L0 vs E:=by
 refine⟨ln,?_⟩;intro o T ups log a w L hI h;rw[hE]at h;unfold Kk at h;have UX:∀{d:Nat},o.dst=some d->(ez E.N d (lM C vs d o)).ai T ups log->Step P o w0 L0 E.N vs (ag T ups) a w:=by
  intro d aw h;obtain⟨h1,h2,log,h3⟩:=fp h;exact qi hI hC aw h2 h1 h3
 split at h
 ·rename_i aw;split at h
  ·rename_i X t x ho;obtain⟨T8,L8,ao3,ajZ,H0,h,IH⟩:=Cs hI h;rw[IH];obtain⟨T9,L9,apS,apN,hI9,h,ahK⟩:=vF H0 h;rw[ahK];obtain⟨T0,L00,ao2,Jj,HZ,h,IG⟩:=vM hI9 h;rw[IG];obtain⟨T1,L1,bF,log2,bq,h,ey⟩:=nz HZ h;rw[ey];obtain⟨l1,rfl,h⟩:=h;dsimp only at h;split at h
   ·exact h.elim
   ·rename_i r p uR;obtain⟨l2,rfl,h⟩:=h;dsimp only at h;split at h
    ·rename_i u' p' vB;exact alV bq hC ho aw uR (λr p=>uq bq) vB h
    ·have hold:∀log,(match p with
       | []=>cond (hx.bx r) (De C vs E.N (hx.kids r) X r (T1.getD r .dead) x (kJ C vs E.N (some (hx.kids r)) X t x)) (kJ C vs E.N none X t x)
       | _::_=>cond (hx.bx r) (Kn C E.N (hx.kids r) X r p (T1.getD r .dead) x (kJ C vs E.N (some (hx.kids r)) X t x)) (cond (hx.bx (5000+r)) (Ko C E.N (hx.kids r) X r p (T1.getD r .dead) x (kJ C vs E.N none X t x)) (kJ C vs E.N none X t x)):M (List (Nat×V))).ai T1 bF log->Step P o w0 L0 E.N vs (ag T1 bF) a w:=by
      intro log h;split at h
      ·cases hb:hx.bx r with
       | true =>
        rw[hb,cond_true]at h;exact al2 bq hC ho aw uR (λr p=>uq bq) rfl (λh=>wD bq hC ho aw h) h
       | false =>
        rw[hb,cond_false]at h;exact wD bq hC ho aw h
      ·cases hb:hx.bx r with
       | true =>
        rw[hb,cond_true]at h;exact alZ bq hC ho aw uR (λr p=>uq bq) rfl h (λ_ h=>wD bq hC ho aw h)
       | false =>
        rw[hb,cond_false]at h;cases T6:hx.bx (5000+r)with
        | true =>
         rw[T6,cond_true]at h;exact al0 bq hC ho aw uR (λr p=>uq bq) rfl h (λ_ h=>wD bq hC ho aw h)
        | false =>
         rw[T6,cond_false]at h;exact wD bq hC ho aw h
     cases T5:hx.bx (3000+r)with
     | true =>
      rw[T5,cond_true]at h;exact alW bq hC ho aw uR (λr p=>uq bq) rfl h hold
     | false =>
      rw[T5,cond_false]at h;exact hold _ h
  ·exact h.elim
 ·rename_i d aw;split at h
  ·rename_i x ho;have hold:∀log,(uG vs E.N d (hx.bx (1000+d)) x (CE C vs E.N d o.type x hx.hx)).ai T ups log->Step P o w0 L0 E.N vs (ag T ups) a w:=by
    intro log h;refine alT hI (.inl ho) aw h (λlog h=>?_);unfold CE at h;split at h
    ·rename_i s;obtain⟨aC,rfl,h⟩:=h;dsimp only at h;split at h
     ·obtain⟨hd,h⟩:=h;exact al1 hI (.inl ho) aw (by simpa using hd) h
     ·exact Kl hI (.inl ho) aw h
    ·exact Kl hI (.inl ho) aw h
   cases hb:hx.bx (6000+d)with
   | false=>rw[hb]at h;exact hold _ h
   | true =>
    rw[hb,cond_true]at h;obtain⟨h1,h2,log,h3⟩:=fp h;exact alX hI hC (.inl ho) aw h2 h1 h3 hold
  ·rename_i X t ho;obtain⟨T1,L1,bF,log2,bq,h,ey⟩:=J5 hI h;rw[ey];cases hb:hx.bx (1000+d)with
   | true=>rw[hb,cond_true]at h;exact alS bq hC ho aw h
   | false =>
    rw[hb,cond_false]at h;obtain⟨h1,h2,log,h3⟩:=fp h;exact qi bq hC aw h2 h1 h3
  ·rename_i t ho;obtain⟨T1,L1,bF,log2,bq,h,ey⟩:=J5 hI h;rw[ey];obtain⟨h1,h2,log,h3⟩:=fp h;exact qi bq hC aw h2 h1 h3
  ·rename_i g gv ho;obtain⟨T1,L1,bF,log2,bq,h,ey⟩:=CT hI h;rw[ey];obtain⟨h1,h2,log,h3⟩:=fp h;exact alO bq ho aw h2 h1 h3
  ·rename_i X t y ho;obtain⟨h1,h2,log,h3⟩:=fp h;exact alQ hI hC ho aw h2 h1 h3 (λ_ hm=>qi hI hC aw h2 h1 hm)
  ·rename_i x ho;exact Kl hI (.inr ho) aw h
  ·rename_i X x ho;obtain⟨h1,h2,log,h3⟩:=fp h;exact alF hI hC ho aw h2 h1 h3 (λ_ hm=>alD hI hC ho aw h2 h1 hm)
  ·rename_i X parts ho;obtain⟨T1,L1,bF,log2,bq,h,ey⟩:=nz hI h;rw[ey];obtain⟨h1,h2,log,h3⟩:=fp h;exact alE bq hC ho aw h2 h1 h3
  ·rename_i X len parts ho;obtain⟨T0,L00,ao2,Jj,HZ,h,IG⟩:=vM hI h;rw[IG];obtain⟨T1,L1,bF,log2,bq,h,ey⟩:=nz HZ h;rw[ey];obtain⟨h1,h2,log,h3⟩:=fp h;exact alY bq hC ho aw h2 h1 h3
  ·rename_i s i ho;obtain⟨T1,L1,bF,log2,bq,h,ey⟩:=alw hI h;rw[ey];obtain⟨hd,h⟩:=h;exact alU bq ho aw (by simpa using hd) h
  ·rename_i X s lo hi ho;obtain⟨h1,h2,log,h3⟩:=fp h;exact alP hI hC ho aw h2 h1 h3 (λ_ hm=>qi hI hC aw h2 h1 hm)
  ·rename_i X t f ho;obtain⟨T1,L1,bF,log2,bq,h,ey⟩:=J5 hI h;rw[ey];cases hb:hx.bx t with
   | false =>
    rw[hb]at h;obtain⟨h1,h2,log,h3⟩:=fp h;exact qi bq hC aw h2 h1 h3
   | true =>
    rw[hb]at h;obtain⟨h1,h2,log,h3⟩:=fp h;obtain⟨v,l1,l2,rfl,h4,aI,rfl,_⟩:=M.al h3;intro K Q hK;exact aK.inv bq h2 h1 aw (akI bq hC ho h4 (sy aI)) hK
  ·rename_i c ho;split at h
   ·rename_i f hf;obtain⟨T8,L8,ao3,ajZ,H0,h,IH⟩:=Cs hI h;rw[IH];obtain⟨T1,L1,bF,log2,bq,h,ey⟩:=vF H0 h;rw[ey];obtain⟨h1,h2,log,h3⟩:=fp h;obtain⟨callee,args,cA⟩:=c;dsimp only at hf h3;subst hf;exact Ye bq h3 (λ_ _ h3=>alM bq dN ho aw h2 h1 h3)
   ·rename_i s hf;obtain⟨h1,h2,log,h3⟩:=fp h;obtain⟨callee,args,cA⟩:=c;dsimp only at hf h3;subst hf;exact Ye hI h3 (λ_ _ h3=>alH hI dN ho aw h2 h1 h3)
   ·rename_i hf;obtain⟨h1,h2,log,h3⟩:=fp h;obtain⟨callee,args,cA⟩:=c;dsimp only at hf h3;subst hf;exact Yb hI (mx:=true) (by rw[ho];rfl) aw h2 h1 h3
   ·rename_i hf;obtain⟨h1,h2,log,h3⟩:=fp h;obtain⟨callee,args,cA⟩:=c;dsimp only at hf h3;subst hf;exact Ya hI hC (.inr rfl) ho aw h2 h1 h3 (λ_ hm=>alR hI hC ho aw h2 h1 hm (λ_ hm=>qi hI hC aw h2 h1 hm))
   ·rename_i hf;obtain⟨h1,h2,log,h3⟩:=fp h;obtain⟨callee,args,cA⟩:=c;dsimp only at hf h3;subst hf;exact Ya hI hC (.inl rfl) ho aw h2 h1 h3 (λ_ hm=>hm.elim)
   ·rename_i hf;obtain⟨h1,h2,log,h3⟩:=fp h;obtain⟨callee,args,cA⟩:=c;dsimp only at hf h3;subst hf;exact Yb hI (mx:=false) (by rw[ho];rfl) aw h2 h1 h3
   ·rename_i hf;obtain⟨callee,args,cA⟩:=c;dsimp only at hf h;subst hf;split at h
    ·rename_i s x X X2;obtain⟨T1,L1,bF,log2,bq,h,ey⟩:=nz hI h;rw[ey];obtain⟨h1,h2,log,h3⟩:=fp h;exact al3 bq hC ho aw h2 h1 h3 (λ_ hm=>step_append bq hC ho aw h2 h1 hm)
    ·exact h.elim
   ·exact UX aw h
  ·exact UX aw h
end
def J0(t:Ty)(n s:Nat)(v:V):M (t.den×Option Nat×List Nat):=
 if t.depth=0\/n=0 then (lN s v).bind λz=>if h:z.2.1=t then .ret (h▸z.2.2,none,if t.depth=0 then []else z.1.toList)else .fail
 else match v with
  | .d none k t' y=>if h:t'=t then (if n<=k then .ret (h▸y,some s,[])else .fail)else .fail
  | .view r [] _=>.get r λu=>match u with
   | .d none k t' y=>if h:t'=t then (if n<=k then .ret (h▸y,some r,[])else .fail)else .fail
   | _=>.fail
  | _=>.fail
structure Src where
 s:Nat
 o:Nat
 sz:Nat
 n:Nat
structure Ro (rs:List (Ty×Nat)) where
 x:(cL rs).den
 ss:List Src
 ls:List Nat
inductive RV where
 | tmp (s:Nat)
 | cell (s:Nat) (X:TypeId)
def RV.slot:RV->Nat
 | .tmp s=>s
 | .cell s _=>s
def RV.var:RV->ResultVar
 | .tmp s=>.tmp s
 | .cell s X=>.cell s X
def JY(C:Ctx)(X:TypeId)(t:Ty)(n s:Nat)(v:V):M (t.den×Option Nat×List Nat):=
 match v with
 | .box none k t' y=>if h:t'=t then
   if C.ty X=some t then
    (if t.depth=0\/n=0 then .ret (h▸y,none,if t.depth=0 then []else [s])else if n<=k then .ret (h▸y,some s,[])else .fail)
   else .fail
  else .fail
 | _=>.fail
def XN(C:Ctx)(t:Ty)(n:Nat)(rv:RV)(v:V):M (t.den×Option Nat×List Nat):=
 match rv with
 | .tmp s=>J0 t n s v
 | .cell s X=>JY C X t n s v
def JZ(C:Ctx):Nat->(rs:List (Ty×Nat))->List RV->M (Ro rs)
 | _,[],[]=>.ret ⟨(),[],[]⟩
 | o,(t,n)::rs,rv::sl=>.get rv.slot λv=>(XN C t n rv v).bind λy=>(JZ C (o+t.sz) rs sl).bind λr =>
   .ret ⟨(y.1,r.x),(match y.2.1 with|some s'=>⟨s',o,t.sz,n⟩::r.ss|none=>r.ss),y.2.2++r.ls⟩
 | _,_,_=>.fail
def xa(P:Program)(w:World)(a:Act):RV->Value->Prop
 | .tmp s,c=>c=a.tmps.getD s undef
 | .cell s X,c=>∃A,a.tmps.getD s undef = .pointer (some A)/\(loadVar X A).run P w = .ok c w
def qC(P:Program)(w:World)(a:Act):List RV->List Value->Prop
 | [],cs=>cs=[]
 | rv::l,cs=>∃c bf,cs=c::bf/\xa P w a rv c/\qC P w a l bf
def kD:Nat->(ps:List (Ty×Mode))->M ((cu ps).den×List (Nat×Nat))
 | _,[]=>.ret ((),[])
 | i,(t,.mut n)::ps=>.get i λv=>match v with
  | .d none k t' y=>if h:t'=t then (if k=n then (kD (i+1) ps).bind λr=>.ret ((h▸y,r.1),(i,i)::r.2)else .fail)else .fail
  | .view d [] tv=>.get d λu=>match u with
   | .box none k t' y=>if h:t'=t then (if k=n/\tv=t then (kD (i+1) ps).bind λr=>.ret ((h▸y,r.1),(d,i)::r.2)else .fail)else .fail
   | _=>.fail
  | _=>.fail
 | i,(t,.ptr n)::ps=>.get i λv=>match v with
  | .box none k t' y=>if h:t'=t then (if k=n then (kD (i+1) ps).bind λr=>.ret ((h▸y,r.1),(i,i)::r.2)else .fail)else .fail
  | _=>.fail
 | i,(_,.ro)::ps=>kD (i+1) ps
 | i,(_,.bP _)::ps=>kD (i+1) ps
def iW:Nat->List (Ty×Mode)->List Nat
 | _,[]=>[]
 | i,(_,.mut _)::ps=>i::iW (i+1) ps
 | i,(_,.ptr _)::ps=>i::iW (i+1) ps
 | i,(_,.ro)::ps=>iW (i+1) ps
 | i,(_,.bP _)::ps=>iW (i+1) ps
def HL(C:Ctx)(ps:List (Ty×Mode))(rs:List (Ty×Nat))(sl:List RV):M (Ty.pair (cL rs) (cu ps)).den :=
 (JZ C 0 rs sl).bind λr=>(kD 0 ps).bind λm =>
  .bj (ca (r.ss.map (·.s))&&r.ls.all (λl => !(r.ss.map (·.s)).contains l && !(m.2.map (·.1)).contains l)&&(m.2.map (·.1)).all (λi => !(r.ss.map (·.s)).contains i)&&ca (m.2.map (·.1))) (.ret (r.x,m.1))
def BD:(ps:List (Ty×Mode))->(rs:List (Ty×Nat))->List RV->M (Ty.pair (cL rs) (cu ps)).den
 | ps,[(t,n)],[.tmp s]=>.get s λv=>(rC s v).bind λz=>if h:z.2.t=t then (if z.2.n+1000=n then (kD 0 ps).bind λm=>.bj (ca (z.1::m.2.map (·.1))) (.ret ((h▸z.2.x,()),m.1))else .fail)else .fail
 | _,_,_=>.fail
def gx(m:Nat)(mu:List (Nat×Nat))(ss:List Src):aj->aj
 | .own s q=>match mu.find? (λp=>p.1==s)with
  | some p=>.own p.2 q
  | none=>match ss.find? (λp=>p.s==s)with
   | some p=>match q with
    | y::rest=>if y<p.sz then (if rest.length<p.n then .own m ((p.o+y)::rest)else .an)else .an
    | []=>.an
   | none=>.an
 | x=>x
theorem To{s:Nat}(h:s∉mu.map (·.1)):mu.find? (λp=>p.1==s)=none:=by
 rw[List.find?_eq_none];intro p hp he;exact h (List.mem_map.2 ⟨p,hp,by simpa using he⟩)
theorem Tn{s j:Nat}(hn:ca (mu.map (·.1))=true)(h:(s,j)∈mu):mu.find? (λp=>p.1==s)=some (s,j):=by
 induction mu with
 | nil=>cases h
 | cons x l ih =>
  simp only[List.map_cons,ca,Bool.and_eq_true,Bool.not_eq_true']at hn;rcases List.mem_cons.1 h with rfl|hm
  ·simp
  ·have bg:x.1≠s:=λe=>by
    have:(l.map (·.1)).contains x.1=true:=by
     rw[List.contains_iff_mem,e];exact List.mem_map.2 ⟨(s,j),hm,rfl⟩
    rw[hn.1]at this;cases this
   rw[List.find?_cons_of_neg (by simpa using bg)];exact ih hn.2 hm
section
variable{P:Program}{C:Ctx}{w w' w0:World}{L L' L0:Nat->aj}{N:Nat}{vs:List Nat}{T T':List V}{a:Act}
theorem afY[ae]{m:Nat}{ss:List Src}{s:Nat}{q:List Nat}(h1:s∉mu.map (·.1))(h2:s∉ss.map (·.s)):gx m mu ss (.own s q) = .an:=by
 unfold gx;dsimp only;rw[To h1];have:ss.find? (λp=>p.s==s)=none:=by
  rw[List.find?_eq_none];intro p hp he;exact h2 (List.mem_map.2 ⟨p,hp,by simpa using he⟩)
 rw[this]
theorem afZ[ae]{m:Nat}{ss:List Src}{p:Src}(hn:ca (ss.map (·.s))=true)(h1:p.s∉mu.map (·.1))(hp:p∈ss){y:Nat}{rest:List Nat}(hy:y<p.sz):
  gx m mu ss (.own p.s (y::rest))=if rest.length<p.n then .own m ((p.o+y)::rest)else .an:=by
 unfold gx;dsimp only;rw[To h1];have:ss.find? (λp'=>p'.s==p.s)=some p:=by
  clear h1 hy;induction ss with
  | nil=>cases hp
  | cons x l ih =>
   simp only[List.map_cons,ca,Bool.and_eq_true,Bool.not_eq_true']at hn;rcases List.mem_cons.1 hp with rfl|hp
   ·simp
   ·have bg:x.s≠p.s:=λe=>by
     have:(l.map (·.s)).contains x.s=true:=by
      rw[List.contains_iff_mem,e];exact List.mem_map_of_mem hp
     rw[hn.1]at this;cases this
    rw[List.find?_cons_of_neg (by simpa using bg)];exact ih hn.2 hp
 rw[this];dsimp only;rw[if_pos hy]
theorem ak3[ae](hI:Inv w0 L0 N vs T a w L){s:Nat}{y:t.den}{src:Option Nat}{ls:List Nat}(h:(J0 t n s (T.getD s .dead)).ai T (y,src,ls) log):
  ∃cells,Form t cells (a.tmps.getD s undef)/\(∀s',src=some s'->n≠0/\t.depth≠0) /\
   ∀(L':Nat->aj) (m o:Nat),(∀k,L k = .an->L' k = .an)->(∀k r q,r∈ls->L k = .own r q->L' k = .an) ->
    (∀s' k i rest,src=some s'->L k = .own s' (i::rest)->i<t.sz->(rest.length<n->L' k = .own m ((o+i)::rest))/\(n<=rest.length->L' k = .an)) ->
    Own w L' (λk=>L' k = .an) m n t y [] o cells:=by
 have hs:=hI.aV s;have UQ:∀{k:Nat} {cells:List Value} {s':Nat} {y:t.den},n<=k->Own w L (SL L none) s' k t y [] 0 cells->∀(L':Nat->aj) (m o:Nat),(∀k,L k = .an->L' k = .an) ->
    (∀k i rest,L k = .own s' (i::rest)->i<t.sz->(rest.length<n->L' k = .own m ((o+i)::rest))/\(n<=rest.length->L' k = .an)) ->
    Own w L' (λk=>L' k = .an) m n t y [] o cells:=by
  intro k cells s' y ko ho L' m o H1 H3;refine Own.eO ko (λk hk=>⟨?_,rfl⟩) (λk d rest hd hk=>?_) ho
  ·rcases hk with hk|⟨_,_,hk,_⟩
   ·exact H1 k hk
   ·cases hk
  ·have aG:L k = .own s' (d::rest):=by simpa using hk
   have:=H3 k d rest aG hd;exact⟨rfl,λh=>by simpa using this.1 h,this.2⟩
 unfold J0 at h;split at h
 ·rename_i hc;obtain⟨⟨l,t',y'⟩,l1,l2,rfl,h1,h2⟩:=M.al h;dsimp only at h2;split at h2
  ·rename_i ht;subst ht;obtain⟨h2,_⟩:=h2;cases h2;obtain⟨cells,hf,bz,cr⟩:=p9 hI h1 hs (λ_=>rfl);refine⟨cells,hf,λs' h=>(by cases h),λL' m o H1 H2 _=>?_⟩;have h0:=Own.dw (L:=L) (s:=0) (q:=[]) (o:=0) bz;by_cases hd:t'.depth=0
   ·exact Own.flat hd h0
   ·have hn:n=0:=by omega
    subst hn;rw[if_neg hd]at H2;refine Own.dw (Rd.move (λk hk=>⟨?_,rfl⟩) bz);rcases hk with hk|⟨r,q,hl,hk⟩
    ·exact H1 k hk
    ·exact H2 k r q (by simp[hl]) hk
  ·exact h2.elim
 ·rename_i hc;have hc:=not_or.1 hc;generalize hv:T.getD s .dead=v at h hs;split at h
  ·rename_i k t' y';split at h
   ·rename_i ht;subst ht;split at h
    ·rename_i ko;obtain⟨h,_⟩:=h;cases h;obtain⟨_,cells,hf,ho⟩:=hs;exact⟨cells,hf,λ_ _=>⟨hc.2,hc.1⟩,λL' m o H1 _ H3=>UQ ko ho L' m o H1 (λk i rest hk hi=>H3 s k i rest rfl hk hi)⟩
    ·exact h.elim
   ·exact h.elim
  ·rename_i r t2;obtain⟨log2,rfl,h⟩:=h;dsimp only at h;split at h
   ·rename_i k t' y' hu;split at h
    ·rename_i ht;subst ht;split at h
     ·rename_i ko;obtain⟨h,_⟩:=h;cases h;obtain⟨_,h1⟩:=hs;have hr:=hI.aV r;rw[hu]at hr;obtain⟨_,cells,hf,ho⟩:=hr;refine⟨cells,?_,λ_ _=>⟨hc.2,hc.1⟩,λL' m o H1 _ H3=>UQ ko ho L' m o H1 (λk i rest hk hi=>H3 r k i rest rfl hk hi)⟩;rcases h1 with⟨_,h2,_⟩|⟨_,_,_,h2,_⟩
      ·rw[h2];exact hf
      ·rw[hu]at h2;simp[V.dj]at h2
     ·exact h.elim
    ·exact h.elim
   ·exact h.elim
  ·exact h.elim
theorem ak2[ae](hI:Inv w0 L0 N vs T a w L)(hC:bA P C){s:Nat}{y:t.den}{src:Option Nat}{ls:List Nat}(h:(JY C X t n s (T.getD s .dead)).ai T (y,src,ls) log):
  ∃c cells,xa P w a (.cell s X) c/\Form t cells c/\(∀s',src=some s'->n≠0/\t.depth≠0) /\
   ∀(L':Nat->aj) (m o:Nat),(∀k,L k = .an->L' k = .an)->(∀k r q,r∈ls->L k = .own r q->L' k = .an) ->
    (∀s' k i rest,src=some s'->L k = .own s' (i::rest)->i<t.sz->(rest.length<n->L' k = .own m ((o+i)::rest))/\(n<=rest.length->L' k = .an)) ->
    Own w L' (λk=>L' k = .an) m n t y [] o cells:=by
 have hs:=hI.aV s;unfold JY at h;generalize hv:T.getD s .dead=v at h hs;split at h
 ·rename_i k t' y';split at h
  ·rename_i ht;subst ht;split at h
   ·rename_i hX;obtain⟨_,g,cur,e,h1,h2,h3,h4,h5⟩:=hs;obtain⟨c,aM,hf⟩:=(hC X t' hX).J7 (w:=w) (g:=g) (o:=0) (Own.len h5) (λi v hv=>by
     rw[Nat.zero_add,Ho h3];simpa using hv)
    have u4:xa P w a (.cell s X) c:=⟨_,h1,aM⟩;have a6:∀{L':Nat->aj},(∀k,L k = .an->L' k = .an)->∀k,SL L none k->L' k = .an/\w.heap[k]?=w.heap[k]?:=by
     intro L' H k hk;rcases hk with hk|⟨_,_,hk,_⟩
     ·exact⟨H k hk,rfl⟩
     ·cases hk
    split at h
    ·rename_i hc;obtain⟨h,_⟩:=h;cases h;refine⟨c,cur.toList,u4,hf,λs' h=>(by cases h),λL' m o H1 H2 _=>?_⟩;by_cases hd:t'.depth=0
     ·exact Own.flat hd h5
     ·have hn:n=0:=by omega
      subst hn;rw[if_neg hd]at H2;refine Own.dw (Own.rd (S':=λk=>L' k = .an) (λk q hk=>H2 k s q (by simp) hk) (λk hk=>(a6 H1 k hk).1) h5)
    ·rename_i hc;have hc:=not_or.1 hc;split at h
     ·rename_i ko;obtain⟨h,_⟩:=h;cases h;refine⟨c,cur.toList,u4,hf,λ_ _=>⟨hc.2,hc.1⟩,λL' m o H1 _ H3=>?_⟩;refine Own.eO ko (a6 H1) (λk d rest hd hk=>?_) h5;have aG:L k = .own s (d::rest):=by simpa using hk
      have:=H3 s k d rest rfl aG hd;exact⟨rfl,λh=>by simpa using this.1 h,this.2⟩
     ·exact h.elim
   ·exact h.elim
  ·exact h.elim
 ·exact h.elim
theorem ak4[ae](hI:Inv w0 L0 N vs T a w L)(hC:bA P C){rv:RV}{y:t.den}{src:Option Nat}{ls:List Nat}(h:(XN C t n rv (T.getD rv.slot .dead)).ai T (y,src,ls) log):
  ∃c cells,xa P w a rv c/\Form t cells c/\(∀s',src=some s'->n≠0/\t.depth≠0) /\
   ∀(L':Nat->aj) (m o:Nat),(∀k,L k = .an->L' k = .an)->(∀k r q,r∈ls->L k = .own r q->L' k = .an) ->
    (∀s' k i rest,src=some s'->L k = .own s' (i::rest)->i<t.sz->(rest.length<n->L' k = .own m ((o+i)::rest))/\(n<=rest.length->L' k = .an)) ->
    Own w L' (λk=>L' k = .an) m n t y [] o cells:=by
 cases rv with
 | tmp s =>
  obtain⟨cells,h1,h2,h3⟩:=ak3 hI (s:=s) h;exact⟨_,cells,rfl,h1,h2,h3⟩
 | cell s X=>exact ak2 hI hC h
theorem XM[ae](hI:Inv w0 L0 N vs T a w L)(hC:bA P C):{rs:List (Ty×Nat)}->{o:Nat}->{sl:List RV}->{R:Ro rs}->{log:List Nat}->(JZ C o rs sl).ai T R log ->
  ∃cs,qC P w a sl cs/\(∀p∈R.ss,o<=p.o/\∃t,(t,p.n)∈rs/\p.n≠0/\t.depth≠0)/\(∀p p',p∈R.ss->p'∈R.ss->p.s≠p'.s->p.o+p.sz<=p'.o\/p'.o+p'.sz<=p.o) /\
  ∀(L':Nat->aj) (m:Nat),(∀k,L k = .an->L' k = .an)->(∀k r q,r∈R.ls->L k = .own r q->L' k = .an) ->
   (∀p k i rest,p∈R.ss->L k = .own p.s (i::rest)->i<p.sz->(rest.length<p.n->L' k = .own m ((p.o+i)::rest))/\(p.n<=rest.length->L' k = .an)) ->
   iz w L' m o rs R.x cs
 | [],o,[],R,log,h=>by
  obtain⟨rfl,_⟩:=h;exact⟨[],rfl,by simp,by simp,λ_ _ _ _ _=>rfl⟩
 | (t,n)::rs,o,s::sl,R,log,h=>by
  obtain⟨aC,rfl,h⟩:=h;obtain⟨⟨y,src,ls⟩,l1,l2,rfl,h1,h⟩:=M.al h;obtain⟨R',l3,l4,rfl,h2,h⟩:=M.al h;obtain⟨rfl,_⟩:=h;obtain⟨c,cells,k0,k1,k2,k3⟩:=ak4 hI hC h1;obtain⟨cs,j0,j1,j2,j3⟩:=XM hI hC h2;have fR:∀p,p∈(match src with|some s'=>(⟨s',o,t.sz,n⟩:Src)::R'.ss|none=>R'.ss)->(∃s',src=some s'/\p=⟨s',o,t.sz,n⟩)\/p∈R'.ss:=by
   intro p hp;cases src with
   | none=>exact .inr hp
   | some s' =>
    rcases List.mem_cons.1 hp with hp|hp
    ·exact .inl ⟨s',rfl,hp⟩
    ·exact .inr hp
  refine⟨c::cs,⟨c,cs,rfl,k0,j0⟩,λp hp=>?_,λp p' hp cm bg=>?_,λL' m H1 H2 H3=>?_⟩
  ·rcases fR p hp with⟨s',bL,rfl⟩|hp
   ·exact⟨Nat.le_refl _,t,by simp,(k2 s' bL).1,(k2 s' bL).2⟩
   ·obtain⟨e1,t',e2,e3,e4⟩:=j1 p hp;exact⟨by omega,t',by simp[e2],e3,e4⟩
  ·rcases fR p hp with⟨s',bL,rfl⟩|hp
   ·rcases fR p' cm with⟨s2,dM,rfl⟩|cm
    ·rw[bL]at dM;injection dM with dM;exact absurd dM bg
    ·exact .inl (j1 p' cm).1
   ·rcases fR p' cm with⟨s2,dM,rfl⟩|cm
    ·exact .inr (j1 p hp).1
    ·exact j2 p p' hp cm bg
  ·refine⟨c,_,cells,rfl,k1,k3 L' m o H1 (λk r q hr hk=>H2 k r q (List.mem_append_left _ hr) hk) (λs' k i rest bL hk hi=>?_),j3 L' m H1 (λk r q hr hk=>H2 k r q (List.mem_append_right _ hr) hk) (λp k i rest hp hk hi=>H3 p k i rest ?_ hk hi)⟩
   ·subst bL;exact H3 ⟨s',o,t.sz,n⟩ k i rest (by simp) hk hi
   ·cases src with
    | none=>exact hp
    | some s'=>exact List.mem_cons_of_mem _ hp
 | [],_,_::_,_,_,h=>h.elim
 | _::_,_,[],_,_,h=>h.elim
theorem Xc:{ps:List (Ty×Mode)}->{i s:Nat}->(s∈iW i ps↔i<=s/\∃t m,ps[s - i]?=some (t,m)/\m.back=true)
 | [],i,s=>by simp[iW]
 | (t,md)::ps,i,s=>by
  have ih:=Xc (ps:=ps) (i:=i+1) (s:=s);have key:(i+1<=s/\∃t' m,ps[s - (i+1)]?=some (t',m)/\m.back=true)↔(s≠i/\i<=s/\∃t' m,((t,md)::ps)[s - i]?=some (t',m)/\m.back=true):=by
   constructor
   ·rintro⟨h1,t',n',h2,h3⟩
    exact⟨by omega,by omega,t',n',by rw[show s - i=(s - (i+1))+1 by omega];simpa using h2,h3⟩
   ·rintro⟨hs,h1,t',n',h2,h3⟩
    refine⟨by omega,t',n',?_,h3⟩;rw[show s - i=(s - (i+1))+1 by omega]at h2;simpa using h2
  have put:md.back=true->((s=i\/s∈iW (i+1) ps)↔i<=s/\∃t' m,((t,md)::ps)[s - i]?=some (t',m)/\m.back=true):=by
   intro hm;rw[ih,key];constructor
   ·rintro (rfl|⟨_,h⟩)
    ·exact⟨Nat.le_refl _,t,md,by simp,hm⟩
    ·exact h
   ·intro h;by_cases hs:s=i
    ·exact .inl hs
    ·exact .inr ⟨hs,h⟩
  match md,key,put with
  | .mut n,_,put=>simpa only[iW,List.mem_cons]using put (by simp)
  | .ptr n,_,put=>simpa only[iW,List.mem_cons]using put (by simp)
  | .ro,key,_ =>
   simp only[iW];rw[ih,key];constructor
   ·exact λh=>h.2
   ·rintro⟨h1,t',m,h2,h3⟩
    refine⟨?_,h1,t',m,h2,h3⟩
    rintro rfl
    rw[Nat.sub_self]at h2;simp only[List.getElem?_cons_zero,Option.some.injEq,Prod.mk.injEq]at h2;rw[<-h2.2]at h3;cases h3
  | .bP _,key,_ =>
   simp only[iW];rw[ih,key];constructor
   ·exact λh=>h.2
   ·rintro⟨h1,t',m,h2,h3⟩
    refine⟨?_,h1,t',m,h2,h3⟩
    rintro rfl
    rw[Nat.sub_self]at h2;simp only[List.getElem?_cons_zero,Option.some.injEq,Prod.mk.injEq]at h2;rw[<-h2.2]at h3;cases h3
theorem p6[ae](hI:Inv w0 L0 N vs T a w L){A0:List Value}:{ps:List (Ty×Mode)}->{i:Nat}->{y:(cu ps).den}->{mu:List (Nat×Nat)}->{log:List Nat}->(kD i ps).ai T (y,mu) log->ps.length=A0.length->(∀j,(∃t m,ps[j]?=some (t,m)/\m.back=true)->A0[j]?=some (a.tmps.getD (i+j) undef)) ->
  ∀(L':Nat->aj),(∀k,L k = .an->L' k = .an)->(∀k s j q,(s,j)∈mu->L k = .own s q->L' k = .own j q)->fC w L' i ps y A0
 | [],i,y,mu,log,h,hl,_,L',_,_=>by
  simp only[List.length_nil]at hl;exact List.eq_nil_of_length_eq_zero hl.symm
 | (t,.mut n)::ps,i,y,mu,log,h,hl,hA,L',H1,H2=>by
  cases A0 with
  | nil=>simp at hl
  | cons c A0 =>
   obtain⟨aC,rfl,h⟩:=h;have hs:=hI.aV i;have hc:c=a.tmps.getD i undef:=by
    have:=hA 0 ⟨t,.mut n,rfl,by simp⟩;simpa using this
   subst hc;have BM:∀j,(∃t m,ps[j]?=some (t,m)/\m.back=true)->A0[j]?=some (a.tmps.getD (i+1+j) undef):=λj hj=>by
    have:=hA (j+1) (by simpa using hj);rw[show i+1+j=i+(j+1)by omega];simpa using this
   generalize hv:T.getD i .dead=v at h hs;dsimp only at h;split at h
   ·rename_i k t' y';split at h
    ·rename_i ht;subst ht;split at h
     ·rename_i hk;subst hk;obtain⟨⟨r,mr⟩,l1,l2,rfl,h1,h2⟩:=M.al h;obtain⟨h2,_⟩:=h2;injection h2 with h2 h3;subst h2 h3;obtain⟨_,cells,hf,ho⟩:=hs;refine⟨_,A0,cells,rfl,hf,?_,p6 hI h1 (by simpa using hl) BM L' H1 (λk' s j q hm aG=>H2 k' s j q (List.mem_cons_of_mem _ hm) aG)⟩
      ·refine Own.move (λk' aG=>⟨?_,rfl⟩) (λk' d rest _ aG=>⟨H2 k' i i _ (by simp) aG,rfl⟩) ho;rcases aG with aG|⟨_,_,aG,_⟩
       ·exact H1 k' aG
       ·cases aG
     ·exact h.elim
    ·exact h.elim
   ·rename_i d tv;obtain⟨log2,rfl,h⟩:=h;have hd:=hI.aV d;generalize hu:T.getD d .dead=u at h hd;dsimp only at h;split at h
    ·rename_i k t' y';split at h
     ·rename_i ht;subst ht;split at h
      ·rename_i hk;obtain⟨rfl,rfl⟩:=hk;obtain⟨⟨r,mr⟩,l1,l2,rfl,h1,h2⟩:=M.al h;obtain⟨h2,_⟩:=h2;injection h2 with h2 h3;subst h2 h3;obtain⟨_,cI⟩:=hs;rcases cI with⟨_,_,l0,n0,x0,kf,_⟩|⟨g,cur,e,_,g1,g2,g3,g4⟩
       ·rw[hu]at kf;cases kf
       ·obtain⟨_,g',cur',e',_,j2,j3,j4,j5⟩:=hd;obtain rfl:=hI.inj g g' d _ g1 j2;rw[g2]at j3;injection j3 with j3;injection j3 with j3 _ _;subst j3;simp only[node,List.drop_zero]at g4;rw[List.take_of_length_le (by rw[Array.length_toList,j4];exact Nat.le_refl _)]at g4;refine⟨_,A0,cur.toList,rfl,g4,?_,p6 hI h1 (by simpa using hl) BM L' H1 (λk' s j q hm aG=>H2 k' s j q (List.mem_cons_of_mem _ hm) aG)⟩;refine Own.move (λk' aG=>⟨?_,rfl⟩) (λk' dd rest _ aG=>⟨H2 k' d i _ (by simp) aG,rfl⟩) j5;rcases aG with aG|⟨_,_,aG,_⟩
        ·exact H1 k' aG
        ·cases aG
      ·exact h.elim
     ·exact h.elim
    ·exact h.elim
   ·exact h.elim
 | (t,.ptr n)::ps,i,y,mu,log,h,hl,hA,L',H1,H2=>by
  cases A0 with
  | nil=>simp at hl
  | cons c A0 =>
   obtain⟨aC,rfl,h⟩:=h;have hs:=hI.aV i;have hc:c=a.tmps.getD i undef:=by
    have:=hA 0 ⟨t,.ptr n,rfl,by simp⟩;simpa using this
   subst hc;have BM:∀j,(∃t m,ps[j]?=some (t,m)/\m.back=true)->A0[j]?=some (a.tmps.getD (i+1+j) undef):=λj hj=>by
    have:=hA (j+1) (by simpa using hj);rw[show i+1+j=i+(j+1)by omega];simpa using this
   generalize hv:T.getD i .dead=v at h hs;dsimp only at h;split at h
   ·rename_i k t' y';split at h
    ·rename_i ht;subst ht;split at h
     ·rename_i hk;subst hk;obtain⟨⟨r,mr⟩,l1,l2,rfl,h1,h2⟩:=M.al h;obtain⟨h2,_⟩:=h2;injection h2 with h2 h3;subst h2 h3;obtain⟨_,g,cur,e,hf,hL,hg,hz,ho⟩:=hs;refine⟨_,A0,rfl,⟨g,cur,e,hf,H2 g i i _ (by simp) hL,hg,hz,?_⟩,p6 hI h1 (by simpa using hl) BM L' H1 (λk' s j q hm aG=>H2 k' s j q (List.mem_cons_of_mem _ hm) aG)⟩;refine Own.move (λk' aG=>⟨?_,rfl⟩) (λk' d rest _ aG=>⟨H2 k' i i _ (by simp) aG,rfl⟩) ho;rcases aG with aG|⟨_,_,aG,_⟩
      ·exact H1 k' aG
      ·cases aG
     ·exact h.elim
    ·exact h.elim
   ·exact h.elim
 | (t,.ro)::ps,i,y,mu,log,h,hl,hA,L',H1,H2=>by
  cases A0 with
  | nil=>simp at hl
  | cons c A0 =>
   refine⟨c,A0,rfl,p6 (ps:=ps) (i:=i+1) hI h (by simpa using hl) (λj hj=>?_) L' H1 H2⟩;have:=hA (j+1) (by simpa using hj);rw[show i+1+j=i+(j+1)by omega];simpa using this
 | (t,.bP _)::ps,i,y,mu,log,h,hl,hA,L',H1,H2=>by
  cases A0 with
  | nil=>simp at hl
  | cons c A0 =>
   refine⟨c,A0,rfl,p6 (ps:=ps) (i:=i+1) hI h (by simpa using hl) (λj hj=>?_) L' H1 H2⟩;have:=hA (j+1) (by simpa using hj);rw[show i+1+j=i+(j+1)by omega];simpa using this
theorem sA:{ps:List (Ty×Mode)}->{i:Nat}->{y:(cu ps).den}->{mu:List (Nat×Nat)}->{log:List Nat}->(kD i ps).ai T (y,mu) log ->
  ∀s j,(s,j)∈mu->i<=j/\(∃t m,ps[j - i]?=some (t,m)/\m.back=true)/\∀s',(s',j)∈mu->s'=s
 | [],i,y,mu,log,h=>by
  obtain⟨h,_⟩:=h;injection h with _ h;subst h;simp
 | (t,.mut n)::ps,i,y,mu,log,h=>by
  obtain⟨aC,rfl,h⟩:=h;have key:∀{d:Nat} {y2:(cu ps).den} {mr:List (Nat×Nat)} {l:List Nat},(kD (i+1) ps).ai T (y2,mr) l->mu=(d,i)::mr->∀s j,(s,j)∈mu->i<=j/\(∃t' m',((t,Mode.mut n)::ps)[j - i]?=some (t',m')/\m'.back=true)/\∀s',(s',j)∈mu->s'=s:=by
   intro d y2 mr l h1 fS s j hm;subst fS;have ih:=sA h1;rcases List.mem_cons.1 hm with hm|hm
   ·injection hm with h2 h3;subst h2 h3;refine⟨Nat.le_refl _,⟨t,.mut n,by simp,by simp⟩,λs' bV=>?_⟩;rcases List.mem_cons.1 bV with bV|bV
    ·injection bV
    ·have:=(ih s' j bV).1;omega
   ·obtain⟨e1,⟨t',n',e2,kW⟩,e3⟩:=ih s j hm;refine⟨by omega,⟨t',n',by rw[show j - i=(j - (i+1))+1 by omega];simpa using e2,kW⟩,λs' bV=>?_⟩;rcases List.mem_cons.1 bV with bV|bV
    ·injection bV with _ h3;omega
    ·exact e3 s' bV
  generalize hv:T.getD i .dead=v at h;dsimp only at h;split at h
  ·split at h
   ·split at h
    ·obtain⟨⟨r,mr⟩,l1,l2,rfl,h1,h2⟩:=M.al h;obtain⟨h2,_⟩:=h2;injection h2 with h2 h3;exact key h1 h3
    ·exact h.elim
   ·exact h.elim
  ·rename_i d tv;obtain⟨log2,rfl,h⟩:=h;generalize T.getD d .dead=u at h;dsimp only at h;split at h
   ·split at h
    ·split at h
     ·obtain⟨⟨r,mr⟩,l1,l2,rfl,h1,h2⟩:=M.al h;obtain⟨h2,_⟩:=h2;injection h2 with h2 h3;exact key h1 h3
     ·exact h.elim
    ·exact h.elim
   ·exact h.elim
  ·exact h.elim
 | (t,.ptr n)::ps,i,y,mu,log,h=>by
  obtain⟨aC,rfl,h⟩:=h;have key:∀{d:Nat} {y2:(cu ps).den} {mr:List (Nat×Nat)} {l:List Nat},(kD (i+1) ps).ai T (y2,mr) l->mu=(d,i)::mr->∀s j,(s,j)∈mu->i<=j/\(∃t' m',((t,Mode.ptr n)::ps)[j - i]?=some (t',m')/\m'.back=true)/\∀s',(s',j)∈mu->s'=s:=by
   intro d y2 mr l h1 fS s j hm;subst fS;have ih:=sA h1;rcases List.mem_cons.1 hm with hm|hm
   ·injection hm with h2 h3;subst h2 h3;refine⟨Nat.le_refl _,⟨t,.ptr n,by simp,by simp⟩,λs' bV=>?_⟩;rcases List.mem_cons.1 bV with bV|bV
    ·injection bV
    ·have:=(ih s' j bV).1;omega
   ·obtain⟨e1,⟨t',n',e2,kW⟩,e3⟩:=ih s j hm;refine⟨by omega,⟨t',n',by rw[show j - i=(j - (i+1))+1 by omega];simpa using e2,kW⟩,λs' bV=>?_⟩;rcases List.mem_cons.1 bV with bV|bV
    ·injection bV with _ h3;omega
    ·exact e3 s' bV
  generalize hv:T.getD i .dead=v at h;dsimp only at h;split at h
  ·split at h
   ·split at h
    ·obtain⟨⟨r,mr⟩,l1,l2,rfl,h1,h2⟩:=M.al h;obtain⟨h2,_⟩:=h2;injection h2 with h2 h3;exact key h1 h3
    ·exact h.elim
   ·exact h.elim
  ·exact h.elim
 | (t,.ro)::ps,i,y,mu,log,h=>by
  intro s j hm;obtain⟨e1,⟨t',n',e2,kW⟩,e3⟩:=sA (ps:=ps) (i:=i+1) h s j hm;exact⟨by omega,⟨t',n',by rw[show j - i=(j - (i+1))+1 by omega];simpa using e2,kW⟩,e3⟩
 | (t,.bP _)::ps,i,y,mu,log,h=>by
  intro s j hm;obtain⟨e1,⟨t',n',e2,kW⟩,e3⟩:=sA (ps:=ps) (i:=i+1) h s j hm;exact⟨by omega,⟨t',n',by rw[show j - i=(j - (i+1))+1 by omega];simpa using e2,kW⟩,e3⟩
end
def Mode.val(t:Ty)(x:t.den):Mode->V
 | .ptr n=>.box none n t x
 | .mut n=>.d none n t x
 | .bP n=>.d none n t x
 | .ro=>.d none 0 t x
def yt(w:World)(L0:Nat->aj)(i:Nat)(t:Ty)(x:t.den)(c:Value):Mode->Prop
 | .ptr n=>tf w L0 (λk=>L0 k = .an) i n t x c
 | .mut n=>∃cells,Form t cells c/\Own w L0 (λk=>L0 k = .an) i n t x [] 0 cells
 | .bP n=>∃cells,Form t cells c/\Own w L0 (λk=>L0 k = .an) i n t x [] 0 cells
 | .ro=>∃cells,Form t cells c/\Own w L0 (λk=>L0 k = .an) i 0 t x [] 0 cells
def oh:(ps:List (Ty×Mode))->(cX ps).den->List V
 | [],_=>[]
 | (t,m)::ps,x=>m.val t x.1::oh ps x.2
def aU(N:Nat)(ps:List (Ty×Mode))(x:(cX ps).den):List V:=oh ps x++List.replicate (N - ps.length) .dead
def vU(C:Ctx)(bd:dp)(vs:List Nat)(N:Nat)(aR:Nat->Option Nat)(hx:Hints)(ps:List (Ty×Mode)):Env :=
 { step:=Kk C bd vs hx N,N:=N,pins:=λp=>(iW 0 ps).contains p,aR:=aR }
def Tf(C:Ctx)(ps:List (Ty×Mode))(rs:List (Ty×Nat))(sl:List RV):Ex->List V->Option (Ty.pair (cL rs) (cu ps)).den
 | .ext _,_=>none
 | _,T=>(bif vP rs then HL C ps rs sl else BD ps rs sl).runK T [] λ_ r=>some r
noncomputable def W2(C:Ctx)(bd:dp)(vs:List Nat)(N:Nat)(aR:Nat->Option Nat)(hx:Hints)(ps:List (Ty×Mode))(rs:List (Ty×Nat))(sl:List RV)(c:Code):Fn :=
 { ps:=ps,rs:=rs,ao:=λx=>ax (vU C bd vs N aR hx ps) c (Tf C ps rs sl) (aU N ps x) }
section
variable{P:Program}{C:Ctx}{w w' w0:World}{L L' L0:Nat->aj}{N:Nat}{vs:List Nat}{T T':List V}{a:Act}
theorem dH.cons{m:Mode}{i:Nat}{x:(cX ((t,m)::ps)).den}{cs:List Value}(h:dH w L0 i ((t,m)::ps) x cs):
  ∃c bf,cs=c::bf/\yt w L0 i t x.1 c m/\dH w L0 (i+1) ps x.2 bf:=by
 match m,x,h with
 | .ptr n,x,h=>exact h
 | .mut n,x,h =>
  obtain⟨c,bf,cells,h1,h2,h3,h4⟩:=h;exact⟨c,bf,h1,⟨cells,h2,h3⟩,h4⟩
 | .bP n,x,h =>
  obtain⟨c,bf,cells,h1,h2,h3,h4⟩:=h;exact⟨c,bf,h1,⟨cells,h2,h3⟩,h4⟩
 | .ro,x,h =>
  obtain⟨c,bf,cells,h1,h2,h3,h4⟩:=h;exact⟨c,bf,h1,⟨cells,h2,h3⟩,h4⟩
theorem dH.len[ae]:{ps:List (Ty×Mode)}->{i:Nat}->{x:(cX ps).den}->{cs:List Value}->dH w L0 i ps x cs->cs.length=ps.length
 | [],_,_,_,h=>by simp only[dH]at h;subst h;rfl
 | (t,m)::ps,i,x,cs,h=>by
  obtain⟨c,bf,rfl,_,h⟩:=h.cons;simp[dH.len h]
theorem dH.get[ae]:{ps:List (Ty×Mode)}->{i:Nat}->{x:(cX ps).den}->{cs:List Value}->dH w L0 i ps x cs->∀(s:Nat) (t:Ty) (m:Mode),ps[s]?=some (t,m) ->
  ∃y c,(oh ps x)[s]?=some (m.val t y)/\cs[s]?=some c/\yt w L0 (i+s) t y c m
 | [],_,_,_,_,s,t,m,h=>by simp at h
 | (t0,m0)::ps,i,x,cs,h,s,t,m,hs=>by
  obtain⟨c,bf,rfl,h1,h⟩:=h.cons;cases s with
  | zero =>
   simp only[List.getElem?_cons_zero,Option.some.injEq,Prod.mk.injEq]at hs;obtain⟨rfl,rfl⟩:=hs;exact⟨x.1,c,rfl,rfl,h1⟩
  | succ s =>
   obtain⟨y,c',e1,e2,e3⟩:=dH.get h s t m (by simpa using hs);exact⟨y,c',by simpa[oh]using e1,by simpa using e2,by rw[show i+(s+1)=i+1+s by omega];exact e3⟩
theorem Mode.ao5{x:t.den}:{m:Mode}->m.owned t=true->(m.val t x).aJ=true
 | .ro,h=>by cases h
 | .mut n,h=>h
 | .bP n,h=>h
 | .ptr n,_=>rfl
theorem Mode.ao6{x:t.den}:{m:Mode}->(m.val t x).root=none
 | .ro=>rfl
 | .mut _=>rfl
 | .bP _=>rfl
 | .ptr _=>rfl
theorem yt.slot{i:Nat}{x:t.den}{c:Value}{T:List V}{tm:Array Value}:{m:Mode}->yt w L0 i t x c m->az L0 T tm i (m.val t x) w c
 | .ro,h=>by
  obtain⟨cells,h1,h2⟩:=h;exact⟨by simp,cells,h1,Own.move (λk hk=>⟨.inl hk,rfl⟩) (λk d rest _ hk=>⟨hk,rfl⟩) h2⟩
 | .mut n,h=>by
  obtain⟨cells,h1,h2⟩:=h;exact⟨by simp,cells,h1,Own.move (λk hk=>⟨.inl hk,rfl⟩) (λk d rest _ hk=>⟨hk,rfl⟩) h2⟩
 | .bP n,h=>by
  obtain⟨cells,h1,h2⟩:=h;exact⟨by simp,cells,h1,Own.move (λk hk=>⟨.inl hk,rfl⟩) (λk d rest _ hk=>⟨hk,rfl⟩) h2⟩
 | .ptr n,h=>by
  obtain⟨g,cur,e,h1,h2,h3,h4,h5⟩:=h;exact⟨by simp,g,cur,e,h1,h2,h3,h4,Own.move (λk hk=>⟨.inl hk,rfl⟩) (λk d rest _ hk=>⟨hk,rfl⟩) h5⟩
theorem pN:{ps:List (Ty×Mode)}->{x:(cX ps).den}->(oh ps x).length=ps.length
 | [],_=>rfl
 | (t,m)::ps,x=>by simp[oh,pN]
theorem Kb[ae]{x:(cX ps).den}(s:Nat):(aU N ps x).getD s .dead=((oh ps x)[s]?).getD .dead:=by
 unfold aU;rw[List.getD_eq_getElem?_getD];by_cases h:s<ps.length
 ·rw[List.getElem?_append_left (by rw[pN];exact h)]
 ·rw[List.getElem?_append_right (by rw[pN];omega),List.getElem?_eq_none (l:=oh ps x) (by rw[pN];omega)];rw[List.getElem?_replicate];split<;>rfl
theorem alB[ae]{x:(cX ps).den}{args:Array Value}(hl:jm w L0 ps)(ha:dH w L0 0 ps x args.toList)(hN:ps.length<=N)(vs:List Nat):
  Inv w L0 N vs (aU N ps x) { tmps:=args++Array.replicate (N - args.size) undef,defers:=[] } w L0:=by
 have hlen:args.size=ps.length:=by simpa using ha.len
 refine⟨by simp;omega,by simp[aU,pN];omega,rfl,⟨rfl,rfl,rfl,Nat.le_refl _,Nat.le_refl _,λ_ _ _=>⟨rfl,rfl⟩,hl.gy⟩,hl.free,hl.inj,λk s q h=>?_,λs r h=>?_,λs=>?_⟩
 ·obtain⟨t,m,h1,h2⟩:=hl.owner k s q h;obtain⟨y,c,e1,_⟩:=ha.get s t _ h1;rw[Kb,e1];exact Mode.ao5 h2
 ·rw[Kb]at h;cases hp:ps[s]? with
  | none =>
   rw[List.getElem?_eq_none (by rw[pN];exact List.getElem?_eq_none_iff.1 hp)]at h;simp[V.on,V.root]at h
  | some p =>
   obtain⟨t,m⟩:=p;obtain⟨y,c,e1,_⟩:=ha.get s t m hp;rw[e1]at h;unfold V.on at h;rw[Option.getD_some,Mode.ao6]at h;cases h
 ·rw[Kb];cases hp:ps[s]? with
  | none =>
   rw[List.getElem?_eq_none (by rw[pN];exact List.getElem?_eq_none_iff.1 hp)];trivial
  | some p =>
   obtain⟨t,m⟩:=p;obtain⟨y,c,e1,e2,e3⟩:=ha.get s t m hp;rw[e1];have hs:s<args.size:=by rw[hlen];exact (List.getElem?_eq_some_iff.1 hp).1
   have hc:(args++Array.replicate (N - args.size) undef).getD s undef=c:=by
    rw[Array.getD_eq_getD_getElem?,Array.getElem?_append_left hs];rw[Array.getElem?_toList]at e2;rw[e2];rfl
   rw[Nat.zero_add]at e3;rw[Option.getD_some,hc];exact e3.slot
theorem BC{m:Nat}{ss:List Src}{l:aj}{s':Nat}{q':List Nat}(h:gx m mu ss l = .own s' q'):
  ∃s q,l = .own s q/\(((s,s')∈mu/\q'=q)\/∃p y rest,ss.find? (λp=>p.s==s)=some p/\q=y::rest/\y<p.sz/\s'=m/\q'=(p.o+y)::rest):=by
 cases l with
 | own s q =>
  unfold gx at h;dsimp only at h;split at h
  ·rename_i p hp;injection h with h1 h2;have n1:p.1=s:=by simpa using List.find?_some hp
   refine⟨s,_,rfl,.inl ⟨?_,h2.symm⟩⟩;have:=List.mem_of_find?_eq_some hp;rw[<-n1,<-h1];exact this
  ·split at h
   ·rename_i p hp;split at h
    ·split at h
     ·split at h
      ·injection h with h1 h2;exact⟨s,_,rfl,.inr ⟨p,_,_,hp,rfl,by assumption,h1.symm,h2.symm⟩⟩
      ·cases h
     ·cases h
    ·cases h
   ·cases h
 | an=>cases h
 | free=>cases h
 | other=>cases h
theorem af1[ae](hI:Inv w0 L0 N vs T a w L)(hC:bA P C){rs:List (Ty×Nat)}{sl:List RV}{r:(Ty.pair (cL rs) (cu ps)).den}{A0:List Value}(h:(HL C ps rs sl).ai T r log)
  (hl:ps.length=A0.length) (hA:∀j,(∃t m,ps[j]?=some (t,m)/\m.back=true)->A0[j]?=some (a.tmps.getD j undef)) :
  ∃L' cs,qC P w a sl cs/\Left w0 w L0 L' ps rs/\iz w L' ps.length 0 rs r.1 cs/\fC w L' 0 ps r.2 A0:=by
 obtain⟨R,l1,l2,rfl,h1,h⟩:=M.al h;obtain⟨⟨m,mu⟩,l3,l4,rfl,h2,hc,rfl,_⟩:=M.al h;simp only[Bool.and_eq_true,List.all_eq_true,Bool.not_eq_true']at hc;obtain⟨⟨⟨cK,dT⟩,fS⟩,mH⟩:=hc;have JF:∀{x:Nat} {l:List Nat},l.contains x=false->x∉l:=λh hm=>by rw[List.contains_iff_mem.2 hm]at h;cases h
 obtain⟨cs,k0,k1,k2,k3⟩:=XM hI hC h1;have mG:=sA h2;have cO:∀p∈R.ss,p.s∉mu.map (·.1):=λp hp hm=>JF (fS p.s hm) (List.mem_map_of_mem hp);refine⟨λk=>gx ps.length mu R.ss (L k),cs,k0,⟨hI.fr.os,hI.fr.tape,hI.fr.output,hI.fr.size,hI.fr.drawn,λk hk h0=>?_,λk hk=>by rw[hI.free k hk];rfl,λk k' s q e e'=>?_,λk s q e=>?_⟩,
  k3 _ _ (λk hk=>by rw[hk];rfl) (λk r q hr hk=>?_) (λp k i rest hp hk hi=>?_),p6 hI h2 hl (λj hj=>by rw[Nat.zero_add];exact hA j hj) _ (λk hk=>by rw[hk];rfl) (λk s j q hm hk=>?_)⟩
 ·have:=hI.fr.aR k hk h0;refine⟨?_,this.2⟩;rw[this.1];rcases h0 with h0|h0<;>rw[h0]<;>rfl
 ·obtain⟨s1,q1,e1,e2⟩:=BC e;obtain⟨s2,q2,e3,e4⟩:=BC e';have au:∀s j,(s,j)∈mu->j<ps.length:=λs j hs=>by
   obtain⟨_,⟨t,n,h,_⟩,_⟩:=mG s j hs;exact (List.getElem?_eq_some_iff.1 (by simpa using h)).1
  rcases e2 with⟨h1,rfl⟩|⟨p,y,rest,h1,rfl,h3,rfl,rfl⟩
  ·rcases e4 with⟨h2,rfl⟩|⟨p,y,rest,h2,rfl,h3,rfl,_⟩
   ·obtain rfl:=(mG s2 s h2).2.2 s1 h1;exact hI.inj k k' _ _ e1 e3
   ·exact absurd (au _ _ h1) (Nat.lt_irrefl _)
  ·rcases e4 with⟨h2,rfl⟩|⟨p',y',fc,h2,rfl,h4,_,h5⟩
   ·exact absurd (au _ _ h2) (Nat.lt_irrefl _)
   ·injection h5 with h5 h6;subst h6;have m1:=List.mem_of_find?_eq_some h1;have m2:=List.mem_of_find?_eq_some h2;have n1:p.s=s1:=by simpa using List.find?_some h1
    have n2:p'.s=s2:=by simpa using List.find?_some h2
    by_cases hs:s1=s2
    ·subst hs;rw[h1]at h2;injection h2 with h2;subst h2;have:y=y':=by omega
     subst this;exact hI.inj k k' _ _ e1 e3
    ·have:=k2 p p' m1 m2 (by rw[n1,n2];exact hs);omega
 ·obtain⟨s1,q1,e1,e2⟩:=BC e;rcases e2 with⟨h1,rfl⟩|⟨p,y,rest,h1,rfl,h3,rfl,rfl⟩
  ·obtain⟨_,⟨t,n,h,h'⟩,_⟩:=mG _ _ h1;exact .inr ⟨t,n,by simpa using h,h'⟩
  ·obtain⟨_,t,h2,h3,h4⟩:=k1 p (List.mem_of_find?_eq_some h1);exact .inl ⟨rfl,t,p.n,h2,.inl ⟨h3,h4⟩⟩
 ·rw[hk];have:=dT r hr;exact afY (JF this.2) (JF this.1)
 ·rw[hk,afZ cK (cO p hp) hp hi];exact⟨λh=>by rw[if_pos h],λh=>by rw[if_neg (by omega)]⟩
 ·rw[hk];unfold gx;dsimp only;rw[Tn mH hm]
theorem af0[ae](hI:Inv w0 L0 N vs T a w L){rs:List (Ty×Nat)}{sl:List RV}{r:(Ty.pair (cL rs) (cu ps)).den}{A0:List Value}(h:(BD ps rs sl).ai T r log)
  (hl:ps.length=A0.length) (hA:∀j,(∃t m,ps[j]?=some (t,m)/\m.back=true)->A0[j]?=some (a.tmps.getD j undef)) :
  ∃L' cs,qC P w a sl cs/\Left w0 w L0 L' ps rs/\jn w L' ps.length rs r.1 cs/\fC w L' 0 ps r.2 A0:=by
 unfold BD at h;split at h
 ·rename_i _ t n s;obtain⟨aC,rfl,h⟩:=h;have hb:=M.al (m:=rC s (T.getD s .dead)) h;clear h;obtain⟨⟨sb,z⟩,l3,l4,rfl,rU,h⟩:=hb;obtain⟨hv,fo⟩:=SA hI rU;obtain⟨k,t',y⟩:=z;dsimp only at h hv;have hs:=hI.aV sb;rw[hv]at hs;split at h
  ·rename_i ht;subst ht;split at h
   ·rename_i hk;obtain⟨⟨m,mu⟩,l1,l2,rfl,h2,cK,rfl,_⟩:=M.al h;have mG:=sA h2;have ahs:ca (((sb,ps.length)::mu).map (·.1))=true:=cK;have au:∀s j,(s,j)∈mu->j<ps.length:=λs j hs=>by
     obtain⟨_,⟨t,n,h,_⟩,_⟩:=mG s j hs;exact (List.getElem?_eq_some_iff.1 (by simpa using h)).1
    have ahR:∀s1 s2 j,(s1,j)∈(sb,ps.length)::mu->(s2,j)∈(sb,ps.length)::mu->s1=s2:=by
     intro s1 s2 j h1 h2;rcases List.mem_cons.1 h1 with h1|h1
     ·injection h1 with e1 e2;rcases List.mem_cons.1 h2 with h2|h2
      ·injection h2 with e3 e4;rw[e1,e3]
      ·exact absurd (au _ _ h2) (by omega)
     ·rcases List.mem_cons.1 h2 with h2|h2
      ·injection h2 with e3 e4;exact absurd (au _ _ h1) (by omega)
      ·exact (mG s2 j h2).2.2 s1 h1
    have br:∀{l:aj} {s':Nat} {q':List Nat},gx ps.length ((sb,ps.length)::mu) [] l = .own s' q'->∃s1,l = .own s1 q'/\(s1,s')∈(sb,ps.length)::mu:=by
     intro l s' q' e;obtain⟨s1,q1,e1,e2⟩:=BC e;rcases e2 with⟨h1,rfl⟩|⟨p,y,rest,h1,_⟩
     ·exact⟨s1,e1,h1⟩
     ·simp at h1
    have IJ:∀{s1 j:Nat} {q:List Nat},(s1,j)∈(sb,ps.length)::mu->gx ps.length ((sb,ps.length)::mu) [] (.own s1 q) = .own j q:=by
     intro s1 j q hm;unfold gx;dsimp only;rw[Tn ahs hm]
    obtain⟨_,g,cur,e,hf,hL,hg,hz,ho⟩:=hs;rw[<-fo]at hf;refine⟨λk=>gx ps.length ((sb,ps.length)::mu) [] (L k),[a.tmps.getD s undef],⟨_,[],rfl,rfl,rfl⟩,⟨hI.fr.os,hI.fr.tape,hI.fr.output,hI.fr.size,hI.fr.drawn,λk hk h0=>?_,λk hk=>by rw[hI.free k hk];rfl,λk k' s1 q e e'=>?_,λk s1 q e=>?_⟩,
     .inr ⟨by omega,_,rfl,g,cur,e,hf,by show gx _ _ _ (L g)=_;rw[hL];exact IJ (by simp),hg,hz,?_⟩,p6 hI h2 hl (λj hj=>by rw[Nat.zero_add];exact hA j hj) _ (λk hk=>by rw[hk];rfl) (λk s1 j q hm hk=>by rw[hk];exact IJ (List.mem_cons_of_mem _ hm))⟩
    ·have:=hI.fr.aR k hk h0;refine⟨?_,this.2⟩;rw[this.1];rcases h0 with h0|h0<;>rw[h0]<;>rfl
    ·obtain⟨a1,e1,e2⟩:=br e;obtain⟨a2,e3,e4⟩:=br e';obtain rfl:=ahR _ _ _ e2 e4;exact hI.inj k k' _ _ e1 e3
    ·obtain⟨a1,e1,e2⟩:=br e;rcases List.mem_cons.1 e2 with e2|e2
     ·injection e2 with _ e2;exact .inl ⟨e2,t',n,by simp,.inr (by omega)⟩
     ·obtain⟨_,⟨t,n,h,h'⟩,_⟩:=mG _ _ e2;exact .inr ⟨t,n,by simpa using h,h'⟩
    ·have hkn:n - 1000=k:=by omega
     rw[hkn];refine Own.move (λk hk=>⟨?_,rfl⟩) (λk d rest _ hk=>⟨by show gx _ _ _ (L k)=_;rw[hk];exact IJ (by simp),rfl⟩) ho;show gx _ _ _ (L k)=_;rcases hk with hk|⟨_,_,hk,_⟩
     ·rw[hk];rfl
     ·cases hk
   ·exact h.elim
  ·exact h.elim
 ·exact h.elim
theorem XV{fn:Func}{sl:List RV}{cs:List Value}(hr:fn.results.toList=sl.map RV.var)(hf:qC P w a sl cs):(results fn a.tmps).run P w = .ok (oq cs) w:=by
 have hm:∀g:ResultVar->Sem Value,(∀t,g (.tmp t)=pure (a.tmps.getD t undef))->(∀s X,g (.cell s X)=(do loadVar X (<-asAddr (a.tmps.getD s undef))))->(fn.results.mapM g).run P w = .ok cs.toArray w:=by
  intro g n4 Ij;rw[Array.mapM_eq_mapM_toList,hr];have:∀(sl:List RV) (cs:List Value),qC P w a sl cs->((sl.map RV.var).mapM g).run P w = .ok cs w:=by
   intro sl;induction sl with
   | nil=>intro cs h;obtain rfl:cs=[]:=h;simp
   | cons s sl ih =>
    intro cs h;obtain⟨c,bf,rfl,h1,h2⟩:=h;have aM:(g s.var).run P w = .ok c w:=by
     cases s with
     | tmp t =>
      obtain rfl:c=_:=h1;show (g (.tmp t)).run P w=_;rw[n4];rfl
     | cell t X =>
      obtain⟨A,h3,h4⟩:=h1;show (g (.cell t X)).run P w=_;rw[Ij,h3];simp[asAddr,h4]
    simp only[List.map_cons,List.mapM_cons,Sem.run_bind,aM,Result.andThen_ok,ih bf h2,Sem.run_pure]
  have h2:=this sl cs hf;simp only[Sem.run_map,h2,Result.andThen_ok]
 unfold results;rw[Sem.run_bind,hm _ (λt=>rfl) (λs X=>rfl),Result.andThen_ok,Sem.run_pure]
 match cs with
 | []=>rfl
 | [s]=>rfl
 | s::s'::l=>rfl
theorem aj8[ae]{bd:dp}{aR:Nat->Option Nat}{hx:Hints}{rs:List (Ty×Nat)}{sl:List RV}{c:Code}{f:FuncId}{fn:Func}(ln:P.follows .mixedOrders=true)(hC:bA P C)(dN:fO P bd)
  (hf : P.funcs[f]? = some fn) (fT : (fn.name == "runtime.NumGoroutine") = false) (hb : fn.body = some c) (hN : fn.ntmps = N) (hr : fn.results.toList = sl.map RV.var) (lx : ps.length <= N) :
  aq P f (W2 C bd vs N aR hx ps rs sl c):=by
 refine⟨⟨fn,hf,fT,by rw[hb];rfl⟩,λx r eK w L0 args hl ha=>?_⟩;change jm w L0 ps at hl;change dH w L0 0 ps x args.toList at ha;have hlen:args.size=ps.length:=by have:=ha.len;rw[<-this];simp
 refine calls_of_wp hf hb ?_;rw[hN];have a6:rf P w L0 vs (vU C bd vs N aR hx ps):=alC ln hC dN rfl;let A0:Array Value:=args++Array.replicate (N - args.size) undef;have hJ:J w L0 vs (vU C bd vs N aR hx ps) A0 (aU N ps x) { tmps:=args++Array.replicate (N - args.size) undef,defers:=[] } w:=⟨⟨L0,alB hl ha lx vs⟩,λ_ _=>rfl⟩;refine wp_mono (o6 (A0:=A0) a6 eK _ _ hJ) ?_
 rintro e a' w' ⟨ex,T',rfl,hk,⟨L,hI⟩,r7⟩
 have UT:∀j,(∃t m,ps[j]?=some (t,m)/\m.back=true)->args.toList[j]?=some (a'.tmps.getD j undef):=λj hj=>by
  have hm:(vU C bd vs N aR hx ps).pins j=true:=by
   show (iW 0 ps).contains j=true;rw[List.contains_iff_mem];exact Xc.2 ⟨Nat.zero_le _,by simpa using hj⟩
  obtain⟨t,n,hj,_⟩:=hj;have au:j<args.size:=by rw[hlen];exact (List.getElem?_eq_some_iff.1 hj).1
  rw[r7 j hm];show _=some ((args++Array.replicate (N - args.size) undef).getD j undef);rw[Array.getD_eq_getD_getElem?,Array.getElem?_append_left au];simp[au]
 have u4:∀{log:List Nat},(bif vP rs then HL C ps rs sl else BD ps rs sl).ai T' r log->a'.defers=[]/\∃v,(results fn a'.tmps).run P w' = .ok v w'/\∃cs L',Ending.returned v = .returned (oq cs)/\Left w w' L0 L' ps rs/\jn w' L' ps.length rs r.1 cs/\fC w' L' 0 ps r.2 args.toList:=by
  intro log aM;cases vf:vP rs with
  | true =>
   rw[vf]at aM;obtain⟨L',cs,h0,h1,h2,h3⟩:=af1 hI hC aM (A0:=args.toList) (by simpa using hlen.symm) UT;exact⟨hI.dB,_,XV hr h0,_,L',rfl,h1,(jn.low vf).2 h2,h3⟩
  | false =>
   rw[vf]at aM;obtain⟨L',cs,h0,h1,h2,h3⟩:=af0 hI aM (A0:=args.toList) (by simpa using hlen.symm) UT;exact⟨hI.dB,_,XV hr h0,_,L',rfl,h1,h2,h3⟩
 cases ex with
 | ext i=>cases hk
 | bI =>
  obtain⟨r',log,h1,h2⟩:=M.kG hk;injection h2 with h2;subst h2;exact u4 h1
 | ret =>
  obtain⟨r',log,h1,h2⟩:=M.kG hk;injection h2 with h2;subst h2;exact u4 h1
end
end Go.Proofs.YthfgcmoipebheaaGreat.P.Am
