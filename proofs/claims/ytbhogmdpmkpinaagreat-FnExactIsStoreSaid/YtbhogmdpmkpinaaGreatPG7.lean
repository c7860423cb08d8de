/- A part of the proof: Am61,Am62,Am63,Am64,Am30,Am31. No conditions. -/
import Derived.Test.YtbhogmdpmkpinaaGreatPG6
import Derived.Test.YtbhogmdpmkpinaaGreatPG5
set_option linter.unusedVariables false
set_option linter.unusedSimpArgs false
namespace Go.Proofs.YtbhogmdpmkpinaaGreat.P.Am
variable{log:List Nat}{ups:List (Nat×V)}{d n:Nat}{o:Oper}{m:M (List (Nat×V))}{t:Ty}{X:TypeId}{ps:List (Ty×Mode)}{args:Array Operand}{cJ:Array TypeId}{mu:List (Nat×Nat)}
def tO(N:Nat):List Nat->M (List (Nat×V))->M (List (Nat×V))
 | [],m=>m
 | s::l,m=>.get s λv=>match v with
  | .box none n t x =>
   if s<N then
    iI true s s [] (((tO N l m).eY [(s,.rp none t x)]).bind λups=>.ret ((s,.rp none t x)::ups))
   else tO N l m
  | _=>tO N l m
def xM(N t:Nat)(m:M (List (Nat×V))):M (List (Nat×V)):=
 .get t λv=>match v with
  | .d none 0 (.cap none te) x=>cond (decide (t<N)) (.cM te x λy=>(m.eY [(t,.rp none te y)]).bind λups=>.ret ((t,.rp none te y)::ups)) m
  | _=>m
def vU:List Operand->M ((t:Ty)×t.den)
 | []=>.ret ⟨.unit,()⟩
 | .tmp s::l=>.get s λv=>match v with
  | .rp none t x=>(vU l).bind λr=>.ret ⟨.pair (.cap none t) r.1,(some x,r.2)⟩
  | _=>.fail
 | .const (.pointer none)::l=>(vU l).bind λr=>.ret ⟨.pair (.cap none .unit) r.1,((none:Option Unit),r.2)⟩
 | _=>.fail
def Wm(d:Nat)(g:FuncId)(hZ:List Operand):M (List (Nat×V)):=
 .bn (!(g==kE)) ((vU hZ).bind λz=>.ret [(d,.d none 0 (.cap (some g) z.1) (some z.2))])
def gN:(ps:List (Ty×Mode))->(T:Ty)->T.den->Option (dj ps).den
 | [],.unit,_=>some ()
 | (t,.ro)::ps,.pair (.cap k t') r,y=>if h:Ty.cap k t'=t then (gN ps r y.2).map λz=>(h▸y.1,z)else none
 | _,_,_=>none
def vO(C:Ctx):(ps:List (Ty×Mode))->List Operand->(T:Ty)->T.den->M (lQ ps)
 | ps,[],T,y=>match gN ps T y with
  | some x=>.ret ⟨x,[],[]⟩
  | none=>.fail
 | (t,.ro)::ps,x::xs,T,y=>(pQ C t x).bind λu=>(vO C ps xs T y).bind λr=>.ret ⟨(u.1,r.x),u.2++r.ls,r.mu⟩
 | _,_,_,_=>.fail
def Jb(C:Ctx)(bj:cX)(vs:List Nat)(d s:Nat)(args:List Operand):M (List (Nat×V)):=
 .get s λv=>match v with
  | .d none 0 (.cap (some g) T) y=>.cM T y λy=>match bj g with
   | none=>.fail
   | some F=>(vO C F.ps args T y).bind λA=>.cM (.pair (cV F.rs) (cI F.ps)) (F.an A.x) λr=>match mO vs A.ls F.rs r.1 with
    | some v=>.ret [(d,v)]
    | none=>.fail
  | _=>.fail
section
variable{P:Program}{C:Ctx}{w w' w0:World}{L L' L0:Nat->aj}{s N:Nat}{vs:List Nat}{T T':List V}{a:Act}
theorem Ld{T:List V}{s:Nat}{u:V}(bd:s<T.length)(z:Nat):(T.set s u).getD z .dead=(eO [(s,u)] z).getD (T.getD z .dead):=by
 simp only[eO];rw[aH];by_cases h1:z=s
 ·subst h1;simp[bd]
 ·have e1:(s==z)=false:=by simpa using Ne.symm h1
  rw[e1];simp[h1]
theorem Inv.apX[af](hI:Inv w0 L0 N vs T a w L){s:Nat}{x:t.den}(hs:s<N)(hv:T.getD s .dead = .box none n t x)(ag:∀z,(T.getD z .dead).on s=false):
  ∃L',Inv w0 L0 N vs (T.set s (.rp none t x)) a w L':=by
 have bd:s<T.length:=by rw[hI.len];exact hs
 have kf:fL (λz q=>cond (z==s) aj.au (.own z q)) (λz=>z=s):=by
  refine⟨λz q hX=>?_,λz q z' q' hX h=>?_,λz q z2 q2 z' q' h1 h2=>?_,λz q=>?_⟩
  ·have:(z==s)=false:=by simpa using hX
   rw[this];rfl
  ·have:(z==s)=true:=by simpa using hX
   rw[this]at h;cases h
  ·cases h3:z==s with
   | true=>rw[h3]at h1;cases h1
   | false =>
    cases h4:z2==s with
    | true=>rw[h4]at h2;cases h2
    | false =>
     rw[h3]at h1;rw[h4]at h2;simp only[cond_false]at h1 h2;rw[<-h2]at h1;injection h1 with e1 e2;exact⟨e1,e2⟩
  ·cases z==s<;>simp
 refine⟨aU (λz q=>cond (z==s) aj.au (.own z q)) w L (λ_=>.free),Inv.gY hI kf (Wd.refl hI _) (λ_ _ _ _ _ h=>by cases h) hI.size (by simp[hI.len]) hI.dR ?_ ?_ ?_ ?_ ?_⟩
 ·intro k s' q bN h;subst bN;unfold aU at h;split at h
  ·obtain⟨s0,q0,e0,f0⟩:=eZ h;cases h3:s0==s' with
   | true=>rw[h3]at f0;cases f0
   | false =>
    rw[h3]at f0;simp only[cond_false]at f0;injection f0 with f0 _;rw[f0]at h3;simp at h3
  ·cases h
 ·intro z r hz ho hr;subst hr;rw[ag z]at ho;cases ho
 ·intro z hz;rw[aH,if_neg (λh=>hz h.1)];exact⟨rfl,rfl⟩
 ·intro z r hz ho;subst hz;rw[aH,if_pos ⟨rfl,bd⟩]at ho;simp[V.on,V.root]at ho
 ·intro z hz;subst hz;rw[aH,if_pos ⟨rfl,bd⟩];have w6:=hI.aY z;rw[hv]at w6;obtain⟨_,g,cur,e,h2,h3,h4,h5,h6⟩:=w6;have ba:∀k q,L k = .own z q->aU (λz' q=>cond (z'==z) aj.au (.own z' q)) w L (λ_=>.free) k = .au:=by
   intro k q hk;rw[c8 hI (by rw[hk];simp),hk];show cond _ _ _=_;rw[beq_self_eq_true];rfl
  refine⟨by simp,g,0,cur.toList,h2,.inl (ba g [] h3),?_,λi v hv=>?_⟩
  ·refine Own.eQ (Own.fp (L':=aU (λz' q=>cond (z'==z) aj.au (.own z' q)) w L (λ_=>.free)) (s':=z) (q2:=[]) (o2:=0) (Nat.zero_le _) (λk hk=>?_) (λk d rest _ hk=>⟨rfl,λh=>absurd h (Nat.not_lt_zero _),λ_=>.inl (ba k _ hk)⟩) h6);rcases hk with hk|⟨_,_,hk,_⟩
   ·exact⟨.inl (eD hI hk),rfl⟩
   ·cases hk
  ·rw[Nat.zero_add,Jk h4];simpa using hv
theorem DU[af]:{l:List Nat}->{T:List V}->{L:Nat->aj}->{ups:List (Nat×V)}->{log:List Nat}->Inv w0 L0 N vs T a w L->(tO N l m).ai T ups log ->
  ∃T1 L1 bH log2,Inv w0 L0 N vs T1 a w L1/\m.ai T1 bH log2/\ah T ups=ah T1 bH
 | [],T,L,ups,log,hI,h=>⟨T,L,ups,log,hI,h,rfl⟩
 | s::l,T,L,ups,log,hI,h=>by
  simp only[tO]at h;obtain⟨aG,rfl,h⟩:=h;dsimp only at h;split at h
  ·rename_i n t x hv;split at h
   ·rename_i b9;obtain⟨cQ,log2,h⟩:=jV h;obtain⟨bH,l3,l4,rfl,h1,h2⟩:=M.aq h;obtain⟨rfl,_⟩:=h2;have bd:s<T.length:=by rw[hI.len];exact b9
    obtain⟨fQ,h1⟩:=pk (T':=T.set s (.rp none t x)) (by simp) (λz hz=>by
     simp only[List.map_cons,List.map_nil,List.mem_cons,List.not_mem_nil,or_false]at hz;rw[hz];exact bd) (Ld bd) _ h1
    obtain⟨L1,bw⟩:=Inv.apX hI b9 hv (λz=>by
      by_cases hz:z=s
      ·subst hz;rw[hv];rfl
      ·simpa using cQ z hz)
    obtain⟨T1,L2,jJ,jC,k1,k2,k3⟩:=DU bw h1;exact⟨T1,L2,jJ,jC,k1,k2,k3⟩
   ·exact DU hI h
  ·exact DU hI h
theorem L3[af]{t:Nat}(hI:Inv w0 L0 N vs T a w L)(h:(xM N t m).ai T ups log):
  ∃T1 L1 bH log2,Inv w0 L0 N vs T1 a w L1/\m.ai T1 bH log2/\ah T ups=ah T1 bH:=by
 unfold xM at h;obtain⟨aG,rfl,h⟩:=h;dsimp only at h;split at h
 ·rename_i te x hv;cases hc:decide (t<N)with
  | false=>rw[hc]at h;exact⟨T,L,ups,_,hI,h,rfl⟩
  | true =>
   rw[hc,cond_true]at h;obtain⟨y,hy,h⟩:=h;obtain⟨bH,l3,l4,rfl,h1,h2⟩:=M.aq h;clear h;obtain⟨rfl,_⟩:=h2;have htN:=of_decide_eq_true hc;have bd:t<T.length:=by rw[hI.len];exact htN
   obtain⟨fQ,h1⟩:=pk (T':=T.set t (.rp none te y)) (by simp) (λz hz=>by
     simp only[List.map_cons,List.map_nil,List.mem_cons,List.not_mem_nil,or_false]at hz;rw[hz];exact bd) (Ld bd) _ h1
   have kf:fL (λz q=>aj.own z q) (λz=>z=t):=by
    refine⟨λz q _=>rfl,λz q z' q' hX h=>?_,λz q z2 q2 z' q' h1 h2=>?_,λz q=>?_⟩
    ·injection h with h _;rw[<-h];exact hX
    ·rw[<-h2]at h1;injection h1 with e1 e2;exact⟨e1,e2⟩
    ·simp
   have cB:∀z,(T.getD z .dead).on t=true->(T.getD t .dead).aM=false:=λz _=>by rw[hv];rfl
   refine⟨T.set t (.rp none te y),aU (λz q=>aj.own z q) w L (λ_=>.free),bH,fQ,Inv.gY hI kf (Wd.refl hI _) (λ_ _ _ _ _ h=>by cases h) hI.size (by simp[hI.len]) hI.dR ?_ ?_ ?_ ?_ ?_,h1,rfl⟩
   ·intro k s' q bN h;subst bN;unfold aU at h;split at h
    ·obtain⟨s0,q0,e0,f0⟩:=eZ h;injection f0 with f0 _;have:=hI.owner k _ _ e0;rw[f0,hv]at this;cases this
    ·cases h
   ·intro z r _ ho hr;subst hr;exact cB z ho
   ·intro z hz;rw[aH,if_neg (λh=>hz h.1)];exact⟨rfl,rfl⟩
   ·intro z r hz ho;subst hz;rw[aH,if_pos ⟨rfl,bd⟩]at ho;simp[V.on,V.root]at ho
   ·intro z hz;subst hz;rw[aH,if_pos ⟨rfl,bd⟩];have w6:=hI.aY z;rw[hv]at w6;obtain⟨_,cs,hf,ho⟩:=w6;have hr:=Own.eQ ho;rw[hy]at hr;simp only[Rd]at hr;have dh:cs=[a.tmps.getD z undef]:=hf;rcases hr with⟨h,_⟩|⟨y',es,e1,e2,g,o,e3,e4,e5⟩
    ·cases h
    ·injection e1 with e1;subst e1;rw[dh]at e3;have e3:=(List.cons.inj e3).1;have hm:∀k,SL L none k->SL (aU (λz q=>aj.own z q) w L (λ_=>.free)) none k/\w.heap[k]?=w.heap[k]?:=by
      rintro k (hk|⟨_,_,hk,_⟩)
      ·exact⟨.inl (eD hI hk),rfl⟩
      ·cases hk
     exact⟨by simp,g,o,es,e3,(hm g e4).1,Rd.move hm e2,e5⟩
 ·exact⟨T,L,ups,_,hI,h,rfl⟩
theorem Jj[af](hI:Inv w0 L0 N vs T a w L):{l:List Operand}->{z:(t:Ty)×t.den}->{log:List Nat}->(vU l).ai T z log->Rd w (SL L none) z.1 z.2 (l.map a.eval)
 | [],z,log,h=>by
  obtain⟨rfl,_⟩:=h
  first|rfl|simp[Rd]
 | x::l,z,log,h=>by
  unfold vU at h;split at h
  ·rename_i he;cases he
  ·rename_i s l' he;injection he with e1 e2;subst e1 e2;obtain⟨aG,rfl,h⟩:=h;dsimp only at h;split at h
   ·rename_i t x hv;obtain⟨r,l1,l2,rfl,h1,h2⟩:=M.aq h;obtain⟨rfl,_⟩:=h2;have hs:=hI.aY s;rw[hv]at hs;obtain⟨_,g,o,cs,e1,e2,e3,e4⟩:=hs;have ih:=Jj hI h1;simp only[Rd];refine⟨[a.eval (.tmp s)],l.map a.eval,rfl,.inr ⟨x,cs,rfl,e3,g,o,?_,e2,e4⟩,ih⟩;show [a.tmps.getD s undef]=_;rw[e1]
   ·exact h.elim
  ·rename_i l' he;injection he with e1 e2;subst e1 e2;obtain⟨r,l1,l2,rfl,h1,h2⟩:=M.aq h;obtain⟨rfl,_⟩:=h2;have ih:=Jj hI h1;simp only[Rd];refine⟨[.pointer none],l.map a.eval,rfl,?_,ih⟩
   first|exact .inl ⟨rfl,rfl⟩|simp[sC]
  ·exact h.elim
theorem arc[af](hI:Inv w0 L0 N vs T a w L){g:FuncId}{hZ:Array Operand}   
  (ho:o.op = .makeFunc (.func g) #[] hZ) (aB:o.dst=some d) (hd:d<N) (hid:(T.getD d .dead).idle=true)
  (h:(Wm d g hZ.toList).ai T ups log):Step P o w0 L0 N vs (ah T ups) a w:=by
 obtain⟨hg,h⟩:=h;obtain⟨z,l1,l2,rfl,h1,h2⟩:=M.aq h;obtain⟨rfl,_⟩:=h2;have hr:=Jj hI h1;have cm:aL P o vs T a w L d (.d none 0 (.cap (some g) z.1) (some z.2)):=by
  refine aL.still hI (c:=.func (.func g) #[] (hZ.map a.eval)) ?_ (λr=>rfl) ?_
  ·simp[execOp,ho,Instr.makeFunc]
  ·refine⟨by simp,[.func (.func g) #[] (hZ.map a.eval)],rfl,?_⟩;simp only[Own,Rd];refine .inr ⟨z.2,hZ.toList.map a.eval,rfl,hr,by simpa using hg,?_⟩;show [_]=[_];congr 2;apply Array.ext';simp
 intro K Q hK;exact aL.inv hI hd hid aB cm hK
theorem Wf{S:Nat->Prop}{L1:Nat->aj}(hS:∀k,S k->L1 k = .au):{ps:List (Ty×Mode)}->{t:Ty}->{y:t.den}->{x:(dj ps).den}->{i:Nat}->{es:List Value}->gN ps t y=some x->Rd w S t y es->dX w L1 i ps x es
 | [],.unit,y,x,i,es,h,hr=>by
  simp only[Rd]at hr;subst hr;rfl
 | (t,.ro)::ps,.pair (.cap k t') r,y,x,i,es,h,hr=>by
  simp only[gN]at h;split at h
  ·rename_i ht;subst ht;obtain⟨z,hz,h⟩:∃z,gN ps r y.2=some z/\(y.1,z)=x:=by
    cases hc:gN ps r y.2 with
    | none=>rw[hc]at h;cases h
    | some z=>rw[hc]at h;injection h with h;exact⟨z,rfl,h⟩
   subst h;simp only[Rd]at hr;obtain⟨c0,c1,rfl,h0,h1⟩:=hr;have Xr:Rd w S (.cap k t') y.1 c0:=by simp only[Rd];exact h0
   have hl:=Rd.len Xr
   match c0,hl with
   | [c],_ =>
    refine⟨c,c1,[c],rfl,rfl,?_,Wf hS hz h1⟩;exact Own.dP (Rd.move (λk hk=>⟨hS k hk,rfl⟩) Xr)
  ·cases h
 | [],.int _,_,_,_,_,h,_|[],.bool,_,_,_,_,h,_|[],.str,_,_,_,_,h,_|[],.raw _,_,_,_,_,h,_|[],.pair _ _,_,_,_,_,h,_|[],.agg _,_,_,_,_,h,_|[],.slice _ _,_,_,_,_,h,_|[],.cap _ _,_,_,_,_,h,_=>by simp[gN]at h
 | (_,.mut _)::_,_,_,_,_,_,h,_|(_,.ptr _)::_,_,_,_,_,_,h,_|(_,.bV _)::_,_,_,_,_,_,h,_=>by simp[gN]at h
 | (_,.ro)::_,.int _,_,_,_,_,h,_|(_,.ro)::_,.bool,_,_,_,_,h,_|(_,.ro)::_,.str,_,_,_,_,h,_|(_,.ro)::_,.raw _,_,_,_,_,h,_|(_,.ro)::_,.unit,_,_,_,_,h,_|(_,.ro)::_,.agg _,_,_,_,_,h,_|(_,.ro)::_,.slice _ _,_,_,_,_,h,_|(_,.ro)::_,.cap _ _,_,_,_,_,h,_=>by simp[gN]at h
 | (_,.ro)::_,.pair (.int _) _,_,_,_,_,h,_|(_,.ro)::_,.pair .bool _,_,_,_,_,h,_|(_,.ro)::_,.pair .str _,_,_,_,_,h,_|(_,.ro)::_,.pair (.raw _) _,_,_,_,_,h,_|(_,.ro)::_,.pair .unit _,_,_,_,_,h,_|(_,.ro)::_,.pair (.agg _) _,_,_,_,_,h,_|(_,.ro)::_,.pair (.slice _ _) _,_,_,_,_,h,_|(_,.ro)::_,.pair (.pair _ _) _,_,_,_,_,h,_=>by simp[gN]at h
theorem Wg:{ps:List (Ty×Mode)}->{t:Ty}->{y:t.den}->{x:(dj ps).den}->gN ps t y=some x->∀(j:Nat) (u:Ty) (m:Mode),ps[j]?=some (u,m)->m = .ro
 | [],_,_,_,_,j,u,m,hj=>by simp at hj
 | (t,.ro)::ps,.pair (.cap k t') r,y,x,h,j,u,m,hj=>by
  cases j with
  | zero=>simp at hj;exact hj.2.symm
  | succ j =>
   simp only[gN]at h;split at h
   ·cases hc:gN ps r y.2 with
    | none=>rw[hc]at h;cases h
    | some z=>exact Wg hc j u m (by simpa using hj)
   ·cases h
 | (_,.mut _)::_,_,_,_,h,_,_,_,_|(_,.ptr _)::_,_,_,_,h,_,_,_,_|(_,.bV _)::_,_,_,_,h,_,_,_,_=>by simp[gN]at h
 | (_,.ro)::_,.int _,_,_,h,_,_,_,_|(_,.ro)::_,.bool,_,_,h,_,_,_,_|(_,.ro)::_,.str,_,_,h,_,_,_,_|(_,.ro)::_,.raw _,_,_,h,_,_,_,_|(_,.ro)::_,.unit,_,_,h,_,_,_,_|(_,.ro)::_,.agg _,_,_,h,_,_,_,_|(_,.ro)::_,.slice _ _,_,_,h,_,_,_,_|(_,.ro)::_,.cap _ _,_,_,h,_,_,_,_=>by simp[gN]at h
 | (_,.ro)::_,.pair (.int _) _,_,_,h,_,_,_,_|(_,.ro)::_,.pair .bool _,_,_,h,_,_,_,_|(_,.ro)::_,.pair .str _,_,_,h,_,_,_,_|(_,.ro)::_,.pair (.raw _) _,_,_,h,_,_,_,_|(_,.ro)::_,.pair .unit _,_,_,h,_,_,_,_|(_,.ro)::_,.pair (.agg _) _,_,_,h,_,_,_,_|(_,.ro)::_,.pair (.slice _ _) _,_,_,h,_,_,_,_|(_,.ro)::_,.pair (.pair _ _) _,_,_,h,_,_,_,_=>by simp[gN]at h
theorem VU[af](hI:Inv w0 L0 N vs T a w L){y:t.den}{es:List Value}(hy:Rd w (SL L none) t y es):{ps:List (Ty×Mode)}->{xs:List Operand}->{A:lQ ps}->{log:List Nat}->(i:Nat)->(vO C ps xs t y).ai T A log ->
  (∀r∈A.ls,(T.getD r .dead).deep=true)/\(∀(j:Nat) (u:Ty) (m:Mode),ps[j]?=some (u,m)->m = .ro) /\
  ∀L1:Nat->aj,(∀k,L k = .au->L1 k = .au)->(∀k r q,r∈A.ls->L k = .own r q->L1 k = .au)->dX w L1 i ps A.x (xs.map a.eval++es)
 | ps,[],A,log,i,h=>by
  unfold vO at h;split at h
  ·rename_i x hx;obtain⟨rfl,_⟩:=h;refine⟨by simp,Wg hx,λL1 H1 _=>?_⟩;exact Wf (λk hk=>by
    rcases hk with hk|⟨_,_,hk,_⟩
    ·exact H1 k hk
    ·cases hk) hx hy
  ·exact h.elim
 | (u,.ro)::ps,x::xs,A,log,i,h=>by
  simp only[vO]at h;obtain⟨⟨z,ls⟩,l1,l2,rfl,h1,h⟩:=M.aq h;obtain⟨A',l3,l4,rfl,h2,h⟩:=M.aq h;obtain⟨rfl,_⟩:=h;obtain⟨cells,k1,k2,k3⟩:=vN hI h1;obtain⟨j1,j2,j3⟩:=VU hI hy (i+1) h2;refine⟨λr hr=>?_,λj u' m hj=>?_,λL1 H1 H2=>?_⟩
  ·rcases List.mem_append.1 hr with hr|hr
   ·exact k2 r hr
   ·exact j1 r hr
  ·cases j with
   | zero=>simp at hj;exact hj.2.symm
   | succ j=>exact j2 j u' m (by simpa using hj)
  ·exact⟨a.eval x,_,cells,rfl,k1,Own.dP (k3 _ H1 (λk r q hr hk=>H2 k r q (List.mem_append_left _ hr) hk)),j3 L1 H1 (λk r q hr hk=>H2 k r q (List.mem_append_right _ hr) hk)⟩
 | [],_::_,_,_,_,h=>h.elim
 | (_,.mut _)::_,_::_,_,_,_,h=>h.elim
 | (_,.ptr _)::_,_::_,_,_,_,h=>h.elim
 | (_,.bV _)::_,_::_,_,_,_,h=>h.elim
theorem aqx{s:Nat}{f:FuncId}{fn:Func}{hZ:Array Value}(Kk:o.op = .call { callee:=.value (.tmp s),args,argTypes:=cJ })
  (hs : a.tmps.getD s undef = .func (.func f) #[] hZ) (hf : P.funcs[f]? = some fn) (gq : (fn.name == "runtime.NumGoroutine") = false) (hb : fn.body.isNone = false) : (execOp a.eval o).run P w = .ok (.enter f (args.map a.eval ++ hZ)) w := by
 have h1 : ¬ fn.name = "runtime.NumGoroutine" := by simpa using gq
 have h2:¬fn.body=none:=by cases hx:fn.body<;>simp_all
 have h3:a.eval (.tmp s) = .func (.func f) #[] hZ:=hs;unfold execOp;simp[Kk,resolve,Deferred.ofValue,invoke,callFunc,hf,h1,h2,h3]
theorem aq5[af](hI:Inv w0 L0 N vs T a w L){bj:cX}(ej:fC P bj){s:Nat}{d:Nat}  
  (ho:o.op = .call { callee:=.value (.tmp s),args,argTypes:=cJ }) (aB:o.dst=some d) (hd:d<N) (hid:(T.getD d .dead).idle=true)
  (h:(Jb C bj vs d s args.toList).ai T ups log):Step P o w0 L0 N vs (ah T ups) a w:=by
 unfold Jb at h;obtain⟨aG,rfl,h⟩:=h;dsimp only at h;split at h
 ·rename_i g t y0 hv;obtain⟨y,hy,h⟩:=h;split at h
  ·exact h.elim
  ·rename_i F hF;obtain⟨⟨fn,iR,gq,nG⟩,aC⟩:=ej g F hF;have hb:=M.aq h;clear h;obtain⟨A,l1,l2,rfl,h1,h⟩:=hb;have hs:=hI.aY s;rw[hv]at hs;obtain⟨_,cs,hf,bQ⟩:=hs;have bC:=Own.eQ bQ;rw[hy]at bC;simp only[Rd]at bC;have dh:cs=[a.tmps.getD s undef]:=hf;rcases bC with⟨h0,_⟩|⟨y',es,e1,e2,e3⟩
   ·cases h0
   injection e1 with e1;subst e1;have e3:cs=[.func (.func g) #[] es.toArray]:=e3.2;rw[dh]at e3;have e3:=(List.cons.inj e3).1;obtain⟨eB,w5,il⟩:=VU hI e2 0 h1;have aP:=aqx (P:=P) (a:=a) (w:=w) ho e3 iR gq nG;have mj:∀r∈A.ls,r≠d:=λr hr=>di hid (V.fq (eB r hr));obtain⟨r,fj,h⟩:=h;dsimp only at h;split at h
   ·rename_i v cS;obtain⟨rfl,_⟩:=h;intro K Q hK;unfold Oper.wp;rw[aP,Oper.upon_enter];have nN:jQ w (λk=>cO none A.ls (L k)) F.ps:=by
     refine⟨λk hk=>by rw[hI.free k hk];rfl,λk k' s q h h'=>?_,λk s q h=>?_,af.aT hI.fr.ij λk hk h0=>⟨?_,(hI.fr.aT k hk h0).2⟩⟩
     ·obtain⟨r1,e1,e2⟩:=lK h;cases e1
     ·obtain⟨r1,e1,e2⟩:=lK h;cases e1
     ·rw[(hI.fr.aT k hk h0).1];rcases h0 with h0|h0<;>rw[h0]<;>simp[cO]
    have dM:=il (λk=>cO none A.ls (L k)) (λk hk=>by rw[hk];rfl) (λk r q hr hk=>by
     rw[hk];unfold cO;dsimp only;rw[if_pos (by simpa using hr)])
    refine Calls.mono (aC A.x r fj w _ (args.map a.eval++es.toArray) nN (by simpa using dM)) ?_
    rintro e w' ⟨bl,L',rfl,bc,cm,km⟩
    dsimp only;rw[aB];refine hK _ _ (dJ none F.ps.length d L L') ?_;have nR:∀(j:Nat) (t:Ty) (m:Mode),F.ps[j]?=some (t,m)->m.back=true->False:=by
     intro j t m hj hm;rw[w5 j t m hj]at hm;cases hm
    have bU:(ah T [(d,v)]).getD d .dead=v:=by
     show (T.set d v).getD d .dead=v;rw[aH,if_pos ⟨rfl,by rw[hI.len];exact hd⟩]
    have br:∀s,s≠d->(ah T [(d,v)]).getD s .dead=T.getD s .dead:=by
     intro s hs;show (T.set d v).getD s .dead=_;rw[aH,if_neg (λe=>hs e.1)]
    obtain⟨k1,k2,k3⟩:=xJ (T':=ah T [(d,v)]) (d:=d) hI bc rfl (λr hr=>by rw[br r (mj r hr)];exact eB r hr) cm cS;exact Inv.called hI hd hid rfl (λr i h=>by cases h) bc (by rw[cH,hI.len]) (λj t n hj hm=>(nR j t n hj hm).elim) (λr i h=>by cases h) (λs r i h=>by cases h) (λs hs _=>br s hs) bU k1 k2 (λr i h=>by cases h) k3
   ·exact h.elim
 ·exact h.elim
end
def qH(vs:List Nat)(N:Nat):List Nat->M (List (Nat×V))->M (List (Nat×V))
 | [],m=>m
 | s::l,m=>.get s λv=>match v with
  | .view r p t=>(mN s v).bind λz=>cond (decide (s<N)&&fH vs (.d z.1 0 z.2.1 z.2.2)&&z.1 != some s)
    (((qH vs N l m).eY [(s,.d z.1 0 z.2.1 z.2.2)]).bind λups=>.ret ((s,.d z.1 0 z.2.1 z.2.2)::ups)) (qH vs N l m)
  | _=>qH vs N l m
def Lu:V:=.d none 0 (.cap (some kE) .unit) none
def isNil:V->Bool
 | .d none 0 (.cap (some f) .unit) _=>f==kE
 | _=>false
def Ji(d:Nat)(l:List Operand)(m:M (List (Nat×V))):M (List (Nat×V)):=match l with
 | [.tmp s]=>.get s λv=>cond (isNil v) (.ret [(d,.d none 0 (.int .i64) (0:Int))]) m
 | _=>m
def Js(C:Ctx)(vs:List Nat)(N d:Nat)(hint:Bool)(X:TypeId)(s:Nat)(lo hi:Option Operand)(m:M (List (Nat×V))):M (List (Nat×V)):=
 .get s λv=>cond (isNil v) ((jG C lo).bind λl=>(jG C hi).bind λh=>.bn (l.getD 0==0&&h.getD 0==0) (match C.ty X with
   | some (.slice _ _)=>.ret [(d,Lu)]
   | _=>.fail))
  (cond hint (match v with
   | .d none (n+1) (.slice e t) xs=>(jG C lo).bind λl=>(jG C hi).bind λh=>cond (l.getD 0==0&&h==some 0 && !vs.contains s&&decide (s≠d)) (match C.ty X with
     | some (.slice e' t')=>cond (decide (e'=e/\t'=t)) (.ret [(s,.dead),(d,.d none (n+1) (.slice e t) [])]) .fail
     | _=>.fail) .fail
   | _=>m) m)
def Lt(C:Ctx)(d:Nat)(hint:Bool)(X:TypeId)(x:Operand)(m:M (List (Nat×V))):M (List (Nat×V)):=match x with
 | .tmp s=>cond hint (.get s λv=>cond (isNil v) (match C.ty X with
   | some (.slice e t)=>.ret [(d,.d none (t.depth+1) (.slice e t) [])]
   | _=>.fail) m) m
 | _=>m
def MM(C:Ctx)(d:Nat)(X X2:TypeId)(s x:Operand)(m:M (List (Nat×V))):M (List (Nat×V)):=match s with
 | .tmp s=>.get s λv=>cond (isNil v) (match C.ty X,C.ty X2 with
   | some (.slice e t),some (.int _)=>(cK C X2 x).bind λu=>match u with
    | .d _ _ (.int .i64) n=>.bn (decide (0<n)&&decide (t.sz≠0)&&decide (n*C.bytes e<=140737488355328)&&decide (n<=140737488355328)) (.ret [(d,.d none (t.depth+1) (.slice e t) (List.replicate n.toNat t.zero))])
    | _=>.fail
   | _,_=>.fail) m
 | _=>m
section
variable{P:Program}{C:Ctx}{w w' w0:World}{L L' L0:Nat->aj}{s N:Nat}{vs:List Nat}{T T':List V}{a:Act}
theorem Dj[af](hI:Inv w0 L0 N vs T a w L){s:Nat}(h:isNil (T.getD s .dead)=true):a.tmps.getD s undef = .slice none 0 0:=by
 have hs:=hI.aY s;generalize T.getD s .dead=v at h hs;unfold isNil at h;split at h
 ·rename_i f x;obtain⟨_,cs,hf,ho⟩:=hs;have hr:=Own.eQ ho;simp only[Rd]at hr;have hf:cs=[a.tmps.getD s undef]:=hf;rcases hr with⟨_,hr⟩|⟨_,_,_,_,hr⟩
  ·rw[hf]at hr;have hr:=(List.cons.inj hr).1;rw[hr];show cond (f==kE) _ _=_;rw[h];rfl
  ·have:=hr.1;rw[h]at this;cases this
 ·cases h
theorem apC{tm:Array Value}:aD L T tm d Lu w (.slice none 0 0):=by
 refine⟨by simp,[.slice none 0 0],rfl,?_⟩;simp[Own,Rd,sC]
theorem xk[af]:{l:List Nat}->{T:List V}->{L:Nat->aj}->{ups:List (Nat×V)}->{log:List Nat}->Inv w0 L0 N vs T a w L->(qH vs N l m).ai T ups log ->
  ∃T1 L1 bH log2,Inv w0 L0 N vs T1 a w L1/\m.ai T1 bH log2/\ah T ups=ah T1 bH
 | [],T,L,ups,log,hI,h=>⟨T,L,ups,log,hI,h,rfl⟩
 | s::l,T,L,ups,log,hI,h=>by
  simp only[qH]at h;obtain⟨aG,rfl,h⟩:=h;dsimp only at h;split at h
  ·rename_i r p t hv;have hb:=M.aq h;clear h;obtain⟨⟨lz,tz,yz⟩,l1,l2,rfl,hz,h⟩:=hb;dsimp only at h;cases hc:(decide (s<N)&&fH vs (.d lz 0 tz yz)&&lz != some s)with
   | false=>rw[hc]at h;exact xk hI h
   | true =>
    rw[hc,cond_true]at h;simp only[Bool.and_eq_true,decide_eq_true_eq,bne_iff_ne,ne_eq]at hc;obtain⟨⟨b9,aC⟩,eB⟩:=hc;obtain⟨bH,l3,l4,rfl,h1,h2⟩:=M.aq h;clear h;obtain⟨rfl,_⟩:=h2;have bd:s<T.length:=by rw[hI.len];exact b9
    obtain⟨fQ,h1⟩:=pk (T':=T.set s (.d lz 0 tz yz)) (by simp) (λz hz=>by
     simp only[List.map_cons,List.map_nil,List.mem_cons,List.not_mem_nil,or_false]at hz;rw[hz];exact bd) (Ld bd) _ h1
    have jy:=hI.aY s;obtain⟨cells,hf,bC,cF⟩:=qR hI hz jy (λ_=>rfl);have kf:fL (λz q=>aj.own z q) (λz=>z=s):=by
     refine⟨λz q _=>rfl,λz q z' q' hX h=>?_,λz q z2 q2 z' q' h1 h2=>?_,λz q=>?_⟩
     ·injection h with h _;rw[<-h];exact hX
     ·rw[<-h2]at h1;injection h1 with e1 e2;exact⟨e1,e2⟩
     ·simp
    have cB:(T.getD s .dead).aM=false:=by rw[hv];rfl
    have bw:Inv w0 L0 N vs (T.set s (.d lz 0 tz yz)) a w (aU (λz q=>aj.own z q) w L (λ_=>.free)):=by
     refine Inv.gY hI kf (Wd.refl hI _) (λ_ _ _ _ _ h=>by cases h) hI.size (by simp[hI.len]) hI.dR ?_ ?_ ?_ ?_ ?_
     ·intro k s' q bN h;subst bN;unfold aU at h;split at h
      ·obtain⟨s0,q0,e0,f0⟩:=eZ h;injection f0 with f0 _;have:=hI.owner k _ _ e0;rw[f0,cB]at this;cases this
      ·cases h
     ·intro z r _ ho hr;subst hr;exact cB
     ·intro z hz;rw[aH,if_neg (λh=>hz h.1)];exact⟨rfl,rfl⟩
     ·intro z r hz ho;subst hz;rw[aH,if_pos ⟨rfl,bd⟩]at ho;exact qN aC r ho
     ·intro z hz;subst hz;rw[aH,if_pos ⟨rfl,bd⟩];have hm:∀k,SL L lz k->SL (aU (λz q=>aj.own z q) w L (λ_=>.free)) lz k/\w.heap[k]?=w.heap[k]?:=by
       rintro k (hk|⟨r,q,hl,hk⟩)
       ·exact⟨.inl (eD hI hk),rfl⟩
       ·exact⟨.inr ⟨r,q,hl,by rw[c8 hI (by rw[hk];simp),hk];rfl⟩,rfl⟩
      refine⟨λr hr=>?_,cells,hf,Own.dP (Rd.move hm bC)⟩;rw[aH,if_neg (λe=>eB (by rw[hr,e.1]))];exact cF r hr
    obtain⟨T1,L2,jJ,jC,k1,k2,k3⟩:=xk bw h1;exact⟨T1,L2,jJ,jC,k1,k2,k3⟩
  ·exact xk hI h
theorem arb[af](hI:Inv w0 L0 N vs T a w L){b:Builtin}(hb:b = .cap\/b = .len)      
  (hu:∀X,cJ[0]?=some X->∃e,P.underlying X=some (.slice e)) (bq:cJ.size=1) (ho:o.op = .call { callee:=.builtin b,args,argTypes:=cJ }) (aB:o.dst=some d) (hd:d<N) (hid:(T.getD d .dead).idle=true)
  (h:(Ji d args.toList m).ai T ups log) (hm:∀log,m.ai T ups log->Step P o w0 L0 N vs (ah T ups) a w):Step P o w0 L0 N vs (ah T ups) a w:=by
 obtain⟨args⟩:=args;obtain⟨cJ⟩:=cJ;unfold Ji at h;dsimp only at h;split at h
 ·rename_i s;obtain⟨aG,rfl,h⟩:=h;dsimp only at h;cases hn:isNil (T.getD s .dead)with
  | false=>rw[hn]at h;exact hm _ h
  | true =>
   rw[hn,cond_true]at h;obtain⟨rfl,_⟩:=h;have hv:=Dj hI hn
   match cJ,bq with
   | [X],_ =>
    obtain⟨e,he⟩:=hu X rfl;have cZ:a.eval (.tmp s) = .slice none 0 0:=hv;have cm:aL P o vs T a w L d (.d none 0 (.int .i64) (0:Int)):=by
     refine aL.still hI (c:=.int .i64 0) ?_ (λ_=>rfl) aD.mkInt;rcases hb with rfl|rfl
     ·simp[execOp,ho,resolve,invoke,builtin,Builtin.cap_,cZ,run_underlying he,goInt]
     ·simp[execOp,ho,resolve,invoke,builtin,Builtin.len_,cZ,run_underlying he,goInt]
    intro K Q hK;exact aL.inv hI hd hid aB cm hK
 ·exact hm _ h
end
section
variable{P:Program}{C:Ctx}{w w' w0:World}{L L' L0:Nat->aj}{s N:Nat}{vs:List Nat}{T T':List V}{a:Act}
theorem LJ{l:Option Int}(h:(l.getD 0==0)=true):l.getD 0=0:=by simpa using h
theorem ard[af](hI:Inv w0 L0 N vs T a w L)(hC:bD P C){s:Nat}{hint:Bool}{lo hi:Option Operand}{m:M (List (Nat×V))}  
  (ho:o.op = .slice X (.tmp s) lo hi none) (aB:o.dst=some d) (hd:d<N) (hid:(T.getD d .dead).idle=true)
  (h:(Js C vs N d hint X s lo hi m).ai T ups log) (hm:∀log,m.ai T ups log->Step P o w0 L0 N vs (ah T ups) a w):Step P o w0 L0 N vs (ah T ups) a w:=by
 have key:∀c,(Instr.sliceAt X (a.eval (.tmp s)) (lo.map a.eval) (hi.map a.eval) none).run P w = .ok c w->(execOp a.eval o).run P w = .ok (.value c) w:=by
  intro c hc;simp[execOp,ho,hc]
 unfold Js at h;obtain⟨aG,rfl,h⟩:=h;dsimp only at h;cases hn:isNil (T.getD s .dead)with
 | true =>
  rw[hn,cond_true]at h;have hv:=Dj hI hn;obtain⟨l,l1,l2,rfl,hl,h⟩:=M.aq h;obtain⟨z,l3,l4,rfl,hh,h⟩:=M.aq h;obtain⟨hc,h⟩:=h;rw[Bool.and_eq_true]at hc;split at h
  ·rename_i e t hX;obtain⟨rfl,_⟩:=h;obtain⟨hu,he⟩:=(hC X _ hX).b7;have el:=og (z:=0) (oe hI hl);have eh:=og (z:=0) (oe hI hh);rw[LJ hc.1]at el;rw[LJ hc.2]at eh;have aP:=D0 (P:=P) (w:=w) hu ((hC e t he).run_sizeOf) (A:=none) (len:=0) (cap:=0) el eh (by omega) (by omega) (by omega) (by omega);have cZ:a.eval (.tmp s) = .slice none 0 0:=hv;have cm:aL P o vs T a w L d Lu:=aL.still hI (c:=.slice none 0 0) (key _ (by rw[cZ];exact aP)) (λ_=>rfl) apC;intro K Q hK;exact aL.inv hI hd hid aB cm hK
  ·exact h.elim
 | false =>
  rw[hn,cond_false]at h;cases hint with
  | false=>exact hm _ h
  | true =>
   rw[cond_true]at h;have hs:=hI.aY s;generalize hv:T.getD s .dead=v at h hs;split at h
   ·rename_i n e t xs;obtain⟨l,l1,l2,rfl,hl,h⟩:=M.aq h;obtain⟨z,l3,l4,rfl,hh,h⟩:=M.aq h;cases hc:(l.getD 0==0&&z==some 0 && !vs.contains s&&decide (s≠d))with
    | false=>rw[hc]at h;exact h.elim
    | true =>
     rw[hc,cond_true]at h;simp only[Bool.and_eq_true,Bool.not_eq_true',decide_eq_true_eq]at hc;obtain⟨⟨⟨eA,dL⟩,XH⟩,hc4⟩:=hc;have hz:z=some 0:=by simpa using dL
     subst hz;split at h
     ·rename_i e' t' hX;cases J5:decide (e'=e/\t'=t)with
      | false=>rw[J5]at h;exact h.elim
      | true =>
       rw[J5,cond_true]at h;obtain⟨rfl,_⟩:=h;obtain⟨rfl,rfl⟩:=of_decide_eq_true J5;obtain⟨hu,he⟩:=(hC X _ hX).b7;have el:=og (z:=0) (oe hI hl);rw[LJ eA]at el;obtain⟨_,cs,hf,bQ⟩:=hs;have hf:cs=[a.tmps.getD s undef]:=hf;rw[hf]at bQ;have jz:s∉vs:=λhm=>by rw[List.contains_iff_mem.2 hm]at XH;cases XH
       have nU:(some s=some s/\s∉vs/\(T.getD s .dead).aM=true)\/(some s=(none:Option Nat)/\s=d):=.inl ⟨rfl,jz,by rw[hv];simp[V.aM,Ty.depth]⟩;have fin:∀c,(Instr.sliceAt X (a.eval (.tmp s)) (lo.map a.eval) (hi.map a.eval) none).run P w = .ok c w ->
         (∀(L':Nat->aj),(∀g,L g = .own s [0]->L' g = .own d [0])->Own w L' (SL L' none) d (n+1) (.slice e' t') [] [] 0 [c]) ->
         Step P o w0 L0 N vs (ah T [(s,.dead),(d,.d none (n+1) (.slice e' t') [])]) a w:=by
        intro c aP dM;refine Step.value aB (key c aP) (Inv.app (sb:=some s) (sx:=none) (kept:=true) (b1:=0) (b2:=0) (m:=n) (nl:=λ_=>.free) hI hd hid nU (λs h=>by cases h) (Wd.refl hI _) (λ_ _ _ _ h=>by cases h) rfl (by simp[V.aM,Ty.depth]) (λT' tm'=>⟨by simp,[c],rfl,dM _ (λg hg=>?_)⟩));rw[c8 hI (by rw[hg];simp),hg];show gM d s none true 0 0 n s [0]=_;unfold gM;rw[if_pos rfl];simp
       simp only[Own]at bQ;rcases bQ with⟨gr,jA⟩|⟨g,cap,cur,ek,hg,hh1,hh2,hh3,hh4,_⟩
       ·have cZ:a.eval (.tmp s) = .slice none 0 0:=(List.cons.inj gr).1;have eh:=og (z:=0) (oe hI hh);have aP:=D0 (P:=P) (w:=w) hu ((hC e' t' he).run_sizeOf) (A:=none) (len:=0) (cap:=0) el eh (by omega) (by simp) (by simp) (by omega);refine fin (.slice none 0 0) (by rw[cZ];exact aP) (λL' _=>?_);simp only[Own];exact .inl ⟨by trivial,by trivial⟩
       ·have cZ:a.eval (.tmp s) = .slice (some ⟨g,0,none⟩) xs.length cap:=(List.cons.inj ek).1;have eh:=og (z:=(xs.length:Int)) (oe hI hh);have aP:=D0 (P:=P) (w:=w) hu ((hC e' t' he).run_sizeOf) (A:=some ⟨g,0,none⟩) (len:=xs.length) (cap:=cap) el eh (by omega) (by simp) (by simp) hh2;have e0:(if cap=(0:Int).toNat then some (⟨g,0,none⟩:Addr)else (some ⟨g,0,none⟩:Option Addr).map (·.add ((0:Int).toNat*t'.sz)))=some ⟨g,0,none⟩:=by
         split
         ·rfl
         ·simp[Addr.add_lit]
        rw[e0]at aP;refine fin _ (by rw[cZ];exact aP) (λL' hL=>?_);simp only[Own];refine .inr ⟨g,cap,cur,by simp,hL g hg,hh1,by simp,hh3,hh4,λj hj=>absurd hj (by simp)⟩
     ·exact h.elim
   ·exact hm _ h
theorem arn[af](hI:Inv w0 L0 N vs T a w L)(hC:bD P C){x:Operand}{hint:Bool}   
  (ho:qC o x) (aB:o.dst=some d) (hd:d<N) (hid:(T.getD d .dead).idle=true)
  (h:(Lt C d hint X x m).ai T ups log) (hm:∀log,m.ai T ups log->Step P o w0 L0 N vs (ah T ups) a w):Step P o w0 L0 N vs (ah T ups) a w:=by
 unfold Lt at h;split at h
 ·rename_i s;cases hint with
  | false=>exact hm _ h
  | true =>
   rw[cond_true]at h;obtain⟨aG,rfl,h⟩:=h;dsimp only at h;cases hn:isNil (T.getD s .dead)with
   | false=>rw[hn]at h;exact hm _ h
   | true =>
    rw[hn,cond_true]at h;have hv:=Dj hI hn;split at h
    ·rename_i e t hX;obtain⟨rfl,_⟩:=h;have cZ:a.eval (.tmp s) = .slice none 0 0:=hv;have cm:aL P o vs T a w L d (.d none (t.depth+1) (.slice e t) []):=by
      refine aL.still hI (c:=.slice none 0 0) ?_ (λ_=>rfl) ⟨by simp,[.slice none 0 0],rfl,?_⟩
      ·rw[tS ho,cZ]
      ·simp only[Own];exact .inl ⟨by trivial,by trivial⟩
     intro K Q hK;exact aL.inv hI hd hid aB cm hK
    ·exact h.elim
 ·exact hm _ h
theorem akI{w:World}{X2 ty e:TypeId}{i:TypeInfo}{z:Value}{k2:IntKind}(hX:P.underlying X=some (.slice e))(iO:P.underlying X2=some (.int k2))(hi:P.info? e=some i)(hz:i.zero=some z)
  {n:Int} (h0:0<n) (hm:n<=140737488355328) (hb:n*i.bytes<=140737488355328) (bq:i.size≠0) :
  (Builtin.append_ #[X,X2] ty #[.slice none 0 0,.int .i64 n]).run P w = .ok (.slice (some ⟨w.heap.size,0,none⟩) n.toNat (grownCap w n.toNat 0 e))
   (w.drew.alloc (.cells (Builtin.zeroCells z.cells n.toNat++Builtin.zeroCells z.cells (grownCap w n.toNat 0 e - n.toNat)) e)):=by
 obtain⟨n,rfl⟩:∃k:Nat,n=k:=⟨n.toNat,by omega⟩;have hbn:n*i.bytes<=140737488355328:=by
  have:((n*i.bytes:Nat):Int)<=140737488355328:=by rw[Int.natCast_mul];exact hb
  omega
 have hf:=growslice_fits (need:=n) (old:=0) (bytes:=i.bytes) (by omega) hbn;have e1:¬(0+n<=0):=by omega
 have e2:¬(9223372036854775807<(n:Int)):=by omega
 have e3:¬(281474976710656<Builtin.nextslicecap n 0*i.bytes):=by omega
 have wn:IntKind.i64.wrap (n:Int)=n:=IntWalk.i64_in _ (by omega);have e4:¬((n:Int)<0):=by omega
 have e5:¬(281474976710656<(n:Int)*(i.bytes:Int)):=by omega
 have e7:¬n=0:=by omega
 have e6:¬(n*i.size=0):=by
  intro h;rcases Nat.mul_eq_zero.1 h with h|h
  ·omega
  ·exact bq h
 have J9:=run_firstCells_none (P:=P) w.drew i.size 0 0 0;simp[Builtin.append_,run_underlying hX,run_underlying iO,sizeOf,typeInfo,zeroValue,hi,hz,wn,asInt,asIntOf,e1,e2,e3,e4,e5,e6,e7,Question.forced,J9,newRow,grownCap]
end
def Mh(vs:List Nat)(N s:Nat)(h:Nat->Option Nat)(m:M (List (Nat×V))):M (List (Nat×V)):=
 .get s λv=>match v with
 | .bF l=>cond (partsOf s h 0 0 l).isEmpty m
   (if cr (s::(partsOf s h 0 0 l).map (·.1.1))=true/\((partsOf s h 0 0 l).all λp=>decide (p.1.1<N))=true/\vs.contains s=true/\s<N then
    iI true s s ((partsOf s h 0 0 l).map (·.1.1)) (xg ((partsOf s h 0 0 l).map (·.1.1)) ((m.eY ((partsOf s h 0 0 l).map (λp=>(p.1.1,p.2))++[(s,.bF (iC l))])).bind λups =>
     .ret (((partsOf s h 0 0 l).map (λp=>(p.1.1,p.2))++[(s,.bF (iC l))])++ups)))
   else m)
 | _=>m
def D3(vs:List Nat)(N d:Nat)(h:Nat->Option Nat)(ups:List (Nat×V)):M (List (Nat×V)):=
 match ups.getLast? with
 | some (d',.bF l)=>cond (d'==d && !(partsOf d h 0 0 l).isEmpty)
   (if cr (d::(partsOf d h 0 0 l).map (·.1.1))=true/\((partsOf d h 0 0 l).all λp=>decide (p.1.1<N))=true/\vs.contains d=true/\d<N/\(((partsOf d h 0 0 l).map (·.1.1)).all λe => !(ups.map (·.1)).contains e)=true/\(ups.all λp => !p.2.on d)=true then
    iI true d d ((partsOf d h 0 0 l).map (·.1.1)) (xg ((partsOf d h 0 0 l).map (·.1.1)) (.ret (ups++((partsOf d h 0 0 l).map (λp=>(p.1.1,p.2))++[(d,.bF (iC l))]))))
   else .ret ups) (.ret ups)
 | _=>.ret ups
section
variable{P:Program}{C:Ctx}{w w' w0:World}{L L' L0:Nat->aj}{s N:Nat}{vs:List Nat}{T T':List V}{a:Act}
theorem ew.ak1[af](hI:Inv w0 L0 N vs T a w L)(d:Nat)(q:List Nat)(ob:Obj):ew w (w.drew.alloc ob) L (λk=>if k=w.heap.size then .own d q else L k) d:=by
 refine⟨rfl,rfl,rfl,by simp,Nat.le_succ _,λk hk=>?_,λk s q' hk h=>?_,λk k' q' hk aI h h'=>?_,λk hk=>?_⟩
 ·rw[if_neg (by omega)];exact⟨rfl,Go.RowKit.Below.heap_alloc w.drew ob k hk⟩
 ·split at h
  ·injection h with h _;exact h.symm
  ·rw[hI.free k hk]at h;cases h
 ·split at h
  ·split at h'
   ·omega
   ·rw[hI.free k' aI]at h';cases h'
  ·rw[hI.free k hk]at h;cases h
 ·simp at hk;rw[if_neg (by omega)];exact hI.free k (by omega)
theorem aru[af](hI:Inv w0 L0 N vs T a w L)(hC:bD P C){o:Oper}{X2:TypeId}{sO xO:Operand}    
  (ho:o.op = .call { callee:=.builtin .append,args:=#[sO,xO],argTypes:=#[X,X2] }) (aB:o.dst=some d) (hd:d<N) (hid:(T.getD d .dead).idle=true)
  (h:(MM C d X X2 sO xO m).ai T ups log) (hm:∀log,m.ai T ups log->Step P o w0 L0 N vs (ah T ups) a w):Step P o w0 L0 N vs (ah T ups) a w:=by
 unfold MM at h;split at h
 ·rename_i s;obtain⟨aG,rfl,h⟩:=h;dsimp only at h;cases hn:isNil (T.getD s .dead)with
  | false=>rw[hn]at h;exact hm _ h
  | true =>
   rw[hn,cond_true]at h;have hv:=Dj hI hn;have cZ:a.eval (.tmp s) = .slice none 0 0:=hv;split at h
   ·rename_i e t k2 hX iO;obtain⟨u,l1,l2,rfl,h1,h⟩:=M.aq h;split at h
    ·rename_i lu nu n;obtain⟨hc,rfl,_⟩:=h;simp only[Bool.and_eq_true,decide_eq_true_eq]at hc;obtain⟨⟨⟨iS,bq⟩,hb⟩,nR⟩:=hc;obtain⟨hu,he⟩:=(hC X _ hX).b7;have KC:=(hC X2 _ iO).b7;obtain⟨i,z,i1,i2,i3,i4,i5⟩:=(hC e t he).info;have ee:∀v∈t.cu,v.oneCell'=true:=Own.one (Own.zero (w:=w) (L:=L) (S:=λ_=>True) (s:=0) (n:=0) (t:=t) (q:=[]) (o:=0));have jt:=Form.cells i5 ee;have iz:z.cells.size=t.sz:=by rw[<-Array.length_toList,jt,Ty.jN]
     have hx:=gX hI h1;have aP:=akI (P:=P) (w:=w) (ty:=o.type) hu KC i1 i4 iS nR (by rw[i3];exact hb) (by rw[i2];exact bq);obtain⟨k,hk⟩:∃k:Int,k=n:=⟨n,rfl⟩;have axI:k<=140737488355328:=by rw[hk];exact nR
     have tj:k.toNat<=maxLen:=by simp only[maxLen];omega
     rw[hk]at tj;have axG:n.toNat<=maxLen:=tj;have mg:=grownCap_ge w n.toNat 0 e;have CZ:=grownCap_le_maxLen w n.toNat 0 e tj;have wB:(execOp a.eval o).run P w = .ok (.value (.slice (some ⟨w.heap.size,0,none⟩) n.toNat (grownCap w n.toNat 0 e))) (w.drew.alloc (.cells (Builtin.zeroCells z.cells n.toNat++Builtin.zeroCells z.cells (grownCap w n.toNat 0 e - n.toNat)) e)):=by
      simp[execOp,ho,resolve,invoke,builtin,cZ,hx,aP]
     have cm:aL P o vs T a w L d (.d none (t.depth+1) (.slice e t) (List.replicate n.toNat t.zero)):=by
      refine⟨_,_,_,wB,ew.ak1 hI d [0] _,λ_ _ _ _=>by simp[V.aM,Ty.depth],λr hr=>by simp[V.on,V.root]at hr,by simp,_,rfl,?_⟩;simp only[Own];refine .inr ⟨w.heap.size,grownCap w n.toNat 0 e,_,by simp,by simp,o3 w.drew _,by simpa using mg,CZ,?_,λj hj=>?_⟩
      ·rw[Array.size_append,size_zeroCells,size_zeroCells,iz,<-Nat.add_mul];congr 1;omega
      ·simp only[List.length_replicate]at hj;have qe:(((Builtin.zeroCells z.cells n.toNat++Builtin.zeroCells z.cells (grownCap w n.toNat 0 e - n.toNat)).toList.drop (j*t.sz)).take t.sz)=t.cu:=by
        have:=Lg z.cells n.toNat j hj;rw[iz]at this;rw[<-jt,<-this];refine rf λk hk=>?_;have ax:(j+1)*t.sz<=n.toNat*t.sz:=Nat.mul_le_mul_right _ (by omega);rw[Nat.add_mul,Nat.one_mul]at ax;rw[Array.getElem?_toList,Array.getElem?_toList,Array.getElem?_append_left (by rw[size_zeroCells,iz];omega)];unfold Builtin.zeroCells;rw[iz]
       rw[qe,List.getElem_replicate];exact Own.zero
     intro K Q hK;exact aL.inv hI hd hid aB cm hK
    ·exact h.elim
   ·exact h.elim
 ·exact hm _ h
theorem aag:{U:List (Nat×V)}->cr (U.map (·.1))=true->∀{z:Nat} {v:V},(z,v)∈U->eO U z=some v
 | [],_,z,v,h=>by cases h
 | (k,u)::U,hn,z,v,h=>by
  simp only[List.map_cons,cr,Bool.and_eq_true,Bool.not_eq_true']at hn;simp only[eO];rcases List.mem_cons.1 h with h|h
  ·injection h with h1 h2;subst h1 h2;simp
  ·have:(k==z)=false:=by
    cases hk:k==z with
    | false=>rfl
    | true =>
     have e:k=z:=by simpa using hk
     subst e;have:=List.contains_iff_mem.2 (List.mem_map_of_mem (f:=(·.1)) h);rw[hn.1]at this;cases this
   rw[this];simpa using aag hn.2 h
theorem aah:{U:List (Nat×V)}->{z:Nat}->z∉U.map (·.1)->eO U z=none
 | [],z,h=>rfl
 | (k,u)::U,z,h=>by
  simp only[List.map_cons,List.mem_cons,not_or]at h;simp only[eO];have:(k==z)=false:=by simpa using Ne.symm h.1
  rw[this];simpa using aah h.2
theorem apn[af]{U:List (Nat×V)}(hn:cr (U.map (·.1))=true){T:List V}(hl:∀z∈U.map (·.1),z<T.length)(z:Nat):(ah T U).getD z .dead=(eO U z).getD (T.getD z .dead):=by
 by_cases hz:z∈U.map (·.1)
 ·obtain⟨⟨k,v⟩,hm,rfl⟩:=List.mem_map.1 hz;rw[aag hn hm];exact sL hn hm (hl _ hz)
 ·rw[aah hz];exact fg _ _ _ hz
theorem aqV[af](hI:Inv w0 L0 N vs T a w L){s:Nat}{h0:Nat->Option Nat}{l:List mW}(cG:cr (s::(partsOf s h0 0 0 l).map (·.1.1))=true)
  (ax:((partsOf s h0 0 0 l).all λp=>decide (p.1.1<N))=true) (b9:s<N) :
  cr (((partsOf s h0 0 0 l).map (λp=>(p.1.1,p.2))++[(s,V.bF (iC l))]).map (·.1))=true/\∀z∈((partsOf s h0 0 0 l).map (λp=>(p.1.1,p.2))++[(s,V.bF (iC l))]).map (·.1),z<T.length:=by
 generalize my:partsOf s h0 0 0 l=ps at cG ax;have wU:=Lx cG;have jy:ps.map (·.1.1)=(ps.map (·.1)).map (·.1):=by rw[List.map_map];rfl
 obtain⟨lk,qk⟩:=List.nodup_cons.1 wU;have hU:(ps.map (λp=>(p.1.1,p.2))++[(s,V.bF (iC l))]).map (·.1)=ps.map (·.1.1)++[s]:=by simp[List.map_map,Function.comp_def]
 refine⟨?_,λz hz=>?_⟩
 ·rw[hU];refine xA ?_;rw[List.nodup_append];refine⟨qk,by simp,λx hx y hy e=>?_⟩;rw[List.mem_singleton]at hy;subst e hy;exact lk hx
 ·rw[hU]at hz;rcases List.mem_append.1 hz with hz|hz
  ·obtain⟨p,hp,rfl⟩:=List.mem_map.1 hz;rw[List.all_eq_true]at ax;rw[hI.len];simpa using ax _ hp
  ·rw[List.mem_singleton.1 hz,hI.len];exact b9
theorem Inv.split[af](hI:Inv w0 L0 N vs T a w L){s:Nat}{h0:Nat->Option Nat}{l:List mW}(hv:T.getD s .dead = .bF l)(cG:cr (s::(partsOf s h0 0 0 l).map (·.1.1))=true)
  (ax:((partsOf s h0 0 0 l).all λp=>decide (p.1.1<N))=true) (jz:vs.contains s=true) (b9:s<N) (cQ:∀z,¬z=s->(T.getD z .dead).on s=false)
  (kh:∀e∈(partsOf s h0 0 0 l).map (·.1.1),(T.getD e .dead).idle=true):∃L',Inv w0 L0 N vs (ah T ((partsOf s h0 0 0 l).map (λp=>(p.1.1,p.2))++[(s,.bF (iC l))])) a w L':=by
 have hs:=hI.aY s;rw[hv]at hs;obtain⟨dy,ek,dM⟩:=hs;generalize my:partsOf s h0 0 0 l=ps at cG ax kh;have w8:fc 0 (ps.map (·.1)):=by rw[<-my];exact DS
 have wU:=Lx cG;have jy:ps.map (·.1.1)=(ps.map (·.1)).map (·.1):=by rw[List.map_map];rfl
 obtain⟨lk,qk⟩:=List.nodup_cons.1 wU;have wT:cr ((ps.map (·.1)).map (·.1))=true:=by rw[<-jy];exact xA qk
 have bd:s<T.length:=by rw[hI.len];exact b9
 let U:List (Nat×V):=ps.map (λp=>(p.1.1,p.2))++[(s,.bF (iC l))];have hU:U.map (·.1)=ps.map (·.1.1)++[s]:=by simp[U,List.map_map,Function.comp_def]
 have oW:cr (U.map (·.1))=true:=by
  rw[hU];refine xA ?_;rw[List.nodup_append];refine⟨qk,by simp,λx hx y hy e=>?_⟩;rw[List.mem_singleton]at hy;subst e hy;exact lk hx
 have CT:∀z∈U.map (·.1),z<T.length:=by
  intro z hz;rw[hU]at hz;rcases List.mem_append.1 hz with hz|hz
  ·obtain⟨p,hp,rfl⟩:=List.mem_map.1 hz;rw[List.all_eq_true]at ax;rw[hI.len];simpa using ax _ hp
  ·rw[List.mem_singleton.1 hz];exact bd
 have bI:(ah T U).getD s .dead = .bF (iC l):=sL oW (by simp[U]) bd;have qb:∀p v,(p,v)∈ps->(ah T U).getD p.1 .dead=v:=by
  intro p v hp;refine sL oW ?_ (CT _ ?_)
  ·exact List.mem_append_left _ (List.mem_map.2 ⟨(p,v),hp,rfl⟩)
  ·rw[hU];exact List.mem_append_left _ (List.mem_map.2 ⟨(p,v),hp,rfl⟩)
 have br:∀z,¬(z=s\/z∈(ps.map (·.1)).map (·.1))->(ah T U).getD z .dead=T.getD z .dead:=by
  intro z hz;refine fg _ _ _ ?_;rw[hU,jy];intro hm;rcases List.mem_append.1 hm with hm|hm
  ·exact hz (.inr hm)
  ·exact hz (.inl (List.mem_singleton.1 hm))
 have qn:∀p v,(p,v)∈ps->∃j n t x u cs,v = .part s j n t x/\dy.toList[j]?=some u/\t.sz=p.2.2/\Form t cs u/\Own w L (SL L none) s n t x [] p.2.1 cs:=by
  intro p v hp;rw[<-my]at hp;obtain⟨j,n,t,x,u,cs,e1,e2⟩:=LL dM p v hp;exact⟨0+j,n,t,x,u,cs,e1,by rw[Nat.zero_add];exact e2⟩
 have gn:∀z,z∈(ps.map (·.1)).map (·.1)->∃p v,(p,v)∈ps/\p.1=z:=by
  intro z hz;rw[<-jy]at hz;obtain⟨⟨p,v⟩,hp,rfl⟩:=List.mem_map.1 hz;exact⟨p,v,hp,rfl⟩
 have ama:fL (lB s s (ps.map (·.1))) (λz=>z=s\/z=s\/z∈(ps.map (·.1)).map (·.1)):=aa4 w8 wT;have kf:fL (lB s s (ps.map (·.1))) (λz=>z=s\/z∈(ps.map (·.1)).map (·.1)):=by
  have e:(λz=>z=s\/z=s\/z∈(ps.map (·.1)).map (·.1))=(λz=>z=s\/z∈(ps.map (·.1)).map (·.1)):=by
   funext z;apply propext;constructor
   ·rintro (h|h|h)
    ·exact .inl h
    ·exact .inl h
    ·exact .inr h
   ·rintro (h|h)
    ·exact .inl h
    ·exact .inr (.inr h)
  rwa [e]at ama
 refine⟨aU (lB s s (ps.map (·.1))) w L (λ_=>.free),Inv.gY (T':=ah T U) hI kf (Wd.refl hI _) (λ_ _ _ _ _ h=>by cases h) hI.size (by rw[cH,hI.len]) hI.dR ?_ ?_ ?_ ?_ ?_⟩
 ·intro k z q hz hk;rcases hz with rfl|hz
  ·rw[bI];rfl
  ·obtain⟨p,v,hp,rfl⟩:=gn z hz;rw[qb p v hp];obtain⟨j,n,t,x,u,cs,rfl,_⟩:=qn p v hp;rfl
 ·intro z r hz ag hr;rcases hr with rfl|hr
  ·exfalso;have dN:z≠r:=λe=>hz (.inl e);rw[cQ z dN]at ag;cases ag
  ·exact V.kG (kh r (by rw[jy];exact hr))
 ·intro z hz;exact⟨br z hz,rfl⟩
 ·intro z r hz ag;rcases hz with rfl|hz
  ·rw[bI]at ag;simp[V.on,V.root]at ag
  ·obtain⟨p,v,hp,rfl⟩:=gn z hz;rw[qb p v hp]at ag;obtain⟨j,n,t,x,u,cs,rfl,_⟩:=qn p v hp;simp only[V.on,V.root,beq_iff_eq,Option.some.injEq]at ag;subst ag;exact List.contains_iff_mem.1 jz
 ·intro z hz;rcases hz with rfl|hz
  ·rw[bI];exact⟨dy,ek,LY (λk hk=>⟨eD hI hk,rfl⟩) dM⟩
  ·obtain⟨p,v,hp,rfl⟩:=gn z hz;rw[qb p v hp];obtain⟨j,n,t,x,u,cs,rfl,e2,e3,e4,e5⟩:=qn p v hp;refine⟨by rw[bI];rfl,dy,u,cs,ek,by simpa using e2,e4,?_⟩;refine Own.move (λk hk=>?_) (λk i rest hi hk=>⟨?_,rfl⟩) e5
   ·rcases hk with hk|⟨_,_,hk,_⟩
    ·exact⟨.inl (eD hI hk),rfl⟩
    ·cases hk
   ·have aI:L k = .own s ((p.2.1+i)::rest):=by simpa using hk
    rw[c8 hI (by rw[aI];simp),aI];have:=aa3 (s:=s) (d:=s) w8 wT (List.mem_map_of_mem (f:=(·.1)) hp) (i:=i) (by rw[<-e3];exact hi) (rest:=rest);simpa[eR]using this
theorem aqU[af]{s:Nat}{h0:Nat->Option Nat}(hI:Inv w0 L0 N vs T a w L)(h:(Mh vs N s h0 m).ai T ups log):
  ∃T1 L1 bH log2,Inv w0 L0 N vs T1 a w L1/\m.ai T1 bH log2/\ah T ups=ah T1 bH:=by
 unfold Mh at h;obtain⟨aG,rfl,h⟩:=h;dsimp only at h;generalize hv:T.getD s .dead=v at h;split at h
 ·rename_i l;cases he:(partsOf s h0 0 0 l).isEmpty with
  | true=>rw[he]at h;exact⟨T,L,ups,_,hI,h,rfl⟩
  | false =>
   rw[he,cond_false]at h;split at h
   ·rename_i hc;obtain⟨cG,ax,jz,b9⟩:=hc;obtain⟨cQ,log2,h⟩:=jV h;obtain⟨kh,fQ,h⟩:=Di h;have hb:=M.aq h;clear h;obtain⟨bH,l3,l4,rfl,h1,h2⟩:=hb;obtain⟨rfl,_⟩:=h2;obtain⟨L1,bw⟩:=Inv.split hI hv cG ax jz b9 (λz hz=>by simpa using cQ z hz) kh;have bd:s<T.length:=by rw[hI.len];exact b9
    obtain⟨oW,CT⟩:=aqV hI cG ax b9;obtain⟨jC,h1⟩:=pk (T':=ah T ((partsOf s h0 0 0 l).map (λp=>(p.1.1,p.2))++[(s,.bF (iC l))])) (by simp[cH]) CT (apn oW CT) _ h1;exact⟨_,L1,bH,jC,bw,h1,by rw[lE]⟩
   ·exact⟨T,L,ups,_,hI,h,rfl⟩
 ·exact⟨T,L,ups,_,hI,h,rfl⟩
theorem aqI{ups:List (Nat×V)}:∀{T:List V} {z:Nat},(ah T ups).getD z .dead=T.getD z .dead\/∃v,(z,v)∈ups/\(ah T ups).getD z .dead=v:=by
 induction ups with
 | nil=>intro T z;exact .inl rfl
 | cons u l ih =>
  intro T z;have e:ah T (u::l)=ah (T.set u.1 u.2) l:=rfl;rw[e];rcases ih (T:=T.set u.1 u.2) (z:=z)with h|⟨v,h1,h2⟩
  ·rw[h,aH];split
   ·rename_i hz;exact .inr ⟨u.2,by rw[hz.1];exact List.mem_cons_self,rfl⟩
   ·exact .inl rfl
  ·exact .inr ⟨v,List.mem_cons_of_mem _ h1,h2⟩
theorem abN[af](hI:Inv w0 L0 N vs T a w L){h0:Nat->Option Nat}{ups:List (Nat×V)} 
  (h:(m.bind (D3 vs N d h0)).ai T ups log) (hm:∀ups log,m.ai T ups log->Step P o w0 L0 N vs (ah T ups) a w):Step P o w0 L0 N vs (ah T ups) a w:=by
 obtain⟨xY,l1,l2,rfl,h1,h⟩:=M.aq h;have ba:=hm _ _ h1;unfold D3 at h;split at h
 ·rename_i d' l X4;cases iP:(d'==d && !(partsOf d h0 0 0 l).isEmpty)with
  | false=>rw[iP]at h;obtain⟨rfl,_⟩:=h;exact ba
  | true =>
   rw[iP,cond_true]at h;simp only[Bool.and_eq_true,beq_iff_eq]at iP;obtain⟨rfl,_⟩:=iP;split at h
   ·rename_i hc;obtain⟨cG,ax,jz,b9,hk,ag⟩:=hc;obtain⟨cQ,log2,h⟩:=jV h;obtain⟨kh,fQ,h⟩:=Di h;obtain⟨rfl,_⟩:=h;have C0:d'<T.length:=by rw[hI.len];exact b9
    have ik:(ah T xY).getD d' .dead = .bF l:=by
     obtain⟨ys,rfl⟩:∃ys,xY=ys++[(d',V.bF l)]:=by
      rw[List.getLast?_eq_some_iff]at X4;exact X4
     rw[lE];show ((ah T ys).set d' (V.bF l)).getD d' .dead=_;rw[aH,if_pos ⟨rfl,by rw[cH];exact C0⟩]
    intro K Q hK;refine ba K Q (λa' w' L' iM=>?_);have qd:∀z,¬z=d'->((ah T xY).getD z .dead).on d'=false:=by
     intro z hz;rcases aqI (T:=T) (ups:=xY) (z:=z)with h|⟨v,h,h2⟩
     ·rw[h];simpa using cQ z hz
     ·rw[h2];rw[List.all_eq_true]at ag;simpa using ag _ h
    have wH:∀e∈(partsOf d' h0 0 0 l).map (·.1.1),((ah T xY).getD e .dead).idle=true:=by
     intro e he;rw[List.all_eq_true]at hk;have XX:=hk e he;rw[fg _ _ _ (λhm=>by
      rw[List.contains_iff_mem.2 hm]at XX;cases XX)]
     exact kh e he
    obtain⟨L1,bw⟩:=Inv.split iM ik cG ax jz b9 qd wH;rw[lE]at hK;exact hK a' w' L1 bw
   ·obtain⟨rfl,_⟩:=h;exact ba
 ·obtain⟨rfl,_⟩:=h;exact ba
end
def eM(N d:Nat)(m:M (List (Nat×V))):M (List (Nat×V)):=.get d λv=>.bn (v.idle&&decide (d<N)) m
def mM(C:Ctx)(vs:List Nat)(d:Nat)(o:Oper):M (List (Nat×V)):=(LQ C o).bind λv=>.bn (fH vs v) (.ret [(d,v)])
def DC(C:Ctx)(d:Nat)(mx:Bool)(args:List Operand):M (List (Nat×V)):=
 match args with
 | [x,y]=>(cK C 0 x).bind λu=>(cK C 0 y).bind λv=>match u,v with
  | .d _ _ (.int k) m,.d _ _ (.int _) n=>.ret [(d,.d none 0 (.int k) (cond mx (if m<n then n else m) (if n<m then n else m)))]
  | _,_=>.fail
 | _=>.fail
def V9(C:Ctx)(vs:List Nat)(X:TypeId)(d:Nat)(x:Operand):M (List (Nat×V)):=
 (cK C X x).bind λv=>match v with
 | .d l k t y=>if C.ty X=some t/\(k=0\/t.depth=0)then .bn (fH vs (.box l 0 t y)) (.ret [(d,.box l 0 t y)])else .fail
 | _=>.fail
def DI(C:Ctx)(vs:List Nat)(N d:Nat)(X:TypeId)(x:Operand)(hx:Nat->Nat->Option Nat):M (List (Nat×V)):=
 match x with
 | .tmp s=>.get s λv=>match v with
  | .bF _=>.bn (decide (d<N)) (ab3 vs N d s (hx d))
  | _=>Cs C vs N d X x
 | _=>Cs C vs N d X x
def tmpsOf:List Operand->List Nat
 | []=>[]
 | .tmp s::l=>s::tmpsOf l
 | _::l=>tmpsOf l
def akE(C:Ctx)(X:TypeId)(s x:Operand):List Nat :=
 match C.ty X with
 | some (.slice _ t)=>if t.depth=0 then tmpsOf [s]else tmpsOf [s,x]
 | _=>[]
structure Hints where
 hx:Nat->Nat->Option Nat
 bx:Nat->Bool
 kids:Nat->List Nat
def arx(C:Ctx)(vs:List Nat)(N:Nat)(hx:Hints)(X:TypeId)(t:Nat)(x:Operand):M (List (Nat×V)):=
 .get t λv=>match addrOf t v with
 | none=>.fail
 | some (r,p)=>.get r λu=>match u with
  | .hole u' p'=>JI C vs N (hx.kids r) X r p u' p' x
  | _=>(λm=>cond (hx.bx (3000+r)) (Lj C vs N (hx.kids r) X r p u x m) m) <| match p with
   | []=>cond (hx.bx r) (Ej C vs N (hx.kids r) X r u x (lG C vs N (some (hx.kids r)) X t x)) (lG C vs N none X t x)
   | _::_=>cond (hx.bx r) (Mn C N (hx.kids r) X r p u x (lG C vs N (some (hx.kids r)) X t x)) (cond (hx.bx (5000+r)) (Mo C N (hx.kids r) X r p u x (lG C vs N none X t x)) (lG C vs N none X t x))
def ali(bj:cX)(f:FuncId):Bool:=match bj f with
 | some F=>(F.rs.any λp=>decide (p.2<p.1.depth)) || !p8 F.ps
 | none=>false
def aqt(bj:cX)(f:FuncId)(l:List Operand):List Operand:=match bj f with
 | some F=>((F.ps.zip l).filter λp=>match p.1.2 with | .ro=>true|_=>false).map (·.2)
 | none=>l
def Cu(C:Ctx)(d:Nat)(l:List Operand)(cJ:List TypeId)(m:M (List (Nat×V))):M (List (Nat×V)):=match cJ with
 | [X]=>match C.ty X with
  | some (.slice _ _)=>Ji d l m
  | _=>m
 | _=>m
def Mk(C:Ctx)(bj:cX)(vs:List Nat)(hx:Hints)(N:Nat)(o:Oper):M (List (Nat×V)):=
 match o.dst with
 | none=>match o.op with
  | .store X (.tmp t) x=>tE 1 N (cond (hx.bx (9000+t)) [t] []) <| qy N (cond (hx.bx (8000+t)) (tmpsOf [x]) []) (qH vs N (cond (hx.bx (7000+t)) (tmpsOf [x]) []) (mR N hx.kids (tmpsOf [x]) (arx C vs N hx X t x)))
  | _=>.fail
 | some d=>match o.op with
  | .move x=>cond (hx.bx (10000+d)) (match x with
   | .tmp t=>eM N d ((aa9 t ((C.ty ((hx.kids (10000+d)).headD 0)).getD .unit)).bind λv=>.bn (fH vs v) (.ret [(d,v)]))
   | _=>.fail) (cond (hx.bx (6000+d)) (eM N d (Lt C d true o.type x (vX vs N d (hx.bx (1000+d)) x (DI C vs N d o.type x hx.hx)))) (vX vs N d (hx.bx (1000+d)) x (DI C vs N d o.type x hx.hx)))
  | .load X (.tmp t)=>xM N t (cond (hx.bx (1000+d)) (Jx C N X d t) (eM N d (mM C vs d o)))
  | .nilCheck (.tmp t)=>xM N t (eM N d (mM C vs d o))
  | .makeFunc (.func g) ⟨[]⟩ hZ=>tO N (tmpsOf hZ.toList) (eM N d (Wm d g hZ.toList))
  | .indexAddr X (.tmp t) y=>eM N d (Jv C vs X d t y (mM C vs d o))
  | .assign x=>Cs C vs N d o.type x
  | .box X x=>eM N d (I9 C vs X d x (V9 C vs X d x))
  | .build X parts=>mR N hx.kids (tmpsOf (parts.toList.map (·.2))) (eM N d (I8 C vs X d parts.toList))
  | .buildSlice X len parts=>qH vs N (cond (hx.bx (7000+d)) (tmpsOf (parts.toList.map (·.2))) []) (mR N hx.kids (tmpsOf (parts.toList.map (·.2))) (eM N d (LZ C vs X d len parts.toList)))
  | .extract (.tmp s) i=>Mh vs N s (hx.hx s) (.bn (decide (d<N)) (WJ vs d (.tmp s) i))
  | .slice X (.tmp s) lo hi none=>eM N d (Js C vs N d (hx.bx (6000+d)) X s lo hi (mM C vs d o))
  | .fieldAddr X (.tmp t) f=>xM N t (cond (hx.bx t) (eM N d ((WK C X f t).bind λv=>.bn (fH vs v) (.ret [(d,v)]))) (eM N d (mM C vs d o)))
  | .call c=>match c.callee with
   | .value (.func f)=>tE 1 N (cond (hx.bx (9000+d)) ((tmpsOf c.args.toList).filter λs => !vs.contains s) []) <| qy N (cond (ali bj f) ((tmpsOf (aqt bj f c.args.toList)).filter λs => !vs.contains s) []) (eM N d ((Jg C bj vs N d f c.args.toList).bind (D3 vs N d (hx.hx d))))
   | .value (.tmp s)=>eM N d ((Jb C bj vs d s c.args.toList).bind (D3 vs N d (hx.hx d)))
   | .builtin .max=>eM N d (DC C d true c.args.toList)
   | .builtin .len=>eM N d (Cu C d c.args.toList c.argTypes.toList (Jw C d c.args.toList c.argTypes.toList (mM C vs d o)))
   | .builtin .cap=>eM N d (Cu C d c.args.toList c.argTypes.toList .fail)
   | .builtin .min=>eM N d (DC C d false c.args.toList)
   | .builtin .append=>match c.args,c.argTypes with
    | ⟨[s,x]⟩,⟨[X,X2]⟩=>mR N hx.kids (akE C X s x) (eM N d (MM C d X X2 s x (IU C vs d X X2 s x)))
    | _,_=>.fail
   | _=>eM N d (mM C vs d o)
  | _=>eM N d (mM C vs d o)
section
variable{P:Program}{C:Ctx}{w w' w0:World}{L L' L0:Nat->aj}{N:Nat}{vs:List Nat}{T T':List V}{a:Act}
theorem fE(h:(eM N d m).ai T ups log):(T.getD d .dead).idle=true/\d<N/\∃log,m.ai T ups log:=by
 obtain⟨aG,rfl,hc,h⟩:=h;simp only[Bool.and_eq_true,decide_eq_true_eq]at hc;exact⟨hc.1,hc.2,aG,h⟩
theorem q5[af](hI:Inv w0 L0 N vs T a w L)(hC:bD P C)(aB:o.dst=some d)(hd:d<N)(hid:(T.getD d .dead).idle=true)
  (h:(mM C vs d o).ai T ups log):Step P o w0 L0 N vs (ah T ups) a w:=by
 obtain⟨v,l1,l2,rfl,h1,aC,rfl,_⟩:=M.aq h;intro K Q hK;exact aL.inv hI hd hid aB (aqi hI hC hid (qN aC) h1) hK
theorem abK[af](hI:Inv w0 L0 N vs T a w L){mx:Bool}(ho:o.op = .call { callee:=.builtin (cond mx .max .min),args,argTypes:=cJ })(aB:o.dst=some d)(hd:d<N)(hid:(T.getD d .dead).idle=true)
  (h:(DC C d mx args.toList).ai T ups log):Step P o w0 L0 N vs (ah T ups) a w:=by
 obtain⟨args⟩:=args;dsimp only at h;unfold DC at h;split at h
 ·rename_i x y;obtain⟨u,l1,l2,rfl,h1,h⟩:=M.aq h;obtain⟨v,l3,l4,rfl,h2,h⟩:=M.aq h;split at h
  ·rename_i l n k m l' n' k' m' _;obtain⟨rfl,_⟩:=h;have hx:=gX hI h1;have hy:=gX hI h2;have cm:aL P o vs T a w L d (.d none 0 (.int k) (cond mx (if m<m' then m' else m) (if m'<m then m' else m))):=by
    refine aL.still hI ?_ (λ_=>rfl) aD.mkInt;cases mx with
    | true=>simp[execOp,ho,resolve,invoke,builtin,Builtin.max_,Builtin.max2,hx,hy]
    | false=>simp[execOp,ho,resolve,invoke,builtin,Builtin.min_,Builtin.min2,hx,hy]
   intro K Q hK;exact aL.inv hI hd hid aB cm hK
  ·exact h.elim
 ·exact h.elim
theorem aq1[af](hI:Inv w0 L0 N vs T a w L)(hC:bD P C){x:Operand}(ho:o.op = .box X x)(aB:o.dst=some d)(hd:d<N)(hid:(T.getD d .dead).idle=true)
  (h:(V9 C vs X d x).ai T ups log):Step P o w0 L0 N vs (ah T ups) a w:=by
 obtain⟨v,l1,l2,rfl,h1,h2⟩:=M.aq h;split at h2
 ·rename_i l k t y;split at h2
  ·rename_i hc;obtain⟨hX,hk⟩:=hc;obtain⟨aC,rfl,_⟩:=h2;have dM:∃s0,aD L T a.tmps s0 (.d l k t y) w (a.eval x):=by
    rcases kH hI h1 with⟨s,_,_,hs⟩|⟨_,hs⟩
    ·exact⟨s,hs⟩
    ·exact⟨0,hs _ _ _ _ _⟩
   obtain⟨s0,cF,cs,hf,bQ⟩:=dM;have dh:=Form.cells hf (Own.one bQ);have aP:(execOp a.eval o).run P w = .ok (.value (.pointer (some ⟨w.heap.size,0,none⟩))) (w.alloc (.cells (a.eval x).cells X)):=by
    simp[execOp,ho,Instr.box,newVar,newRow,newObj,Sem.run]
   have cm:aL P o vs T a w L d (.box l 0 t y):=by
    refine⟨_,_,_,aP,ew.alloc hI d [] _,λ_ _ _ _=>rfl,qN aC,λr hr=>?_,w.heap.size,(a.eval x).cells,X,rfl,by simp,o3 _ _,?_,?_⟩
    ·have:=cF r hr;rw[aH,if_neg (λe=>di hid (V.fq this) e.1)];exact this
    ·rw[<-Array.length_toList,dh,Own.len bQ]
    ·rw[dh];have h0:=Own.eQ (Own.bA (s':=0) (q':=[]) (o':=0) (n':=0) hk bQ (.inl rfl));refine Own.dP (Rd.move (λk hk=>?_) h0);have ax:k<w.heap.size:=hI.lt (by rcases hk with hk|⟨_,_,_,hk⟩<;>rw[hk]<;>simp);refine⟨?_,Go.RowKit.Below.heap_alloc w _ k ax⟩;unfold SL;dsimp only;rw[if_neg (by omega)];exact hk
   intro K Q hK;exact aL.inv hI hd hid aB cm hK
  ·exact h2.elim
 ·exact h2.elim
theorem vK[af](hI:Inv w0 L0 N vs T a w L){t r:Nat}{p:List St}(he:addrOf t (T.getD t .dead)=some (r,p)):∃g,a.eval (.tmp t) = .pointer (some ⟨g,(node [] 0 p).2,none⟩)/\L g = .own r (node [] 0 p).1:=by
 have ba:=hI.aY t;generalize T.getD t .dead=v at he ba;cases v with
 | ptr r2 p2 t2 =>
  simp only[addrOf,Option.some.injEq,Prod.mk.injEq]at he;obtain⟨rfl,rfl⟩:=he;exact ba
 | box l n t2 x2 =>
  simp only[addrOf,Option.some.injEq,Prod.mk.injEq]at he;obtain⟨rfl,rfl⟩:=he;obtain⟨_,g,cur,e,h1,h2,_⟩:=ba;exact⟨g,h1,h2⟩
 | dead=>cases he
 | bF _=>cases he
 | d _ _ _ _=>cases he
 | rp _ _ _=>cases he
 | view _ _ _=>cases he
 | hole _ _=>cases he
 | part _ _ _ _ _=>cases he
 | bP _ _ _ _=>cases he
 | same _ _=>cases he
theorem abJ[af](hI:Inv w0 L0 N vs T a w L)(hC:bD P C){b:Builtin}(hb:b = .cap\/b = .len)      
  (ho:o.op = .call { callee:=.builtin b,args,argTypes:=cJ }) (aB:o.dst=some d) (hd:d<N) (hid:(T.getD d .dead).idle=true)
  (h:(Cu C d args.toList cJ.toList m).ai T ups log) (hm:∀log,m.ai T ups log->Step P o w0 L0 N vs (ah T ups) a w):Step P o w0 L0 N vs (ah T ups) a w:=by
 unfold Cu at h;split at h
 ·rename_i X hX;split at h
  ·rename_i e t hCX;refine arb hI hb (λX' sQ=>?_) ?_ ho aB hd hid h hm
   ·have:X'=X:=by
     have h0:cJ.toList[0]?=some X':=by simpa using sQ
     rw[hX]at h0;simpa using h0.symm
    subst this;exact⟨e,(hC _ _ hCX).b7.1⟩
   ·have:=congrArg List.length hX;simpa using this
  ·exact hm _ h
 ·exact hm _ h
theorem aq0[af](mn:P.follows .mixedOrders=true)(hC:bD P C){bj:cX}(ej:fC P bj){hx:Hints}{E:Env}(hE:E.step=Mk C bj vs hx E.N):sj P w0 L0 vs E:=by
 refine⟨mn,?_⟩;intro o T ups log a w L hI h;rw[hE]at h;unfold Mk at h;have Yq:∀{d:Nat},o.dst=some d->(eM E.N d (mM C vs d o)).ai T ups log->Step P o w0 L0 E.N vs (ah T ups) a w:=by
  intro d aB h;obtain⟨h1,h2,log,h3⟩:=fE h;exact q5 hI hC aB h2 h1 h3
 split at h
 ·rename_i aB;split at h
  ·rename_i X t x ho;obtain⟨T8,L8,aw9,apm,JX,h,Ky⟩:=Dx hI h;rw[Ky];obtain⟨T9,L9,axX,axS,hI9,h,amZ⟩:=xf JX h;rw[amZ];obtain⟨T0,L00,aw8,Lc,JW,h,Kx⟩:=xk hI9 h;rw[Kx];obtain⟨T1,L1,bH,log2,bw,h,eV⟩:=ot JW h;rw[eV];obtain⟨l1,rfl,h⟩:=h;dsimp only at h;split at h
   ·exact h.elim
   ·rename_i r p wo;obtain⟨l2,rfl,h⟩:=h;dsimp only at h;split at h
    ·rename_i u' p' xc;exact ark bw hC ho aB wo (λr p=>vK bw) xc h
    ·have hold:∀log,(match p with
       | []=>cond (hx.bx r) (Ej C vs E.N (hx.kids r) X r (T1.getD r .dead) x (lG C vs E.N (some (hx.kids r)) X t x)) (lG C vs E.N none X t x)
       | _::_=>cond (hx.bx r) (Mn C E.N (hx.kids r) X r p (T1.getD r .dead) x (lG C vs E.N (some (hx.kids r)) X t x)) (cond (hx.bx (5000+r)) (Mo C E.N (hx.kids r) X r p (T1.getD r .dead) x (lG C vs E.N none X t x)) (lG C vs E.N none X t x)):M (List (Nat×V))).ai T1 bH log->Step P o w0 L0 E.N vs (ah T1 bH) a w:=by
      intro log h;split at h
      ·cases hb:hx.bx r with
       | true =>
        rw[hb,cond_true]at h;exact art bw hC ho aB wo (λr p=>vK bw) rfl (λh=>xR bw hC ho aB h) h
       | false =>
        rw[hb,cond_false]at h;exact xR bw hC ho aB h
      ·cases hb:hx.bx r with
       | true =>
        rw[hb,cond_true]at h;exact arp bw hC ho aB wo (λr p=>vK bw) rfl h (λ_ h=>xR bw hC ho aB h)
       | false =>
        rw[hb,cond_false]at h;cases XC:hx.bx (5000+r)with
        | true =>
         rw[XC,cond_true]at h;exact arq bw hC ho aB wo (λr p=>vK bw) rfl h (λ_ h=>xR bw hC ho aB h)
        | false =>
         rw[XC,cond_false]at h;exact xR bw hC ho aB h
     cases XB:hx.bx (3000+r)with
     | true =>
      rw[XB,cond_true]at h;exact arl bw hC ho aB wo (λr p=>vK bw) rfl h hold
     | false =>
      rw[XB,cond_false]at h;exact hold _ h
  ·exact h.elim
 ·rename_i d aB;split at h
  ·rename_i x ho;have hold:∀log,(vX vs E.N d (hx.bx (1000+d)) x (DI C vs E.N d o.type x hx.hx)).ai T ups log->Step P o w0 L0 E.N vs (ah T ups) a w:=by
    intro log h;refine ari hI (.inl ho) aB h (λlog h=>?_);unfold DI at h;split at h
    ·rename_i s;obtain⟨aG,rfl,h⟩:=h;dsimp only at h;split at h
     ·obtain⟨hd,h⟩:=h;exact ars hI (.inl ho) aB (by simpa using hd) h
     ·exact Ml hI (.inl ho) aB h
    ·exact Ml hI (.inl ho) aB h
   cases XA:hx.bx (10000+d)with
   | true =>
    rw[XA,cond_true]at h;split at h
    ·rename_i t;obtain⟨h1,h2,log,h3⟩:=fE h;obtain⟨v,l1,l2,rfl,h4,aC,rfl,_⟩:=M.aq h3;intro K Q hK;exact aL.inv hI h2 h1 aB (aqe hI ho h4 (qN aC)) hK
    ·exact h.elim
   | false =>
   rw[XA,cond_false]at h;cases hb:hx.bx (6000+d)with
   | false=>rw[hb]at h;exact hold _ h
   | true =>
    rw[hb,cond_true]at h;obtain⟨h1,h2,log,h3⟩:=fE h;exact arn hI hC (.inl ho) aB h2 h1 h3 hold
  ·rename_i X t ho;obtain⟨T1,L1,bH,log2,bw,h,eV⟩:=L3 hI h;rw[eV];cases hb:hx.bx (1000+d)with
   | true=>rw[hb,cond_true]at h;exact arh bw hC ho aB h
   | false =>
    rw[hb,cond_false]at h;obtain⟨h1,h2,log,h3⟩:=fE h;exact q5 bw hC aB h2 h1 h3
  ·rename_i t ho;obtain⟨T1,L1,bH,log2,bw,h,eV⟩:=L3 hI h;rw[eV];obtain⟨h1,h2,log,h3⟩:=fE h;exact q5 bw hC aB h2 h1 h3
  ·rename_i g hZ ho;obtain⟨T1,L1,bH,log2,bw,h,eV⟩:=DU hI h;rw[eV];obtain⟨h1,h2,log,h3⟩:=fE h;exact arc bw ho aB h2 h1 h3
  ·rename_i X t y ho;obtain⟨h1,h2,log,h3⟩:=fE h;exact are hI hC ho aB h2 h1 h3 (λ_ hm=>q5 hI hC aB h2 h1 hm)
  ·rename_i x ho;exact Ml hI (.inr ho) aB h
  ·rename_i X x ho;obtain⟨h1,h2,log,h3⟩:=fE h;exact aq3 hI hC ho aB h2 h1 h3 (λ_ hm=>aq1 hI hC ho aB h2 h1 hm)
  ·rename_i X parts ho;obtain⟨T1,L1,bH,log2,bw,h,eV⟩:=ot hI h;rw[eV];obtain⟨h1,h2,log,h3⟩:=fE h;exact aq2 bw hC ho aB h2 h1 h3
  ·rename_i X len parts ho;obtain⟨T0,L00,aw8,Lc,JW,h,Kx⟩:=xk hI h;rw[Kx];obtain⟨T1,L1,bH,log2,bw,h,eV⟩:=ot JW h;rw[eV];obtain⟨h1,h2,log,h3⟩:=fE h;exact aro bw hC ho aB h2 h1 h3
  ·rename_i s i ho;obtain⟨T1,L1,bH,log2,bw,h,eV⟩:=aqU hI h;rw[eV];obtain⟨hd,h⟩:=h;exact arj bw ho aB (by simpa using hd) h
  ·rename_i X s lo hi ho;obtain⟨h1,h2,log,h3⟩:=fE h;exact ard hI hC ho aB h2 h1 h3 (λ_ hm=>q5 hI hC aB h2 h1 hm)
  ·rename_i X t f ho;obtain⟨T1,L1,bH,log2,bw,h,eV⟩:=L3 hI h;rw[eV];cases hb:hx.bx t with
   | false =>
    rw[hb]at h;obtain⟨h1,h2,log,h3⟩:=fE h;exact q5 bw hC aB h2 h1 h3
   | true =>
    rw[hb]at h;obtain⟨h1,h2,log,h3⟩:=fE h;obtain⟨v,l1,l2,rfl,h4,aC,rfl,_⟩:=M.aq h3;intro K Q hK;exact aL.inv bw h2 h1 aB (ap5 bw hC ho h4 (qN aC)) hK
  ·rename_i c ho;split at h
   ·rename_i f hf;obtain⟨T8,L8,aw9,apm,JX,h,Ky⟩:=Dx hI h;rw[Ky];obtain⟨T1,L1,bH,log2,bw,h,eV⟩:=xf JX h;rw[eV];obtain⟨h1,h2,log,h3⟩:=fE h;obtain⟨callee,args,cJ⟩:=c;dsimp only at hf h3;subst hf;exact abN bw h3 (λ_ _ h3=>ara bw ej ho aB h2 h1 h3)
   ·rename_i s hf;obtain⟨h1,h2,log,h3⟩:=fE h;obtain⟨callee,args,cJ⟩:=c;dsimp only at hf h3;subst hf;exact abN hI h3 (λ_ _ h3=>aq5 hI ej ho aB h2 h1 h3)
   ·rename_i hf;obtain⟨h1,h2,log,h3⟩:=fE h;obtain⟨callee,args,cJ⟩:=c;dsimp only at hf h3;subst hf;exact abK hI (mx:=true) (by rw[ho];rfl) aB h2 h1 h3
   ·rename_i hf;obtain⟨h1,h2,log,h3⟩:=fE h;obtain⟨callee,args,cJ⟩:=c;dsimp only at hf h3;subst hf;exact abJ hI hC (.inr rfl) ho aB h2 h1 h3 (λ_ hm=>arf hI hC ho aB h2 h1 hm (λ_ hm=>q5 hI hC aB h2 h1 hm))
   ·rename_i hf;obtain⟨h1,h2,log,h3⟩:=fE h;obtain⟨callee,args,cJ⟩:=c;dsimp only at hf h3;subst hf;exact abJ hI hC (.inl rfl) ho aB h2 h1 h3 (λ_ hm=>hm.elim)
   ·rename_i hf;obtain⟨h1,h2,log,h3⟩:=fE h;obtain⟨callee,args,cJ⟩:=c;dsimp only at hf h3;subst hf;exact abK hI (mx:=false) (by rw[ho];rfl) aB h2 h1 h3
   ·rename_i hf;obtain⟨callee,args,cJ⟩:=c;dsimp only at hf h;subst hf;split at h
    ·rename_i s x X X2;obtain⟨T1,L1,bH,log2,bw,h,eV⟩:=ot hI h;rw[eV];obtain⟨h1,h2,log,h3⟩:=fE h;exact aru bw hC ho aB h2 h1 h3 (λ_ hm=>step_append bw hC ho aB h2 h1 hm)
    ·exact h.elim
   ·exact Yq aB h
  ·exact Yq aB h
end
def LW(t:Ty)(n s:Nat)(v:V):M (t.den×Option Nat×List Nat):=
 if t.depth=0\/n=0 then (mN s v).bind λz=>if h:z.2.1=t then .ret (h▸z.2.2,none,if t.depth=0 then []else z.1.toList)else .fail
 else match v with
  | .d none k t' y=>if h:t'=t then (if n<=k then .ret (h▸y,some s,[])else .fail)else .fail
  | .view r [] _=>.get r λu=>match u with
   | .d none k t' y=>if h:t'=t then (if n<=k then .ret (h▸y,some r,[])else .fail)else .fail
   | _=>.fail
  | _=>.fail
structure Src where
 s:Nat
 o:Nat
 sz:Nat
 n:Nat
structure UM (rs:List (Ty×Nat)) where
 x:(cV rs).den
 ss:List Src
 ls:List Nat
inductive RV where
 | tmp (s:Nat)
 | cell (s:Nat) (X:TypeId)
def RV.slot:RV->Nat
 | .tmp s=>s
 | .cell s _=>s
def RV.var:RV->ResultVar
 | .tmp s=>.tmp s
 | .cell s X=>.cell s X
def LU(C:Ctx)(X:TypeId)(t:Ty)(n s:Nat)(v:V):M (t.den×Option Nat×List Nat):=
 match v with
 | .box none k t' y=>if h:t'=t then
   if C.ty X=some t then
    (if t.depth=0\/n=0 then .ret (h▸y,none,if t.depth=0 then []else [s])else if n<=k then .ret (h▸y,some s,[])else .fail)
   else .fail
  else .fail
 | _=>.fail
def abi(C:Ctx)(t:Ty)(n:Nat)(rv:RV)(v:V):M (t.den×Option Nat×List Nat):=
 match rv with
 | .tmp s=>LW t n s v
 | .cell s X=>LU C X t n s v
def LV(C:Ctx):Nat->(rs:List (Ty×Nat))->List RV->M (UM rs)
 | _,[],[]=>.ret ⟨(),[],[]⟩
 | o,(t,n)::rs,rv::sl=>.get rv.slot λv=>(abi C t n rv v).bind λy=>(LV C (o+t.sz) rs sl).bind λr =>
   .ret ⟨(y.1,r.x),(match y.2.1 with|some s'=>⟨s',o,t.sz,n⟩::r.ss|none=>r.ss),y.2.2++r.ls⟩
 | _,_,_=>.fail
def yo(P:Program)(w:World)(a:Act):RV->Value->Prop
 | .tmp s,c=>c=a.tmps.getD s undef
 | .cell s X,c=>∃A,a.tmps.getD s undef = .pointer (some A)/\(loadVar X A).run P w = .ok c w
def rz(P:Program)(w:World)(a:Act):List RV->List Value->Prop
 | [],cs=>cs=[]
 | rv::l,cs=>∃c bl,cs=c::bl/\yo P w a rv c/\rz P w a l bl
def lA:Nat->(ps:List (Ty×Mode))->M ((cI ps).den×List (Nat×Nat))
 | _,[]=>.ret ((),[])
 | i,(t,.mut n)::ps=>.get i λv=>match v with
  | .d none k t' y=>if h:t'=t then (if k=n then (lA (i+1) ps).bind λr=>.ret ((h▸y,r.1),(i,i)::r.2)else .fail)else .fail
  | .view d [] tv=>.get d λu=>match u with
   | .box none k t' y=>if h:t'=t then (if k=n/\tv=t then (lA (i+1) ps).bind λr=>.ret ((h▸y,r.1),(d,i)::r.2)else .fail)else .fail
   | _=>.fail
  | _=>.fail
 | i,(t,.ptr n)::ps=>.get i λv=>match v with
  | .box none k t' y=>if h:t'=t then (if k=n then (lA (i+1) ps).bind λr=>.ret ((h▸y,r.1),(i,i)::r.2)else .fail)else .fail
  | _=>.fail
 | i,(_,.ro)::ps=>lA (i+1) ps
 | i,(_,.bV _)::ps=>lA (i+1) ps
def jF:Nat->List (Ty×Mode)->List Nat
 | _,[]=>[]
 | i,(_,.mut _)::ps=>i::jF (i+1) ps
 | i,(_,.ptr _)::ps=>i::jF (i+1) ps
 | i,(_,.ro)::ps=>jF (i+1) ps
 | i,(_,.bV _)::ps=>jF (i+1) ps
def JJ(C:Ctx)(ps:List (Ty×Mode))(rs:List (Ty×Nat))(sl:List RV):M (Ty.pair (cV rs) (cI ps)).den :=
 (LV C 0 rs sl).bind λr=>(lA 0 ps).bind λm =>
  .bn (cr (r.ss.map (·.s))&&r.ls.all (λl => !(r.ss.map (·.s)).contains l && !(m.2.map (·.1)).contains l)&&(m.2.map (·.1)).all (λi => !(r.ss.map (·.s)).contains i)&&cr (m.2.map (·.1))) (.ret (r.x,m.1))
def CG:(ps:List (Ty×Mode))->(rs:List (Ty×Nat))->List RV->M (Ty.pair (cV rs) (cI ps)).den
 | ps,[(t,n)],[.tmp s]=>.get s λv=>(sA s v).bind λz=>if h:z.2.t=t then (if z.2.n+1000=n then (lA 0 ps).bind λm=>.bn (cr (z.1::m.2.map (·.1))) (.ret ((h▸z.2.x,()),m.1))else .fail)else .fail
 | _,_,_=>.fail
def ig(m:Nat)(mu:List (Nat×Nat))(ss:List Src):aj->aj
 | .own s q=>match mu.find? (λp=>p.1==s)with
  | some p=>.own p.2 q
  | none=>match ss.find? (λp=>p.s==s)with
   | some p=>match q with
    | y::rest=>if y<p.sz then (if rest.length<p.n then .own m ((p.o+y)::rest)else .au)else .au
    | []=>.au
   | none=>.au
 | x=>x
theorem WR{s:Nat}(h:s∉mu.map (·.1)):mu.find? (λp=>p.1==s)=none:=by
 rw[List.find?_eq_none];intro p hp he;exact h (List.mem_map.2 ⟨p,hp,by simpa using he⟩)
theorem WQ{s j:Nat}(hn:cr (mu.map (·.1))=true)(h:(s,j)∈mu):mu.find? (λp=>p.1==s)=some (s,j):=by
 induction mu with
 | nil=>cases h
 | cons x l ih =>
  simp only[List.map_cons,cr,Bool.and_eq_true,Bool.not_eq_true']at hn;rcases List.mem_cons.1 h with rfl|hm
  ·simp
  ·have bo:x.1≠s:=λe=>by
    have:(l.map (·.1)).contains x.1=true:=by
     rw[List.contains_iff_mem,e];exact List.mem_map.2 ⟨(s,j),hm,rfl⟩
    rw[hn.1]at this;cases this
   rw[List.find?_cons_of_neg (by simpa using bo)];exact ih hn.2 hm
section
variable{P:Program}{C:Ctx}{w w' w0:World}{L L' L0:Nat->aj}{N:Nat}{vs:List Nat}{T T':List V}{a:Act}
theorem ak6[af]{m:Nat}{ss:List Src}{s:Nat}{q:List Nat}(h1:s∉mu.map (·.1))(h2:s∉ss.map (·.s)):ig m mu ss (.own s q) = .au:=by
 unfold ig;dsimp only;rw[WR h1];have:ss.find? (λp=>p.s==s)=none:=by
  rw[List.find?_eq_none];intro p hp he;exact h2 (List.mem_map.2 ⟨p,hp,by simpa using he⟩)
 rw[this]
theorem ak7[af]{m:Nat}{ss:List Src}{p:Src}(hn:cr (ss.map (·.s))=true)(h1:p.s∉mu.map (·.1))(hp:p∈ss){y:Nat}{rest:List Nat}(hy:y<p.sz):
  ig m mu ss (.own p.s (y::rest))=if rest.length<p.n then .own m ((p.o+y)::rest)else .au:=by
 unfold ig;dsimp only;rw[WR h1];have:ss.find? (λp'=>p'.s==p.s)=some p:=by
  clear h1 hy;induction ss with
  | nil=>cases hp
  | cons x l ih =>
   simp only[List.map_cons,cr,Bool.and_eq_true,Bool.not_eq_true']at hn;rcases List.mem_cons.1 hp with rfl|hp
   ·simp
   ·have bo:x.s≠p.s:=λe=>by
     have:(l.map (·.s)).contains x.s=true:=by
      rw[List.contains_iff_mem,e];exact List.mem_map_of_mem hp
     rw[hn.1]at this;cases this
    rw[List.find?_cons_of_neg (by simpa using bo)];exact ih hn.2 hp
 rw[this];dsimp only;rw[if_pos hy]
theorem aqr[af](hI:Inv w0 L0 N vs T a w L){s:Nat}{y:t.den}{src:Option Nat}{ls:List Nat}(h:(LW t n s (T.getD s .dead)).ai T (y,src,ls) log):
  ∃cells,Form t cells (a.tmps.getD s undef)/\(∀s',src=some s'->n≠0/\t.depth≠0) /\
   ∀(L':Nat->aj) (m o:Nat),(∀k,L k = .au->L' k = .au)->(∀k r q,r∈ls->L k = .own r q->L' k = .au) ->
    (∀s' k i rest,src=some s'->L k = .own s' (i::rest)->i<t.sz->(rest.length<n->L' k = .own m ((o+i)::rest))/\(n<=rest.length->L' k = .au)) ->
    Own w L' (λk=>L' k = .au) m n t y [] o cells:=by
 have hs:=hI.aY s;have Yk:∀{k:Nat} {cells:List Value} {s':Nat} {y:t.den},n<=k->Own w L (SL L none) s' k t y [] 0 cells->∀(L':Nat->aj) (m o:Nat),(∀k,L k = .au->L' k = .au) ->
    (∀k i rest,L k = .own s' (i::rest)->i<t.sz->(rest.length<n->L' k = .own m ((o+i)::rest))/\(n<=rest.length->L' k = .au)) ->
    Own w L' (λk=>L' k = .au) m n t y [] o cells:=by
  intro k cells s' y lj ho L' m o H1 H3;refine Own.fp lj (λk hk=>⟨?_,rfl⟩) (λk d rest hd hk=>?_) ho
  ·rcases hk with hk|⟨_,_,hk,_⟩
   ·exact H1 k hk
   ·cases hk
  ·have aI:L k = .own s' (d::rest):=by simpa using hk
   have:=H3 k d rest aI hd;exact⟨rfl,λh=>by simpa using this.1 h,this.2⟩
 unfold LW at h;split at h
 ·rename_i hc;obtain⟨⟨l,t',y'⟩,l1,l2,rfl,h1,h2⟩:=M.aq h;dsimp only at h2;split at h2
  ·rename_i ht;subst ht;obtain⟨h2,_⟩:=h2;cases h2;obtain⟨cells,hf,bC,cF⟩:=qR hI h1 hs (λ_=>rfl);refine⟨cells,hf,λs' h=>(by cases h),λL' m o H1 H2 _=>?_⟩;have h0:=Own.dP (L:=L) (s:=0) (q:=[]) (o:=0) bC;by_cases hd:t'.depth=0
   ·exact Own.flat hd h0
   ·have hn:n=0:=by omega
    subst hn;rw[if_neg hd]at H2;refine Own.dP (Rd.move (λk hk=>⟨?_,rfl⟩) bC);rcases hk with hk|⟨r,q,hl,hk⟩
    ·exact H1 k hk
    ·exact H2 k r q (by simp[hl]) hk
  ·exact h2.elim
 ·rename_i hc;have hc:=not_or.1 hc;generalize hv:T.getD s .dead=v at h hs;split at h
  ·rename_i k t' y';split at h
   ·rename_i ht;subst ht;split at h
    ·rename_i lj;obtain⟨h,_⟩:=h;cases h;obtain⟨_,cells,hf,ho⟩:=hs;exact⟨cells,hf,λ_ _=>⟨hc.2,hc.1⟩,λL' m o H1 _ H3=>Yk lj ho L' m o H1 (λk i rest hk hi=>H3 s k i rest rfl hk hi)⟩
    ·exact h.elim
   ·exact h.elim
  ·rename_i r t2;obtain⟨log2,rfl,h⟩:=h;dsimp only at h;split at h
   ·rename_i k t' y' hu;split at h
    ·rename_i ht;subst ht;split at h
     ·rename_i lj;obtain⟨h,_⟩:=h;cases h;obtain⟨_,h1⟩:=hs;have hr:=hI.aY r;rw[hu]at hr;obtain⟨_,cells,hf,ho⟩:=hr;refine⟨cells,?_,λ_ _=>⟨hc.2,hc.1⟩,λL' m o H1 _ H3=>Yk lj ho L' m o H1 (λk i rest hk hi=>H3 r k i rest rfl hk hi)⟩;rcases h1 with⟨_,h2,_⟩|⟨_,_,_,h2,_⟩
      ·rw[h2];exact hf
      ·rw[hu]at h2;simp[V.dG]at h2
     ·exact h.elim
    ·exact h.elim
   ·exact h.elim
  ·exact h.elim
theorem aqq[af](hI:Inv w0 L0 N vs T a w L)(hC:bD P C){s:Nat}{y:t.den}{src:Option Nat}{ls:List Nat}(h:(LU C X t n s (T.getD s .dead)).ai T (y,src,ls) log):
  ∃c cells,yo P w a (.cell s X) c/\Form t cells c/\(∀s',src=some s'->n≠0/\t.depth≠0) /\
   ∀(L':Nat->aj) (m o:Nat),(∀k,L k = .au->L' k = .au)->(∀k r q,r∈ls->L k = .own r q->L' k = .au) ->
    (∀s' k i rest,src=some s'->L k = .own s' (i::rest)->i<t.sz->(rest.length<n->L' k = .own m ((o+i)::rest))/\(n<=rest.length->L' k = .au)) ->
    Own w L' (λk=>L' k = .au) m n t y [] o cells:=by
 have hs:=hI.aY s;unfold LU at h;generalize hv:T.getD s .dead=v at h hs;split at h
 ·rename_i k t' y';split at h
  ·rename_i ht;subst ht;split at h
   ·rename_i hX;obtain⟨_,g,cur,e,h1,h2,h3,h4,h5⟩:=hs;obtain⟨c,aP,hf⟩:=(hC X t' hX).L5 (w:=w) (g:=g) (o:=0) (Own.len h5) (λi v hv=>by
     rw[Nat.zero_add,Jk h3];simpa using hv)
    have wF:yo P w a (.cell s X) c:=⟨_,h1,aP⟩;have ba:∀{L':Nat->aj},(∀k,L k = .au->L' k = .au)->∀k,SL L none k->L' k = .au/\w.heap[k]?=w.heap[k]?:=by
     intro L' H k hk;rcases hk with hk|⟨_,_,hk,_⟩
     ·exact⟨H k hk,rfl⟩
     ·cases hk
    split at h
    ·rename_i hc;obtain⟨h,_⟩:=h;cases h;refine⟨c,cur.toList,wF,hf,λs' h=>(by cases h),λL' m o H1 H2 _=>?_⟩;by_cases hd:t'.depth=0
     ·exact Own.flat hd h5
     ·have hn:n=0:=by omega
      subst hn;rw[if_neg hd]at H2;refine Own.dP (Own.rd (S':=λk=>L' k = .au) (λk q hk=>H2 k s q (by simp) hk) (λk hk=>(ba H1 k hk).1) h5)
    ·rename_i hc;have hc:=not_or.1 hc;split at h
     ·rename_i lj;obtain⟨h,_⟩:=h;cases h;refine⟨c,cur.toList,wF,hf,λ_ _=>⟨hc.2,hc.1⟩,λL' m o H1 _ H3=>?_⟩;refine Own.fp lj (ba H1) (λk d rest hd hk=>?_) h5;have aI:L k = .own s (d::rest):=by simpa using hk
      have:=H3 s k d rest rfl aI hd;exact⟨rfl,λh=>by simpa using this.1 h,this.2⟩
     ·exact h.elim
   ·exact h.elim
  ·exact h.elim
 ·exact h.elim
theorem aqs[af](hI:Inv w0 L0 N vs T a w L)(hC:bD P C){rv:RV}{y:t.den}{src:Option Nat}{ls:List Nat}(h:(abi C t n rv (T.getD rv.slot .dead)).ai T (y,src,ls) log):
  ∃c cells,yo P w a rv c/\Form t cells c/\(∀s',src=some s'->n≠0/\t.depth≠0) /\
   ∀(L':Nat->aj) (m o:Nat),(∀k,L k = .au->L' k = .au)->(∀k r q,r∈ls->L k = .own r q->L' k = .au) ->
    (∀s' k i rest,src=some s'->L k = .own s' (i::rest)->i<t.sz->(rest.length<n->L' k = .own m ((o+i)::rest))/\(n<=rest.length->L' k = .au)) ->
    Own w L' (λk=>L' k = .au) m n t y [] o cells:=by
 cases rv with
 | tmp s =>
  obtain⟨cells,h1,h2,h3⟩:=aqr hI (s:=s) h;exact⟨_,cells,rfl,h1,h2,h3⟩
 | cell s X=>exact aqq hI hC h
theorem abh[af](hI:Inv w0 L0 N vs T a w L)(hC:bD P C):{rs:List (Ty×Nat)}->{o:Nat}->{sl:List RV}->{R:UM rs}->{log:List Nat}->(LV C o rs sl).ai T R log ->
  ∃cs,rz P w a sl cs/\(∀p∈R.ss,o<=p.o/\∃t,(t,p.n)∈rs/\p.n≠0/\t.depth≠0)/\(∀p p',p∈R.ss->p'∈R.ss->p.s≠p'.s->p.o+p.sz<=p'.o\/p'.o+p'.sz<=p.o) /\
  ∀(L':Nat->aj) (m:Nat),(∀k,L k = .au->L' k = .au)->(∀k r q,r∈R.ls->L k = .own r q->L' k = .au) ->
   (∀p k i rest,p∈R.ss->L k = .own p.s (i::rest)->i<p.sz->(rest.length<p.n->L' k = .own m ((p.o+i)::rest))/\(p.n<=rest.length->L' k = .au)) ->
   jj w L' m o rs R.x cs
 | [],o,[],R,log,h=>by
  obtain⟨rfl,_⟩:=h;exact⟨[],rfl,by simp,by simp,λ_ _ _ _ _=>rfl⟩
 | (t,n)::rs,o,s::sl,R,log,h=>by
  obtain⟨aG,rfl,h⟩:=h;obtain⟨⟨y,src,ls⟩,l1,l2,rfl,h1,h⟩:=M.aq h;obtain⟨R',l3,l4,rfl,h2,h⟩:=M.aq h;obtain⟨rfl,_⟩:=h;obtain⟨c,cells,k0,k1,k2,k3⟩:=aqs hI hC h1;obtain⟨cs,j0,j1,j2,j3⟩:=abh hI hC h2;have gn:∀p,p∈(match src with|some s'=>(⟨s',o,t.sz,n⟩:Src)::R'.ss|none=>R'.ss)->(∃s',src=some s'/\p=⟨s',o,t.sz,n⟩)\/p∈R'.ss:=by
   intro p hp;cases src with
   | none=>exact .inr hp
   | some s' =>
    rcases List.mem_cons.1 hp with hp|hp
    ·exact .inl ⟨s',rfl,hp⟩
    ·exact .inr hp
  refine⟨c::cs,⟨c,cs,rfl,k0,j0⟩,λp hp=>?_,λp p' hp cC bo=>?_,λL' m H1 H2 H3=>?_⟩
  ·rcases gn p hp with⟨s',bN,rfl⟩|hp
   ·exact⟨Nat.le_refl _,t,by simp,(k2 s' bN).1,(k2 s' bN).2⟩
   ·obtain⟨e1,t',e2,e3,e4⟩:=j1 p hp;exact⟨by omega,t',by simp[e2],e3,e4⟩
  ·rcases gn p hp with⟨s',bN,rfl⟩|hp
   ·rcases gn p' cC with⟨s2,ef,rfl⟩|cC
    ·rw[bN]at ef;injection ef with ef;exact absurd ef bo
    ·exact .inl (j1 p' cC).1
   ·rcases gn p' cC with⟨s2,ef,rfl⟩|cC
    ·exact .inr (j1 p hp).1
    ·exact j2 p p' hp cC bo
  ·refine⟨c,_,cells,rfl,k1,k3 L' m o H1 (λk r q hr hk=>H2 k r q (List.mem_append_left _ hr) hk) (λs' k i rest bN hk hi=>?_),j3 L' m H1 (λk r q hr hk=>H2 k r q (List.mem_append_right _ hr) hk) (λp k i rest hp hk hi=>H3 p k i rest ?_ hk hi)⟩
   ·subst bN;exact H3 ⟨s',o,t.sz,n⟩ k i rest (by simp) hk hi
   ·cases src with
    | none=>exact hp
    | some s'=>exact List.mem_cons_of_mem _ hp
 | [],_,_::_,_,_,h=>h.elim
 | _::_,_,[],_,_,h=>h.elim
theorem aaG:{ps:List (Ty×Mode)}->{i s:Nat}->(s∈jF i ps↔i<=s/\∃t m,ps[s - i]?=some (t,m)/\m.back=true)
 | [],i,s=>by simp[jF]
 | (t,md)::ps,i,s=>by
  have ih:=aaG (ps:=ps) (i:=i+1) (s:=s);have key:(i+1<=s/\∃t' m,ps[s - (i+1)]?=some (t',m)/\m.back=true)↔(s≠i/\i<=s/\∃t' m,((t,md)::ps)[s - i]?=some (t',m)/\m.back=true):=by
   constructor
   ·rintro⟨h1,t',n',h2,h3⟩
    exact⟨by omega,by omega,t',n',by rw[show s - i=(s - (i+1))+1 by omega];simpa using h2,h3⟩
   ·rintro⟨hs,h1,t',n',h2,h3⟩
    refine⟨by omega,t',n',?_,h3⟩;rw[show s - i=(s - (i+1))+1 by omega]at h2;simpa using h2
  have put:md.back=true->((s=i\/s∈jF (i+1) ps)↔i<=s/\∃t' m,((t,md)::ps)[s - i]?=some (t',m)/\m.back=true):=by
   intro hm;rw[ih,key];constructor
   ·rintro (rfl|⟨_,h⟩)
    ·exact⟨Nat.le_refl _,t,md,by simp,hm⟩
    ·exact h
   ·intro h;by_cases hs:s=i
    ·exact .inl hs
    ·exact .inr ⟨hs,h⟩
  match md,key,put with
  | .mut n,_,put=>simpa only[jF,List.mem_cons]using put (by simp)
  | .ptr n,_,put=>simpa only[jF,List.mem_cons]using put (by simp)
  | .ro,key,_ =>
   simp only[jF];rw[ih,key];constructor
   ·exact λh=>h.2
   ·rintro⟨h1,t',m,h2,h3⟩
    refine⟨?_,h1,t',m,h2,h3⟩
    rintro rfl
    rw[Nat.sub_self]at h2;simp only[List.getElem?_cons_zero,Option.some.injEq,Prod.mk.injEq]at h2;rw[<-h2.2]at h3;cases h3
  | .bV _,key,_ =>
   simp only[jF];rw[ih,key];constructor
   ·exact λh=>h.2
   ·rintro⟨h1,t',m,h2,h3⟩
    refine⟨?_,h1,t',m,h2,h3⟩
    rintro rfl
    rw[Nat.sub_self]at h2;simp only[List.getElem?_cons_zero,Option.some.injEq,Prod.mk.injEq]at h2;rw[<-h2.2]at h3;cases h3
theorem qO[af](hI:Inv w0 L0 N vs T a w L){A0:List Value}:{ps:List (Ty×Mode)}->{i:Nat}->{y:(cI ps).den}->{mu:List (Nat×Nat)}->{log:List Nat}->(lA i ps).ai T (y,mu) log->ps.length=A0.length->(∀j,(∃t m,ps[j]?=some (t,m)/\m.back=true)->A0[j]?=some (a.tmps.getD (i+j) undef)) ->
  ∀(L':Nat->aj),(∀k,L k = .au->L' k = .au)->(∀k s j q,(s,j)∈mu->L k = .own s q->L' k = .own j q)->fV w L' i ps y A0
 | [],i,y,mu,log,h,hl,_,L',_,_=>by
  simp only[List.length_nil]at hl;exact List.eq_nil_of_length_eq_zero hl.symm
 | (t,.mut n)::ps,i,y,mu,log,h,hl,hA,L',H1,H2=>by
  cases A0 with
  | nil=>simp at hl
  | cons c A0 =>
   obtain⟨aG,rfl,h⟩:=h;have hs:=hI.aY i;have hc:c=a.tmps.getD i undef:=by
    have:=hA 0 ⟨t,.mut n,rfl,by simp⟩;simpa using this
   subst hc;have CS:∀j,(∃t m,ps[j]?=some (t,m)/\m.back=true)->A0[j]?=some (a.tmps.getD (i+1+j) undef):=λj hj=>by
    have:=hA (j+1) (by simpa using hj);rw[show i+1+j=i+(j+1)by omega];simpa using this
   generalize hv:T.getD i .dead=v at h hs;dsimp only at h;split at h
   ·rename_i k t' y';split at h
    ·rename_i ht;subst ht;split at h
     ·rename_i hk;subst hk;obtain⟨⟨r,mr⟩,l1,l2,rfl,h1,h2⟩:=M.aq h;obtain⟨h2,_⟩:=h2;injection h2 with h2 h3;subst h2 h3;obtain⟨_,cells,hf,ho⟩:=hs;refine⟨_,A0,cells,rfl,hf,?_,qO hI h1 (by simpa using hl) CS L' H1 (λk' s j q hm aI=>H2 k' s j q (List.mem_cons_of_mem _ hm) aI)⟩
      ·refine Own.move (λk' aI=>⟨?_,rfl⟩) (λk' d rest _ aI=>⟨H2 k' i i _ (by simp) aI,rfl⟩) ho;rcases aI with aI|⟨_,_,aI,_⟩
       ·exact H1 k' aI
       ·cases aI
     ·exact h.elim
    ·exact h.elim
   ·rename_i d tv;obtain⟨log2,rfl,h⟩:=h;have hd:=hI.aY d;generalize hu:T.getD d .dead=u at h hd;dsimp only at h;split at h
    ·rename_i k t' y';split at h
     ·rename_i ht;subst ht;split at h
      ·rename_i hk;obtain⟨rfl,rfl⟩:=hk;obtain⟨⟨r,mr⟩,l1,l2,rfl,h1,h2⟩:=M.aq h;obtain⟨h2,_⟩:=h2;injection h2 with h2 h3;subst h2 h3;obtain⟨_,cS⟩:=hs;rcases cS with⟨_,_,l0,n0,x0,kZ,_⟩|⟨g,cur,e,_,g1,g2,g3,g4⟩
       ·rw[hu]at kZ;cases kZ
       ·obtain⟨_,g',cur',e',_,j2,j3,j4,j5⟩:=hd;obtain rfl:=hI.inj g g' d _ g1 j2;rw[g2]at j3;injection j3 with j3;injection j3 with j3 _ _;subst j3;simp only[node,List.drop_zero]at g4;rw[List.take_of_length_le (by rw[Array.length_toList,j4];exact Nat.le_refl _)]at g4;refine⟨_,A0,cur.toList,rfl,g4,?_,qO hI h1 (by simpa using hl) CS L' H1 (λk' s j q hm aI=>H2 k' s j q (List.mem_cons_of_mem _ hm) aI)⟩;refine Own.move (λk' aI=>⟨?_,rfl⟩) (λk' dd rest _ aI=>⟨H2 k' d i _ (by simp) aI,rfl⟩) j5;rcases aI with aI|⟨_,_,aI,_⟩
        ·exact H1 k' aI
        ·cases aI
      ·exact h.elim
     ·exact h.elim
    ·exact h.elim
   ·exact h.elim
 | (t,.ptr n)::ps,i,y,mu,log,h,hl,hA,L',H1,H2=>by
  cases A0 with
  | nil=>simp at hl
  | cons c A0 =>
   obtain⟨aG,rfl,h⟩:=h;have hs:=hI.aY i;have hc:c=a.tmps.getD i undef:=by
    have:=hA 0 ⟨t,.ptr n,rfl,by simp⟩;simpa using this
   subst hc;have CS:∀j,(∃t m,ps[j]?=some (t,m)/\m.back=true)->A0[j]?=some (a.tmps.getD (i+1+j) undef):=λj hj=>by
    have:=hA (j+1) (by simpa using hj);rw[show i+1+j=i+(j+1)by omega];simpa using this
   generalize hv:T.getD i .dead=v at h hs;dsimp only at h;split at h
   ·rename_i k t' y';split at h
    ·rename_i ht;subst ht;split at h
     ·rename_i hk;subst hk;obtain⟨⟨r,mr⟩,l1,l2,rfl,h1,h2⟩:=M.aq h;obtain⟨h2,_⟩:=h2;injection h2 with h2 h3;subst h2 h3;obtain⟨_,g,cur,e,hf,hL,hg,hz,ho⟩:=hs;refine⟨_,A0,rfl,⟨g,cur,e,hf,H2 g i i _ (by simp) hL,hg,hz,?_⟩,qO hI h1 (by simpa using hl) CS L' H1 (λk' s j q hm aI=>H2 k' s j q (List.mem_cons_of_mem _ hm) aI)⟩;refine Own.move (λk' aI=>⟨?_,rfl⟩) (λk' d rest _ aI=>⟨H2 k' i i _ (by simp) aI,rfl⟩) ho;rcases aI with aI|⟨_,_,aI,_⟩
      ·exact H1 k' aI
      ·cases aI
     ·exact h.elim
    ·exact h.elim
   ·exact h.elim
 | (t,.ro)::ps,i,y,mu,log,h,hl,hA,L',H1,H2=>by
  cases A0 with
  | nil=>simp at hl
  | cons c A0 =>
   refine⟨c,A0,rfl,qO (ps:=ps) (i:=i+1) hI h (by simpa using hl) (λj hj=>?_) L' H1 H2⟩;have:=hA (j+1) (by simpa using hj);rw[show i+1+j=i+(j+1)by omega];simpa using this
 | (t,.bV _)::ps,i,y,mu,log,h,hl,hA,L',H1,H2=>by
  cases A0 with
  | nil=>simp at hl
  | cons c A0 =>
   refine⟨c,A0,rfl,qO (ps:=ps) (i:=i+1) hI h (by simpa using hl) (λj hj=>?_) L' H1 H2⟩;have:=hA (j+1) (by simpa using hj);rw[show i+1+j=i+(j+1)by omega];simpa using this
theorem tL:{ps:List (Ty×Mode)}->{i:Nat}->{y:(cI ps).den}->{mu:List (Nat×Nat)}->{log:List Nat}->(lA i ps).ai T (y,mu) log ->
  ∀s j,(s,j)∈mu->i<=j/\(∃t m,ps[j - i]?=some (t,m)/\m.back=true)/\∀s',(s',j)∈mu->s'=s
 | [],i,y,mu,log,h=>by
  obtain⟨h,_⟩:=h;injection h with _ h;subst h;simp
 | (t,.mut n)::ps,i,y,mu,log,h=>by
  obtain⟨aG,rfl,h⟩:=h;have key:∀{d:Nat} {y2:(cI ps).den} {mr:List (Nat×Nat)} {l:List Nat},(lA (i+1) ps).ai T (y2,mr) l->mu=(d,i)::mr->∀s j,(s,j)∈mu->i<=j/\(∃t' m',((t,Mode.mut n)::ps)[j - i]?=some (t',m')/\m'.back=true)/\∀s',(s',j)∈mu->s'=s:=by
   intro d y2 mr l h1 gp s j hm;subst gp;have ih:=tL h1;rcases List.mem_cons.1 hm with hm|hm
   ·injection hm with h2 h3;subst h2 h3;refine⟨Nat.le_refl _,⟨t,.mut n,by simp,by simp⟩,λs' bY=>?_⟩;rcases List.mem_cons.1 bY with bY|bY
    ·injection bY
    ·have:=(ih s' j bY).1;omega
   ·obtain⟨e1,⟨t',n',e2,lX⟩,e3⟩:=ih s j hm;refine⟨by omega,⟨t',n',by rw[show j - i=(j - (i+1))+1 by omega];simpa using e2,lX⟩,λs' bY=>?_⟩;rcases List.mem_cons.1 bY with bY|bY
    ·injection bY with _ h3;omega
    ·exact e3 s' bY
  generalize hv:T.getD i .dead=v at h;dsimp only at h;split at h
  ·split at h
   ·split at h
    ·obtain⟨⟨r,mr⟩,l1,l2,rfl,h1,h2⟩:=M.aq h;obtain⟨h2,_⟩:=h2;injection h2 with h2 h3;exact key h1 h3
    ·exact h.elim
   ·exact h.elim
  ·rename_i d tv;obtain⟨log2,rfl,h⟩:=h;generalize T.getD d .dead=u at h;dsimp only at h;split at h
   ·split at h
    ·split at h
     ·obtain⟨⟨r,mr⟩,l1,l2,rfl,h1,h2⟩:=M.aq h;obtain⟨h2,_⟩:=h2;injection h2 with h2 h3;exact key h1 h3
     ·exact h.elim
    ·exact h.elim
   ·exact h.elim
  ·exact h.elim
 | (t,.ptr n)::ps,i,y,mu,log,h=>by
  obtain⟨aG,rfl,h⟩:=h;have key:∀{d:Nat} {y2:(cI ps).den} {mr:List (Nat×Nat)} {l:List Nat},(lA (i+1) ps).ai T (y2,mr) l->mu=(d,i)::mr->∀s j,(s,j)∈mu->i<=j/\(∃t' m',((t,Mode.ptr n)::ps)[j - i]?=some (t',m')/\m'.back=true)/\∀s',(s',j)∈mu->s'=s:=by
   intro d y2 mr l h1 gp s j hm;subst gp;have ih:=tL h1;rcases List.mem_cons.1 hm with hm|hm
   ·injection hm with h2 h3;subst h2 h3;refine⟨Nat.le_refl _,⟨t,.ptr n,by simp,by simp⟩,λs' bY=>?_⟩;rcases List.mem_cons.1 bY with bY|bY
    ·injection bY
    ·have:=(ih s' j bY).1;omega
   ·obtain⟨e1,⟨t',n',e2,lX⟩,e3⟩:=ih s j hm;refine⟨by omega,⟨t',n',by rw[show j - i=(j - (i+1))+1 by omega];simpa using e2,lX⟩,λs' bY=>?_⟩;rcases List.mem_cons.1 bY with bY|bY
    ·injection bY with _ h3;omega
    ·exact e3 s' bY
  generalize hv:T.getD i .dead=v at h;dsimp only at h;split at h
  ·split at h
   ·split at h
    ·obtain⟨⟨r,mr⟩,l1,l2,rfl,h1,h2⟩:=M.aq h;obtain⟨h2,_⟩:=h2;injection h2 with h2 h3;exact key h1 h3
    ·exact h.elim
   ·exact h.elim
  ·exact h.elim
 | (t,.ro)::ps,i,y,mu,log,h=>by
  intro s j hm;obtain⟨e1,⟨t',n',e2,lX⟩,e3⟩:=tL (ps:=ps) (i:=i+1) h s j hm;exact⟨by omega,⟨t',n',by rw[show j - i=(j - (i+1))+1 by omega];simpa using e2,lX⟩,e3⟩
 | (t,.bV _)::ps,i,y,mu,log,h=>by
  intro s j hm;obtain⟨e1,⟨t',n',e2,lX⟩,e3⟩:=tL (ps:=ps) (i:=i+1) h s j hm;exact⟨by omega,⟨t',n',by rw[show j - i=(j - (i+1))+1 by omega];simpa using e2,lX⟩,e3⟩
end
def Mode.val(t:Ty)(x:t.den):Mode->V
 | .ptr n=>.box none n t x
 | .mut n=>.d none n t x
 | .bV n=>.d none n t x
 | .ro=>.d none 0 t x
def zH(w:World)(L0:Nat->aj)(i:Nat)(t:Ty)(x:t.den)(c:Value):Mode->Prop
 | .ptr n=>uw w L0 (λk=>L0 k = .au) i n t x c
 | .mut n=>∃cells,Form t cells c/\Own w L0 (λk=>L0 k = .au) i n t x [] 0 cells
 | .bV n=>∃cells,Form t cells c/\Own w L0 (λk=>L0 k = .au) i n t x [] 0 cells
 | .ro=>∃cells,Form t cells c/\Own w L0 (λk=>L0 k = .au) i 0 t x [] 0 cells
def pf:(ps:List (Ty×Mode))->(dj ps).den->List V
 | [],_=>[]
 | (t,m)::ps,x=>m.val t x.1::pf ps x.2
def aS(N:Nat)(ps:List (Ty×Mode))(x:(dj ps).den):List V:=pf ps x++List.replicate (N - ps.length) .dead
def tH(C:Ctx)(bj:cX)(vs:List Nat)(N:Nat)(aT:Nat->Option Nat)(hx:Hints)(ps:List (Ty×Mode)):Env :=
 { step:=Mk C bj vs hx N,N:=N,pins:=λp=>(jF 0 ps).contains p,aT:=aT }
def JE(C:Ctx)(ps:List (Ty×Mode))(rs:List (Ty×Nat))(sl:List RV):Ex->List V->Option (Ty.pair (cV rs) (cI ps)).den
 | .ext _,_=>none
 | _,T=>(bif xn rs then JJ C ps rs sl else CG ps rs sl).runK T [] λ_ r=>some r
noncomputable def Lm(C:Ctx)(bj:cX)(vs:List Nat)(N:Nat)(aT:Nat->Option Nat)(hx:Hints)(ps:List (Ty×Mode))(rs:List (Ty×Nat))(sl:List RV)(c:Code):Fn :=
 { ps:=ps,rs:=rs,an:=λx=>az (tH C bj vs N aT hx ps) c (JE C ps rs sl) (aS N ps x) }
section
variable{P:Program}{C:Ctx}{w w' w0:World}{L L' L0:Nat->aj}{N:Nat}{vs:List Nat}{T T':List V}{a:Act}
theorem dX.cons{m:Mode}{i:Nat}{x:(dj ((t,m)::ps)).den}{cs:List Value}(h:dX w L0 i ((t,m)::ps) x cs):
  ∃c bl,cs=c::bl/\zH w L0 i t x.1 c m/\dX w L0 (i+1) ps x.2 bl:=by
 match m,x,h with
 | .ptr n,x,h=>exact h
 | .mut n,x,h =>
  obtain⟨c,bl,cells,h1,h2,h3,h4⟩:=h;exact⟨c,bl,h1,⟨cells,h2,h3⟩,h4⟩
 | .bV n,x,h =>
  obtain⟨c,bl,cells,h1,h2,h3,h4⟩:=h;exact⟨c,bl,h1,⟨cells,h2,h3⟩,h4⟩
 | .ro,x,h =>
  obtain⟨c,bl,cells,h1,h2,h3,h4⟩:=h;exact⟨c,bl,h1,⟨cells,h2,h3⟩,h4⟩
theorem dX.len[af]:{ps:List (Ty×Mode)}->{i:Nat}->{x:(dj ps).den}->{cs:List Value}->dX w L0 i ps x cs->cs.length=ps.length
 | [],_,_,_,h=>by simp only[dX]at h;subst h;rfl
 | (t,m)::ps,i,x,cs,h=>by
  obtain⟨c,bl,rfl,_,h⟩:=h.cons;simp[dX.len h]
theorem dX.get[af]:{ps:List (Ty×Mode)}->{i:Nat}->{x:(dj ps).den}->{cs:List Value}->dX w L0 i ps x cs->∀(s:Nat) (t:Ty) (m:Mode),ps[s]?=some (t,m) ->
  ∃y c,(pf ps x)[s]?=some (m.val t y)/\cs[s]?=some c/\zH w L0 (i+s) t y c m
 | [],_,_,_,_,s,t,m,h=>by simp at h
 | (t0,m0)::ps,i,x,cs,h,s,t,m,hs=>by
  obtain⟨c,bl,rfl,h1,h⟩:=h.cons;cases s with
  | zero =>
   simp only[List.getElem?_cons_zero,Option.some.injEq,Prod.mk.injEq]at hs;obtain⟨rfl,rfl⟩:=hs;exact⟨x.1,c,rfl,rfl,h1⟩
  | succ s =>
   obtain⟨y,c',e1,e2,e3⟩:=dX.get h s t m (by simpa using hs);exact⟨y,c',by simpa[pf]using e1,by simpa using e2,by rw[show i+(s+1)=i+1+s by omega];exact e3⟩
theorem Mode.axb{x:t.den}:{m:Mode}->m.owned t=true->(m.val t x).aM=true
 | .ro,h=>by cases h
 | .mut n,h=>h
 | .bV n,h=>h
 | .ptr n,_=>rfl
theorem Mode.axc{x:t.den}:{m:Mode}->(m.val t x).root=none
 | .ro=>rfl
 | .mut _=>rfl
 | .bV _=>rfl
 | .ptr _=>rfl
theorem zH.slot{i:Nat}{x:t.den}{c:Value}{T:List V}{tm:Array Value}:{m:Mode}->zH w L0 i t x c m->aD L0 T tm i (m.val t x) w c
 | .ro,h=>by
  obtain⟨cells,h1,h2⟩:=h;exact⟨by simp,cells,h1,Own.move (λk hk=>⟨.inl hk,rfl⟩) (λk d rest _ hk=>⟨hk,rfl⟩) h2⟩
 | .mut n,h=>by
  obtain⟨cells,h1,h2⟩:=h;exact⟨by simp,cells,h1,Own.move (λk hk=>⟨.inl hk,rfl⟩) (λk d rest _ hk=>⟨hk,rfl⟩) h2⟩
 | .bV n,h=>by
  obtain⟨cells,h1,h2⟩:=h;exact⟨by simp,cells,h1,Own.move (λk hk=>⟨.inl hk,rfl⟩) (λk d rest _ hk=>⟨hk,rfl⟩) h2⟩
 | .ptr n,h=>by
  obtain⟨g,cur,e,h1,h2,h3,h4,h5⟩:=h;exact⟨by simp,g,cur,e,h1,h2,h3,h4,Own.move (λk hk=>⟨.inl hk,rfl⟩) (λk d rest _ hk=>⟨hk,rfl⟩) h5⟩
theorem qB:{ps:List (Ty×Mode)}->{x:(dj ps).den}->(pf ps x).length=ps.length
 | [],_=>rfl
 | (t,m)::ps,x=>by simp[pf,qB]
theorem Mb[af]{x:(dj ps).den}(s:Nat):(aS N ps x).getD s .dead=((pf ps x)[s]?).getD .dead:=by
 unfold aS;rw[List.getD_eq_getElem?_getD];by_cases h:s<ps.length
 ·rw[List.getElem?_append_left (by rw[qB];exact h)]
 ·rw[List.getElem?_append_right (by rw[qB];omega),List.getElem?_eq_none (l:=pf ps x) (by rw[qB];omega)];rw[List.getElem?_replicate];split<;>rfl
theorem aqZ[af]{x:(dj ps).den}{args:Array Value}(hl:jQ w L0 ps)(ha:dX w L0 0 ps x args.toList)(hN:ps.length<=N)(vs:List Nat):
  Inv w L0 N vs (aS N ps x) { tmps:=args++Array.replicate (N - args.size) undef,defers:=[] } w L0:=by
 have hlen:args.size=ps.length:=by simpa using ha.len
 refine⟨by simp;omega,by simp[aS,qB];omega,rfl,⟨rfl,rfl,rfl,Nat.le_refl _,Nat.le_refl _,λ_ _ _=>⟨rfl,rfl⟩,hl.ij⟩,hl.free,hl.inj,λk s q h=>?_,λs r h=>?_,λs=>?_⟩
 ·obtain⟨t,m,h1,h2⟩:=hl.owner k s q h;obtain⟨y,c,e1,_⟩:=ha.get s t _ h1;rw[Mb,e1];exact Mode.axb h2
 ·rw[Mb]at h;cases hp:ps[s]? with
  | none =>
   rw[List.getElem?_eq_none (by rw[qB];exact List.getElem?_eq_none_iff.1 hp)]at h;simp[V.on,V.root]at h
  | some p =>
   obtain⟨t,m⟩:=p;obtain⟨y,c,e1,_⟩:=ha.get s t m hp;rw[e1]at h;unfold V.on at h;rw[Option.getD_some,Mode.axc]at h;cases h
 ·rw[Mb];cases hp:ps[s]? with
  | none =>
   rw[List.getElem?_eq_none (by rw[qB];exact List.getElem?_eq_none_iff.1 hp)];trivial
  | some p =>
   obtain⟨t,m⟩:=p;obtain⟨y,c,e1,e2,e3⟩:=ha.get s t m hp;rw[e1];have hs:s<args.size:=by rw[hlen];exact (List.getElem?_eq_some_iff.1 hp).1
   have hc:(args++Array.replicate (N - args.size) undef).getD s undef=c:=by
    rw[Array.getD_eq_getD_getElem?,Array.getElem?_append_left hs];rw[Array.getElem?_toList]at e2;rw[e2];rfl
   rw[Nat.zero_add]at e3;rw[Option.getD_some,hc];exact e3.slot
theorem CF{m:Nat}{ss:List Src}{l:aj}{s':Nat}{q':List Nat}(h:ig m mu ss l = .own s' q'):
  ∃s q,l = .own s q/\(((s,s')∈mu/\q'=q)\/∃p y rest,ss.find? (λp=>p.s==s)=some p/\q=y::rest/\y<p.sz/\s'=m/\q'=(p.o+y)::rest):=by
 cases l with
 | own s q =>
  unfold ig at h;dsimp only at h;split at h
  ·rename_i p hp;injection h with h1 h2;have n1:p.1=s:=by simpa using List.find?_some hp
   refine⟨s,_,rfl,.inl ⟨?_,h2.symm⟩⟩;have:=List.mem_of_find?_eq_some hp;rw[<-n1,<-h1];exact this
  ·split at h
   ·rename_i p hp;split at h
    ·split at h
     ·split at h
      ·injection h with h1 h2;exact⟨s,_,rfl,.inr ⟨p,_,_,hp,rfl,by assumption,h1.symm,h2.symm⟩⟩
      ·cases h
     ·cases h
    ·cases h
   ·cases h
 | au=>cases h
 | free=>cases h
 | other=>cases h
theorem ak9[af](hI:Inv w0 L0 N vs T a w L)(hC:bD P C){rs:List (Ty×Nat)}{sl:List RV}{r:(Ty.pair (cV rs) (cI ps)).den}{A0:List Value}(h:(JJ C ps rs sl).ai T r log)
  (hl:ps.length=A0.length) (hA:∀j,(∃t m,ps[j]?=some (t,m)/\m.back=true)->A0[j]?=some (a.tmps.getD j undef)) :
  ∃L' cs,rz P w a sl cs/\Left w0 w L0 L' ps rs/\jj w L' ps.length 0 rs r.1 cs/\fV w L' 0 ps r.2 A0:=by
 obtain⟨R,l1,l2,rfl,h1,h⟩:=M.aq h;obtain⟨⟨m,mu⟩,l3,l4,rfl,h2,hc,rfl,_⟩:=M.aq h;simp only[Bool.and_eq_true,List.all_eq_true,Bool.not_eq_true']at hc;obtain⟨⟨⟨cG,eB⟩,gp⟩,nR⟩:=hc;have Lv:∀{x:Nat} {l:List Nat},l.contains x=false->x∉l:=λh hm=>by rw[List.contains_iff_mem.2 hm]at h;cases h
 obtain⟨cs,k0,k1,k2,k3⟩:=abh hI hC h1;have nQ:=tL h2;have c7:∀p∈R.ss,p.s∉mu.map (·.1):=λp hp hm=>Lv (gp p.s hm) (List.mem_map_of_mem hp);refine⟨λk=>ig ps.length mu R.ss (L k),cs,k0,⟨hI.fr.os,hI.fr.tape,hI.fr.output,hI.fr.size,hI.fr.drawn,λk hk h0=>?_,λk hk=>by rw[hI.free k hk];rfl,λk k' s q e e'=>?_,λk s q e=>?_⟩,
  k3 _ _ (λk hk=>by rw[hk];rfl) (λk r q hr hk=>?_) (λp k i rest hp hk hi=>?_),qO hI h2 hl (λj hj=>by rw[Nat.zero_add];exact hA j hj) _ (λk hk=>by rw[hk];rfl) (λk s j q hm hk=>?_)⟩
 ·have:=hI.fr.aT k hk h0;refine⟨?_,this.2⟩;rw[this.1];rcases h0 with h0|h0<;>rw[h0]<;>rfl
 ·obtain⟨s1,q1,e1,e2⟩:=CF e;obtain⟨s2,q2,e3,e4⟩:=CF e';have ax:∀s j,(s,j)∈mu->j<ps.length:=λs j hs=>by
   obtain⟨_,⟨t,n,h,_⟩,_⟩:=nQ s j hs;exact (List.getElem?_eq_some_iff.1 (by simpa using h)).1
  rcases e2 with⟨h1,rfl⟩|⟨p,y,rest,h1,rfl,h3,rfl,rfl⟩
  ·rcases e4 with⟨h2,rfl⟩|⟨p,y,rest,h2,rfl,h3,rfl,_⟩
   ·obtain rfl:=(nQ s2 s h2).2.2 s1 h1;exact hI.inj k k' _ _ e1 e3
   ·exact absurd (ax _ _ h1) (Nat.lt_irrefl _)
  ·rcases e4 with⟨h2,rfl⟩|⟨p',y',fJ,h2,rfl,h4,_,h5⟩
   ·exact absurd (ax _ _ h2) (Nat.lt_irrefl _)
   ·injection h5 with h5 h6;subst h6;have m1:=List.mem_of_find?_eq_some h1;have m2:=List.mem_of_find?_eq_some h2;have n1:p.s=s1:=by simpa using List.find?_some h1
    have n2:p'.s=s2:=by simpa using List.find?_some h2
    by_cases hs:s1=s2
    ·subst hs;rw[h1]at h2;injection h2 with h2;subst h2;have:y=y':=by omega
     subst this;exact hI.inj k k' _ _ e1 e3
    ·have:=k2 p p' m1 m2 (by rw[n1,n2];exact hs);omega
 ·obtain⟨s1,q1,e1,e2⟩:=CF e;rcases e2 with⟨h1,rfl⟩|⟨p,y,rest,h1,rfl,h3,rfl,rfl⟩
  ·obtain⟨_,⟨t,n,h,h'⟩,_⟩:=nQ _ _ h1;exact .inr ⟨t,n,by simpa using h,h'⟩
  ·obtain⟨_,t,h2,h3,h4⟩:=k1 p (List.mem_of_find?_eq_some h1);exact .inl ⟨rfl,t,p.n,h2,.inl ⟨h3,h4⟩⟩
 ·rw[hk];have:=eB r hr;exact ak6 (Lv this.2) (Lv this.1)
 ·rw[hk,ak7 cG (c7 p hp) hp hi];exact⟨λh=>by rw[if_pos h],λh=>by rw[if_neg (by omega)]⟩
 ·rw[hk];unfold ig;dsimp only;rw[WQ nR hm]
theorem ak8[af](hI:Inv w0 L0 N vs T a w L){rs:List (Ty×Nat)}{sl:List RV}{r:(Ty.pair (cV rs) (cI ps)).den}{A0:List Value}(h:(CG ps rs sl).ai T r log)
  (hl:ps.length=A0.length) (hA:∀j,(∃t m,ps[j]?=some (t,m)/\m.back=true)->A0[j]?=some (a.tmps.getD j undef)) :
  ∃L' cs,rz P w a sl cs/\Left w0 w L0 L' ps rs/\jR w L' ps.length rs r.1 cs/\fV w L' 0 ps r.2 A0:=by
 unfold CG at h;split at h
 ·rename_i _ t n s;obtain⟨aG,rfl,h⟩:=h;have hb:=M.aq (m:=sA s (T.getD s .dead)) h;clear h;obtain⟨⟨sb,z⟩,l3,l4,rfl,sW,h⟩:=hb;obtain⟨hv,fP⟩:=V7 hI sW;obtain⟨k,t',y⟩:=z;dsimp only at h hv;have hs:=hI.aY sb;rw[hv]at hs;split at h
  ·rename_i ht;subst ht;split at h
   ·rename_i hk;obtain⟨⟨m,mu⟩,l1,l2,rfl,h2,cG,rfl,_⟩:=M.aq h;have nQ:=tL h2;have amH:cr (((sb,ps.length)::mu).map (·.1))=true:=cG;have ax:∀s j,(s,j)∈mu->j<ps.length:=λs j hs=>by
     obtain⟨_,⟨t,n,h,_⟩,_⟩:=nQ s j hs;exact (List.getElem?_eq_some_iff.1 (by simpa using h)).1
    have am6:∀s1 s2 j,(s1,j)∈(sb,ps.length)::mu->(s2,j)∈(sb,ps.length)::mu->s1=s2:=by
     intro s1 s2 j h1 h2;rcases List.mem_cons.1 h1 with h1|h1
     ·injection h1 with e1 e2;rcases List.mem_cons.1 h2 with h2|h2
      ·injection h2 with e3 e4;rw[e1,e3]
      ·exact absurd (ax _ _ h2) (by omega)
     ·rcases List.mem_cons.1 h2 with h2|h2
      ·injection h2 with e3 e4;exact absurd (ax _ _ h1) (by omega)
      ·exact (nQ s2 j h2).2.2 s1 h1
    have bz:∀{l:aj} {s':Nat} {q':List Nat},ig ps.length ((sb,ps.length)::mu) [] l = .own s' q'->∃s1,l = .own s1 q'/\(s1,s')∈(sb,ps.length)::mu:=by
     intro l s' q' e;obtain⟨s1,q1,e1,e2⟩:=CF e;rcases e2 with⟨h1,rfl⟩|⟨p,y,rest,h1,_⟩
     ·exact⟨s1,e1,h1⟩
     ·simp at h1
    have KA:∀{s1 j:Nat} {q:List Nat},(s1,j)∈(sb,ps.length)::mu->ig ps.length ((sb,ps.length)::mu) [] (.own s1 q) = .own j q:=by
     intro s1 j q hm;unfold ig;dsimp only;rw[WQ amH hm]
    obtain⟨_,g,cur,e,hf,hL,hg,hz,ho⟩:=hs;rw[<-fP]at hf;refine⟨λk=>ig ps.length ((sb,ps.length)::mu) [] (L k),[a.tmps.getD s undef],⟨_,[],rfl,rfl,rfl⟩,⟨hI.fr.os,hI.fr.tape,hI.fr.output,hI.fr.size,hI.fr.drawn,λk hk h0=>?_,λk hk=>by rw[hI.free k hk];rfl,λk k' s1 q e e'=>?_,λk s1 q e=>?_⟩,
     .inr ⟨by omega,_,rfl,g,cur,e,hf,by show ig _ _ _ (L g)=_;rw[hL];exact KA (by simp),hg,hz,?_⟩,qO hI h2 hl (λj hj=>by rw[Nat.zero_add];exact hA j hj) _ (λk hk=>by rw[hk];rfl) (λk s1 j q hm hk=>by rw[hk];exact KA (List.mem_cons_of_mem _ hm))⟩
    ·have:=hI.fr.aT k hk h0;refine⟨?_,this.2⟩;rw[this.1];rcases h0 with h0|h0<;>rw[h0]<;>rfl
    ·obtain⟨a1,e1,e2⟩:=bz e;obtain⟨a2,e3,e4⟩:=bz e';obtain rfl:=am6 _ _ _ e2 e4;exact hI.inj k k' _ _ e1 e3
    ·obtain⟨a1,e1,e2⟩:=bz e;rcases List.mem_cons.1 e2 with e2|e2
     ·injection e2 with _ e2;exact .inl ⟨e2,t',n,by simp,.inr (by omega)⟩
     ·obtain⟨_,⟨t,n,h,h'⟩,_⟩:=nQ _ _ e2;exact .inr ⟨t,n,by simpa using h,h'⟩
    ·have hkn:n - 1000=k:=by omega
     rw[hkn];refine Own.move (λk hk=>⟨?_,rfl⟩) (λk d rest _ hk=>⟨by show ig _ _ _ (L k)=_;rw[hk];exact KA (by simp),rfl⟩) ho;show ig _ _ _ (L k)=_;rcases hk with hk|⟨_,_,hk,_⟩
     ·rw[hk];rfl
     ·cases hk
   ·exact h.elim
  ·exact h.elim
 ·exact h.elim
theorem abr{fn:Func}{sl:List RV}{cs:List Value}(hr:fn.results.toList=sl.map RV.var)(hf:rz P w a sl cs):(results fn a.tmps).run P w = .ok (pn cs) w:=by
 have hm:∀g:ResultVar->Sem Value,(∀t,g (.tmp t)=pure (a.tmps.getD t undef))->(∀s X,g (.cell s X)=(do loadVar X (<-asAddr (a.tmps.getD s undef))))->(fn.results.mapM g).run P w = .ok cs.toArray w:=by
  intro g o5 Kb;rw[Array.mapM_eq_mapM_toList,hr];have:∀(sl:List RV) (cs:List Value),rz P w a sl cs->((sl.map RV.var).mapM g).run P w = .ok cs w:=by
   intro sl;induction sl with
   | nil=>intro cs h;obtain rfl:cs=[]:=h;simp
   | cons s sl ih =>
    intro cs h;obtain⟨c,bl,rfl,h1,h2⟩:=h;have aP:(g s.var).run P w = .ok c w:=by
     cases s with
     | tmp t =>
      obtain rfl:c=_:=h1;show (g (.tmp t)).run P w=_;rw[o5];rfl
     | cell t X =>
      obtain⟨A,h3,h4⟩:=h1;show (g (.cell t X)).run P w=_;rw[Kb,h3];simp[asAddr,h4]
    simp only[List.map_cons,List.mapM_cons,Sem.run_bind,aP,Result.andThen_ok,ih bl h2,Sem.run_pure]
  have h2:=this sl cs hf;simp only[Sem.run_map,h2,Result.andThen_ok]
 unfold results;rw[Sem.run_bind,hm _ (λt=>rfl) (λs X=>rfl),Result.andThen_ok,Sem.run_pure]
 match cs with
 | []=>rfl
 | [s]=>rfl
 | s::s'::l=>rfl
theorem aaw[af]{bj:cX}{aT:Nat->Option Nat}{hx:Hints}{rs:List (Ty×Nat)}{sl:List RV}{c:Code}{f:FuncId}{fn:Func}(mn:P.follows .mixedOrders=true)(hC:bD P C)(ej:fC P bj)
  (hf : P.funcs[f]? = some fn) (gq : (fn.name == "runtime.NumGoroutine") = false) (hb : fn.body = some c) (hN : fn.ntmps = N) (hr : fn.results.toList = sl.map RV.var) (my : ps.length <= N) :
  ao P f (Lm C bj vs N aT hx ps rs sl c):=by
 refine⟨⟨fn,hf,gq,by rw[hb];rfl⟩,λx r fj w L0 args hl ha=>?_⟩;change jQ w L0 ps at hl;change dX w L0 0 ps x args.toList at ha;have hlen:args.size=ps.length:=by have:=ha.len;rw[<-this];simp
 refine calls_of_wp hf hb ?_;rw[hN];have ba:sj P w L0 vs (tH C bj vs N aT hx ps):=aq0 mn hC ej rfl;let A0:Array Value:=args++Array.replicate (N - args.size) undef;have hJ:J w L0 vs (tH C bj vs N aT hx ps) A0 (aS N ps x) { tmps:=args++Array.replicate (N - args.size) undef,defers:=[] } w:=⟨⟨L0,aqZ hl ha my vs⟩,λ_ _=>rfl⟩;refine wp_mono (pY (A0:=A0) ba fj _ _ hJ) ?_
 rintro e a' w' ⟨ex,T',rfl,hk,⟨L,hI⟩,tk⟩
 have Yn:∀j,(∃t m,ps[j]?=some (t,m)/\m.back=true)->args.toList[j]?=some (a'.tmps.getD j undef):=λj hj=>by
  have hm:(tH C bj vs N aT hx ps).pins j=true:=by
   show (jF 0 ps).contains j=true;rw[List.contains_iff_mem];exact aaG.2 ⟨Nat.zero_le _,by simpa using hj⟩
  obtain⟨t,n,hj,_⟩:=hj;have ax:j<args.size:=by rw[hlen];exact (List.getElem?_eq_some_iff.1 hj).1
  rw[tk j hm];show _=some ((args++Array.replicate (N - args.size) undef).getD j undef);rw[Array.getD_eq_getD_getElem?,Array.getElem?_append_left ax];simp[ax]
 have wF:∀{log:List Nat},(bif xn rs then JJ C ps rs sl else CG ps rs sl).ai T' r log->a'.defers=[]/\∃v,(results fn a'.tmps).run P w' = .ok v w'/\∃cs L',Ending.returned v = .returned (pn cs)/\Left w w' L0 L' ps rs/\jR w' L' ps.length rs r.1 cs/\fV w' L' 0 ps r.2 args.toList:=by
  intro log aP;cases wO:xn rs with
  | true =>
   rw[wO]at aP;obtain⟨L',cs,h0,h1,h2,h3⟩:=ak9 hI hC aP (A0:=args.toList) (by simpa using hlen.symm) Yn;exact⟨hI.dR,_,abr hr h0,_,L',rfl,h1,(jR.low wO).2 h2,h3⟩
  | false =>
   rw[wO]at aP;obtain⟨L',cs,h0,h1,h2,h3⟩:=ak8 hI aP (A0:=args.toList) (by simpa using hlen.symm) Yn;exact⟨hI.dR,_,abr hr h0,_,L',rfl,h1,h2,h3⟩
 cases ex with
 | ext i=>cases hk
 | bJ =>
  obtain⟨r',log,h1,h2⟩:=M.lD hk;injection h2 with h2;subst h2;exact wF h1
 | ret =>
  obtain⟨r',log,h1,h2⟩:=M.lD hk;injection h2 with h2;subst h2;exact wF h1
end
end Go.Proofs.YtbhogmdpmkpinaaGreat.P.Am
