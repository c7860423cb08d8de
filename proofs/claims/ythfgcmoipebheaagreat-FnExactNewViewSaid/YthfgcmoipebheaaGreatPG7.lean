/- A part of the proof: Am61,Am62,Am63,Am64,Am30,Am31. No conditions. -/
import Derived.Test.YthfgcmoipebheaaGreatPG6
import Derived.Test.YthfgcmoipebheaaGreatPG5
set_option linter.unusedVariables false
set_option linter.unusedSimpArgs false
namespace Go.Proofs.YthfgcmoipebheaaGreat.P.Am
variable{log:List Nat}{ups:List (Nat×V)}{d n:Nat}{o:Oper}{m:M (List (Nat×V))}{t:Ty}{X:TypeId}{ps:List (Ty×Mode)}{args:Array Operand}{cw:Array TypeId}{mu:List (Nat×Nat)}
def sK(N:Nat):List Nat->M (List (Nat×V))->M (List (Nat×V))
 | [],m=>m
 | s::l,m=>.get s λv=>match v with
  | .box none n t x =>
   if s<N then
    gX true s s [] (((sK N l m).eE [(s,.rp none t x)]).bind λups=>.ret ((s,.rp none t x)::ups))
   else sK N l m
  | _=>sK N l m
def wQ(N t:Nat)(m:M (List (Nat×V))):M (List (Nat×V)):=
 .get t λv=>match v with
  | .d none 0 (.cap none te) x=>cond (decide (t<N)) (.cC te x λy=>(m.eE [(t,.rp none te y)]).bind λups=>.ret ((t,.rp none te y)::ups)) m
  | _=>m
def uP:List Operand->M ((t:Ty)×t.den)
 | []=>.ret ⟨.unit,()⟩
 | .tmp s::l=>.get s λv=>match v with
  | .rp none t x=>(uP l).bind λr=>.ret ⟨.pair (.cap none t) r.1,(some x,r.2)⟩
  | _=>.fail
 | .const (.pointer none)::l=>(uP l).bind λr=>.ret ⟨.pair (.cap none .unit) r.1,((none:Option Unit),r.2)⟩
 | _=>.fail
def TN(d:Nat)(g:FuncId)(gy:List Operand):M (List (Nat×V)):=
 .bl (!(g==jN)) ((uP gy).bind λz=>.ret [(d,.d none 0 (.cap (some g) z.1) (some z.2))])
def gj:(ps:List (Ty×Mode))->(T:Ty)->T.den->Option (cY ps).den
 | [],.unit,_=>some ()
 | (t,.ro)::ps,.pair (.cap k t') r,y=>if h:Ty.cap k t'=t then (gj ps r y.2).map λz=>(h▸y.1,z)else none
 | _,_,_=>none
def uJ(C:Ctx):(ps:List (Ty×Mode))->List Operand->(T:Ty)->T.den->M (kS ps)
 | ps,[],T,y=>match gj ps T y with
  | some x=>.ret ⟨x,[],[]⟩
  | none=>.fail
 | (t,.ro)::ps,x::xs,T,y=>(o3 C t x).bind λu=>(uJ C ps xs T y).bind λr=>.ret ⟨(u.1,r.x),u.2++r.ls,r.mu⟩
 | _,_,_,_=>.fail
def HR(C:Ctx)(bf:dx)(vs:List Nat)(d s:Nat)(args:List Operand):M (List (Nat×V)):=
 .get s λv=>match v with
  | .d none 0 (.cap (some g) T) y=>.cC T y λy=>match bf g with
   | none=>.fail
   | some F=>(uJ C F.ps args T y).bind λA=>.cC (.pair (cL F.rs) (ct F.ps)) (F.ao A.x) λr=>match lS vs A.ls F.rs r.1 with
    | some v=>.ret [(d,v)]
    | none=>.fail
  | _=>.fail
section
variable{P:Program}{C:Ctx}{w w' w0:World}{L L' L0:Nat->aj}{s N:Nat}{vs:List Nat}{T T':List V}{a:Act}
theorem JZ{T:List V}{s:Nat}{u:V}(bc:s<T.length)(z:Nat):(T.set s u).getD z .dead=(ek [(s,u)] z).getD (T.getD z .dead):=by
 simp only[ek];rw[aF];by_cases h1:z=s
 ·subst h1;simp[bc]
 ·have e1:(s==z)=false:=by simpa using Ne.symm h1
  rw[e1];simp[h1]
theorem Inv.al3[ae](hI:Inv w0 L0 N vs T a w L){s:Nat}{x:t.den}(hs:s<N)(hv:T.getD s .dead = .box none n t x)(af:∀z,(T.getD z .dead).on s=false):
  ∃L',Inv w0 L0 N vs (T.set s (.rp none t x)) a w L':=by
 have bc:s<T.length:=by rw[hI.len];exact hs
 have jA:fj (λz q=>cond (z==s) aj.aq (.own z q)) (λz=>z=s):=by
  refine⟨λz q hX=>?_,λz q z' q' hX h=>?_,λz q z2 q2 z' q' h1 h2=>?_,λz q=>?_⟩
  ·have:(z==s)=false:=by simpa using hX
   rw[this];rfl
  ·have:(z==s)=true:=by simpa using hX
   rw[this]at h;cases h
  ·cases h3:z==s with
   | true=>rw[h3]at h1;cases h1
   | false =>
    cases h4:z2==s with
    | true=>rw[h4]at h2;cases h2
    | false =>
     rw[h3]at h1;rw[h4]at h2;simp only[cond_false]at h1 h2;rw[<-h2]at h1;injection h1 with e1 e2;exact⟨e1,e2⟩
  ·cases z==s<;>simp
 refine⟨aT (λz q=>cond (z==s) aj.aq (.own z q)) w L (λ_=>.free),Inv.gw hI jA (Wd.refl hI _) (λ_ _ _ _ _ h=>by cases h) hI.size (by simp[hI.len]) hI.dG ?_ ?_ ?_ ?_ ?_⟩
 ·intro k s' q bN h;subst bN;unfold aT at h;split at h
  ·obtain⟨s0,q0,e0,f0⟩:=eF h;cases h3:s0==s' with
   | true=>rw[h3]at f0;cases f0
   | false =>
    rw[h3]at f0;simp only[cond_false]at f0;injection f0 with f0 _;rw[f0]at h3;simp at h3
  ·cases h
 ·intro z r hz ho hr;subst hr;rw[af z]at ho;cases ho
 ·intro z hz;rw[aF,if_neg (λh=>hz h.1)];exact⟨rfl,rfl⟩
 ·intro z r hz ho;subst hz;rw[aF,if_pos ⟨rfl,bc⟩]at ho;simp[V.on,V.root]at ho
 ·intro z hz;subst hz;rw[aF,if_pos ⟨rfl,bc⟩];have vK:=hI.aW z;rw[hv]at vK;obtain⟨_,g,cur,e,h2,h3,h4,h5,h6⟩:=vK;have a6:∀k q,L k = .own z q->aT (λz' q=>cond (z'==z) aj.aq (.own z' q)) w L (λ_=>.free) k = .aq:=by
   intro k q hk;rw[cR hI (by rw[hk];simp),hk];show cond _ _ _=_;rw[beq_self_eq_true];rfl
  refine⟨by simp,g,0,cur.toList,h2,.inl (a6 g [] h3),?_,λi v hv=>?_⟩
  ·refine Own.ep (Own.eQ (L':=aT (λz' q=>cond (z'==z) aj.aq (.own z' q)) w L (λ_=>.free)) (s':=z) (q2:=[]) (o2:=0) (Nat.zero_le _) (λk hk=>?_) (λk d rest _ hk=>⟨rfl,λh=>absurd h (Nat.not_lt_zero _),λ_=>.inl (a6 k _ hk)⟩) h6);rcases hk with hk|⟨_,_,hk,_⟩
   ·exact⟨.inl (dY hI hk),rfl⟩
   ·cases hk
  ·rw[Nat.zero_add,H4 h4];simpa using hv
theorem Dh[ae]:{l:List Nat}->{T:List V}->{L:Nat->aj}->{ups:List (Nat×V)}->{log:List Nat}->Inv w0 L0 N vs T a w L->(sK N l m).ai T ups log ->
  ∃T1 L1 bF log2,Inv w0 L0 N vs T1 a w L1/\m.ai T1 bF log2/\ag T ups=ag T1 bF
 | [],T,L,ups,log,hI,h=>⟨T,L,ups,log,hI,h,rfl⟩
 | s::l,T,L,ups,log,hI,h=>by
  simp only[sK]at h;obtain⟨aC,rfl,h⟩:=h;dsimp only at h;split at h
  ·rename_i n t x hv;split at h
   ·rename_i bY;obtain⟨cF,log2,h⟩:=jw h;obtain⟨bF,l3,l4,rfl,h1,h2⟩:=M.an h;obtain⟨rfl,_⟩:=h2;have bc:s<T.length:=by rw[hI.len];exact bY
    obtain⟨fw,h1⟩:=ow (T':=T.set s (.rp none t x)) (by simp) (λz hz=>by
     simp only[List.map_cons,List.map_nil,List.mem_cons,List.not_mem_nil,or_false]at hz;rw[hz];exact bc) (JZ bc) _ h1
    obtain⟨L1,br⟩:=Inv.al3 hI bY hv (λz=>by
      by_cases hz:z=s
      ·subst hz;rw[hv];rfl
      ·simpa using cF z hz)
    obtain⟨T1,L2,jj,iZ,k1,k2,k3⟩:=Dh br h1;exact⟨T1,L2,jj,iZ,k1,k2,k3⟩
   ·exact Dh hI h
  ·exact Dh hI h
theorem KH[ae]{t:Nat}(hI:Inv w0 L0 N vs T a w L)(h:(wQ N t m).ai T ups log):
  ∃T1 L1 bF log2,Inv w0 L0 N vs T1 a w L1/\m.ai T1 bF log2/\ag T ups=ag T1 bF:=by
 unfold wQ at h;obtain⟨aC,rfl,h⟩:=h;dsimp only at h;split at h
 ·rename_i te x hv;cases hc:decide (t<N)with
  | false=>rw[hc]at h;exact⟨T,L,ups,_,hI,h,rfl⟩
  | true =>
   rw[hc,cond_true]at h;obtain⟨y,hy,h⟩:=h;obtain⟨bF,l3,l4,rfl,h1,h2⟩:=M.an h;clear h;obtain⟨rfl,_⟩:=h2;have htN:=of_decide_eq_true hc;have bc:t<T.length:=by rw[hI.len];exact htN
   obtain⟨fw,h1⟩:=ow (T':=T.set t (.rp none te y)) (by simp) (λz hz=>by
     simp only[List.map_cons,List.map_nil,List.mem_cons,List.not_mem_nil,or_false]at hz;rw[hz];exact bc) (JZ bc) _ h1
   have jA:fj (λz q=>aj.own z q) (λz=>z=t):=by
    refine⟨λz q _=>rfl,λz q z' q' hX h=>?_,λz q z2 q2 z' q' h1 h2=>?_,λz q=>?_⟩
    ·injection h with h _;rw[<-h];exact hX
    ·rw[<-h2]at h1;injection h1 with e1 e2;exact⟨e1,e2⟩
    ·simp
   have cm:∀z,(T.getD z .dead).on t=true->(T.getD t .dead).aJ=false:=λz _=>by rw[hv];rfl
   refine⟨T.set t (.rp none te y),aT (λz q=>aj.own z q) w L (λ_=>.free),bF,fw,Inv.gw hI jA (Wd.refl hI _) (λ_ _ _ _ _ h=>by cases h) hI.size (by simp[hI.len]) hI.dG ?_ ?_ ?_ ?_ ?_,h1,rfl⟩
   ·intro k s' q bN h;subst bN;unfold aT at h;split at h
    ·obtain⟨s0,q0,e0,f0⟩:=eF h;injection f0 with f0 _;have:=hI.owner k _ _ e0;rw[f0,hv]at this;cases this
    ·cases h
   ·intro z r _ ho hr;subst hr;exact cm z ho
   ·intro z hz;rw[aF,if_neg (λh=>hz h.1)];exact⟨rfl,rfl⟩
   ·intro z r hz ho;subst hz;rw[aF,if_pos ⟨rfl,bc⟩]at ho;simp[V.on,V.root]at ho
   ·intro z hz;subst hz;rw[aF,if_pos ⟨rfl,bc⟩];have vK:=hI.aW z;rw[hv]at vK;obtain⟨_,cs,hf,ho⟩:=vK;have hr:=Own.ep ho;rw[hy]at hr;simp only[Rd]at hr;have cW:cs=[a.tmps.getD z undef]:=hf;rcases hr with⟨h,_⟩|⟨y',es,e1,e2,g,o,e3,e4,e5⟩
    ·cases h
    ·injection e1 with e1;subst e1;rw[cW]at e3;have e3:=(List.cons.inj e3).1;have hm:∀k,SL L none k->SL (aT (λz q=>aj.own z q) w L (λ_=>.free)) none k/\w.heap[k]?=w.heap[k]?:=by
      rintro k (hk|⟨_,_,hk,_⟩)
      ·exact⟨.inl (dY hI hk),rfl⟩
      ·cases hk
     exact⟨by simp,g,o,es,e3,(hm g e4).1,Rd.move hm e2,e5⟩
 ·exact⟨T,L,ups,_,hI,h,rfl⟩
theorem H0[ae](hI:Inv w0 L0 N vs T a w L):{l:List Operand}->{z:(t:Ty)×t.den}->{log:List Nat}->(uP l).ai T z log->Rd w (SL L none) z.1 z.2 (l.map a.eval)
 | [],z,log,h=>by
  obtain⟨rfl,_⟩:=h
  first|rfl|simp[Rd]
 | x::l,z,log,h=>by
  unfold uP at h;split at h
  ·rename_i he;cases he
  ·rename_i s l' he;injection he with e1 e2;subst e1 e2;obtain⟨aC,rfl,h⟩:=h;dsimp only at h;split at h
   ·rename_i t x hv;obtain⟨r,l1,l2,rfl,h1,h2⟩:=M.an h;obtain⟨rfl,_⟩:=h2;have hs:=hI.aW s;rw[hv]at hs;obtain⟨_,g,o,cs,e1,e2,e3,e4⟩:=hs;have ih:=H0 hI h1;simp only[Rd];refine⟨[a.eval (.tmp s)],l.map a.eval,rfl,.inr ⟨x,cs,rfl,e3,g,o,?_,e2,e4⟩,ih⟩;show [a.tmps.getD s undef]=_;rw[e1]
   ·exact h.elim
  ·rename_i l' he;injection he with e1 e2;subst e1 e2;obtain⟨r,l1,l2,rfl,h1,h2⟩:=M.an h;obtain⟨rfl,_⟩:=h2;have ih:=H0 hI h1;simp only[Rd];refine⟨[.pointer none],l.map a.eval,rfl,?_,ih⟩
   first|exact .inl ⟨rfl,rfl⟩|simp[rL]
  ·exact h.elim
theorem ang[ae](hI:Inv w0 L0 N vs T a w L){g:FuncId}{gy:Array Operand}   
  (ho:o.op = .makeFunc (.func g) #[] gy) (ay:o.dst=some d) (hd:d<N) (hid:(T.getD d .dead).idle=true)
  (h:(TN d g gy.toList).ai T ups log):Step P o w0 L0 N vs (ag T ups) a w:=by
 obtain⟨hg,h⟩:=h;obtain⟨z,l1,l2,rfl,h1,h2⟩:=M.an h;obtain⟨rfl,_⟩:=h2;have hr:=H0 hI h1;have b9:aK P o vs T a w L d (.d none 0 (.cap (some g) z.1) (some z.2)):=by
  refine aK.still hI (c:=.func (.func g) #[] (gy.map a.eval)) ?_ (λr=>rfl) ?_
  ·simp[execOp,ho,Instr.makeFunc]
  ·refine⟨by simp,[.func (.func g) #[] (gy.map a.eval)],rfl,?_⟩;simp only[Own,Rd];refine .inr ⟨z.2,gy.toList.map a.eval,rfl,hr,by simpa using hg,?_⟩;show [_]=[_];congr 2;apply Array.ext';simp
 intro K Q hK;exact aK.inv hI hd hid ay b9 hK
theorem TG{S:Nat->Prop}{L1:Nat->aj}(hS:∀k,S k->L1 k = .aq):{ps:List (Ty×Mode)}->{t:Ty}->{y:t.den}->{x:(cY ps).den}->{i:Nat}->{es:List Value}->gj ps t y=some x->Rd w S t y es->dK w L1 i ps x es
 | [],.unit,y,x,i,es,h,hr=>by
  simp only[Rd]at hr;subst hr;rfl
 | (t,.ro)::ps,.pair (.cap k t') r,y,x,i,es,h,hr=>by
  simp only[gj]at h;split at h
  ·rename_i ht;subst ht;obtain⟨z,hz,h⟩:∃z,gj ps r y.2=some z/\(y.1,z)=x:=by
    cases hc:gj ps r y.2 with
    | none=>rw[hc]at h;cases h
    | some z=>rw[hc]at h;injection h with h;exact⟨z,rfl,h⟩
   subst h;simp only[Rd]at hr;obtain⟨c0,c1,rfl,h0,h1⟩:=hr;have UP:Rd w S (.cap k t') y.1 c0:=by simp only[Rd];exact h0
   have hl:=Rd.len UP
   match c0,hl with
   | [c],_ =>
    refine⟨c,c1,[c],rfl,rfl,?_,TG hS hz h1⟩;exact Own.dB (Rd.move (λk hk=>⟨hS k hk,rfl⟩) UP)
  ·cases h
 | [],.int _,_,_,_,_,h,_|[],.bool,_,_,_,_,h,_|[],.str,_,_,_,_,h,_|[],.raw _,_,_,_,_,h,_|[],.pair _ _,_,_,_,_,h,_|[],.agg _,_,_,_,_,h,_|[],.slice _ _,_,_,_,_,h,_|[],.cap _ _,_,_,_,_,h,_=>by simp[gj]at h
 | (_,.mut _)::_,_,_,_,_,_,h,_|(_,.ptr _)::_,_,_,_,_,_,h,_|(_,.bS _)::_,_,_,_,_,_,h,_=>by simp[gj]at h
 | (_,.ro)::_,.int _,_,_,_,_,h,_|(_,.ro)::_,.bool,_,_,_,_,h,_|(_,.ro)::_,.str,_,_,_,_,h,_|(_,.ro)::_,.raw _,_,_,_,_,h,_|(_,.ro)::_,.unit,_,_,_,_,h,_|(_,.ro)::_,.agg _,_,_,_,_,h,_|(_,.ro)::_,.slice _ _,_,_,_,_,h,_|(_,.ro)::_,.cap _ _,_,_,_,_,h,_=>by simp[gj]at h
 | (_,.ro)::_,.pair (.int _) _,_,_,_,_,h,_|(_,.ro)::_,.pair .bool _,_,_,_,_,h,_|(_,.ro)::_,.pair .str _,_,_,_,_,h,_|(_,.ro)::_,.pair (.raw _) _,_,_,_,_,h,_|(_,.ro)::_,.pair .unit _,_,_,_,_,h,_|(_,.ro)::_,.pair (.agg _) _,_,_,_,_,h,_|(_,.ro)::_,.pair (.slice _ _) _,_,_,_,_,h,_|(_,.ro)::_,.pair (.pair _ _) _,_,_,_,_,h,_=>by simp[gj]at h
theorem TH:{ps:List (Ty×Mode)}->{t:Ty}->{y:t.den}->{x:(cY ps).den}->gj ps t y=some x->∀(j:Nat) (u:Ty) (m:Mode),ps[j]?=some (u,m)->m = .ro
 | [],_,_,_,_,j,u,m,hj=>by simp at hj
 | (t,.ro)::ps,.pair (.cap k t') r,y,x,h,j,u,m,hj=>by
  cases j with
  | zero=>simp at hj;exact hj.2.symm
  | succ j =>
   simp only[gj]at h;split at h
   ·cases hc:gj ps r y.2 with
    | none=>rw[hc]at h;cases h
    | some z=>exact TH hc j u m (by simpa using hj)
   ·cases h
 | (_,.mut _)::_,_,_,_,h,_,_,_,_|(_,.ptr _)::_,_,_,_,h,_,_,_,_|(_,.bS _)::_,_,_,_,h,_,_,_,_=>by simp[gj]at h
 | (_,.ro)::_,.int _,_,_,h,_,_,_,_|(_,.ro)::_,.bool,_,_,h,_,_,_,_|(_,.ro)::_,.str,_,_,h,_,_,_,_|(_,.ro)::_,.raw _,_,_,h,_,_,_,_|(_,.ro)::_,.unit,_,_,h,_,_,_,_|(_,.ro)::_,.agg _,_,_,h,_,_,_,_|(_,.ro)::_,.slice _ _,_,_,h,_,_,_,_|(_,.ro)::_,.cap _ _,_,_,h,_,_,_,_=>by simp[gj]at h
 | (_,.ro)::_,.pair (.int _) _,_,_,h,_,_,_,_|(_,.ro)::_,.pair .bool _,_,_,h,_,_,_,_|(_,.ro)::_,.pair .str _,_,_,h,_,_,_,_|(_,.ro)::_,.pair (.raw _) _,_,_,h,_,_,_,_|(_,.ro)::_,.pair .unit _,_,_,h,_,_,_,_|(_,.ro)::_,.pair (.agg _) _,_,_,h,_,_,_,_|(_,.ro)::_,.pair (.slice _ _) _,_,_,h,_,_,_,_|(_,.ro)::_,.pair (.pair _ _) _,_,_,h,_,_,_,_=>by simp[gj]at h
theorem To[ae](hI:Inv w0 L0 N vs T a w L){y:t.den}{es:List Value}(hy:Rd w (SL L none) t y es):{ps:List (Ty×Mode)}->{xs:List Operand}->{A:kS ps}->{log:List Nat}->(i:Nat)->(uJ C ps xs t y).ai T A log ->
  (∀r∈A.ls,(T.getD r .dead).deep=true)/\(∀(j:Nat) (u:Ty) (m:Mode),ps[j]?=some (u,m)->m = .ro) /\
  ∀L1:Nat->aj,(∀k,L k = .aq->L1 k = .aq)->(∀k r q,r∈A.ls->L k = .own r q->L1 k = .aq)->dK w L1 i ps A.x (xs.map a.eval++es)
 | ps,[],A,log,i,h=>by
  unfold uJ at h;split at h
  ·rename_i x hx;obtain⟨rfl,_⟩:=h;refine⟨by simp,TH hx,λL1 H1 _=>?_⟩;exact TG (λk hk=>by
    rcases hk with hk|⟨_,_,hk,_⟩
    ·exact H1 k hk
    ·cases hk) hx hy
  ·exact h.elim
 | (u,.ro)::ps,x::xs,A,log,i,h=>by
  simp only[uJ]at h;obtain⟨⟨z,ls⟩,l1,l2,rfl,h1,h⟩:=M.an h;obtain⟨A',l3,l4,rfl,h2,h⟩:=M.an h;obtain⟨rfl,_⟩:=h;obtain⟨cells,k1,k2,k3⟩:=uI hI h1;obtain⟨j1,j2,j3⟩:=To hI hy (i+1) h2;refine⟨λr hr=>?_,λj u' m hj=>?_,λL1 H1 H2=>?_⟩
  ·rcases List.mem_append.1 hr with hr|hr
   ·exact k2 r hr
   ·exact j1 r hr
  ·cases j with
   | zero=>simp at hj;exact hj.2.symm
   | succ j=>exact j2 j u' m (by simpa using hj)
  ·exact⟨a.eval x,_,cells,rfl,k1,Own.dB (k3 _ H1 (λk r q hr hk=>H2 k r q (List.mem_append_left _ hr) hk)),j3 L1 H1 (λk r q hr hk=>H2 k r q (List.mem_append_right _ hr) hk)⟩
 | [],_::_,_,_,_,h=>h.elim
 | (_,.mut _)::_,_::_,_,_,_,h=>h.elim
 | (_,.ptr _)::_,_::_,_,_,_,h=>h.elim
 | (_,.bS _)::_,_::_,_,_,_,h=>h.elim
theorem amC{s:Nat}{f:FuncId}{fn:Func}{gy:Array Value}(Ja:o.op = .call { callee:=.value (.tmp s),args,argTypes:=cw })
  (hs : a.tmps.getD s undef = .func (.func f) #[] gy) (hf : P.funcs[f]? = some fn) (fV : (fn.name == "runtime.NumGoroutine") = false) (hb : fn.body.isNone = false) : (execOp a.eval o).run P w = .ok (.enter f (args.map a.eval ++ gy)) w := by
 have h1 : ¬ fn.name = "runtime.NumGoroutine" := by simpa using fV
 have h2:¬fn.body=none:=by cases hx:fn.body<;>simp_all
 have h3:a.eval (.tmp s) = .func (.func f) #[] gy:=hs;unfold execOp;simp[Ja,resolve,Deferred.ofValue,invoke,callFunc,hf,h1,h2,h3]
theorem am8[ae](hI:Inv w0 L0 N vs T a w L){bf:dx}(dQ:fQ P bf){s:Nat}{d:Nat}  
  (ho:o.op = .call { callee:=.value (.tmp s),args,argTypes:=cw }) (ay:o.dst=some d) (hd:d<N) (hid:(T.getD d .dead).idle=true)
  (h:(HR C bf vs d s args.toList).ai T ups log):Step P o w0 L0 N vs (ag T ups) a w:=by
 unfold HR at h;obtain⟨aC,rfl,h⟩:=h;dsimp only at h;split at h
 ·rename_i g t y0 hv;obtain⟨y,hy,h⟩:=h;split at h
  ·exact h.elim
  ·rename_i F hF;obtain⟨⟨fn,ie,fV,mz⟩,aI⟩:=dQ g F hF;have hb:=M.an h;clear h;obtain⟨A,l1,l2,rfl,h1,h⟩:=hb;have hs:=hI.aW s;rw[hv]at hs;obtain⟨_,cs,hf,bR⟩:=hs;have bz:=Own.ep bR;rw[hy]at bz;simp only[Rd]at bz;have cW:cs=[a.tmps.getD s undef]:=hf;rcases bz with⟨h0,_⟩|⟨y',es,e1,e2,e3⟩
   ·cases h0
   injection e1 with e1;subst e1;have e3:cs=[.func (.func g) #[] es.toArray]:=e3.2;rw[cW]at e3;have e3:=(List.cons.inj e3).1;obtain⟨dW,vJ,gE⟩:=To hI e2 0 h1;have aO:=amC (P:=P) (a:=a) (w:=w) ho e3 ie fV mz;have lv:∀r∈A.ls,r≠d:=λr hr=>cX hid (V.eR (dW r hr));obtain⟨r,eM,h⟩:=h;dsimp only at h;split at h
   ·rename_i v cH;obtain⟨rfl,_⟩:=h;intro K Q hK;unfold Oper.wp;rw[aO,Oper.upon_enter];have mG:jq w (λk=>cE none A.ls (L k)) F.ps:=by
     refine⟨λk hk=>by rw[hI.free k hk];rfl,λk k' s q h h'=>?_,λk s q h=>?_,ae.aS hI.fr.gD λk hk h0=>⟨?_,(hI.fr.aS k hk h0).2⟩⟩
     ·obtain⟨r1,e1,e2⟩:=kP h;cases e1
     ·obtain⟨r1,e1,e2⟩:=kP h;cases e1
     ·rw[(hI.fr.aS k hk h0).1];rcases h0 with h0|h0<;>rw[h0]<;>simp[cE]
    have dz:=gE (λk=>cE none A.ls (L k)) (λk hk=>by rw[hk];rfl) (λk r q hr hk=>by
     rw[hk];unfold cE;dsimp only;rw[if_pos (by simpa using hr)])
    refine Calls.mono (aI A.x r eM w _ (args.map a.eval++es.toArray) mG (by simpa using dz)) ?_
    rintro e w' ⟨bg,L',rfl,a8,b9,jF⟩
    dsimp only;rw[ay];refine hK _ _ (dy none F.ps.length d L L') ?_;have mO:∀(j:Nat) (t:Ty) (m:Mode),F.ps[j]?=some (t,m)->m.back=true->False:=by
     intro j t m hj hm;rw[vJ j t m hj]at hm;cases hm
    have bT:(ag T [(d,v)]).getD d .dead=v:=by
     show (T.set d v).getD d .dead=v;rw[aF,if_pos ⟨rfl,by rw[hI.len];exact hd⟩]
    have bo:∀s,s≠d->(ag T [(d,v)]).getD s .dead=T.getD s .dead:=by
     intro s hs;show (T.set d v).getD s .dead=_;rw[aF,if_neg (λe=>hs e.1)]
    obtain⟨k1,k2,k3⟩:=wM (T':=ag T [(d,v)]) (d:=d) hI a8 rfl (λr hr=>by rw[bo r (lv r hr)];exact dW r hr) b9 cH;exact Inv.called hI hd hid rfl (λr i h=>by cases h) a8 (by rw[cr,hI.len]) (λj t n hj hm=>(mO j t n hj hm).elim) (λr i h=>by cases h) (λs r i h=>by cases h) (λs hs _=>bo s hs) bT k1 k2 (λr i h=>by cases h) k3
   ·exact h.elim
 ·exact h.elim
end
def pY(vs:List Nat)(N:Nat):List Nat->M (List (Nat×V))->M (List (Nat×V))
 | [],m=>m
 | s::l,m=>.get s λv=>match v with
  | .view r p t=>(lR s v).bind λz=>cond (decide (s<N)&&fy vs (.d z.1 0 z.2.1 z.2.2)&&z.1 != some s)
    (((pY vs N l m).eE [(s,.d z.1 0 z.2.1 z.2.2)]).bind λups=>.ret ((s,.d z.1 0 z.2.1 z.2.2)::ups)) (pY vs N l m)
  | _=>pY vs N l m
def Kh:V:=.d none 0 (.cap (some jN) .unit) none
def isNil:V->Bool
 | .d none 0 (.cap (some f) .unit) _=>f==jN
 | _=>false
def HZ(d:Nat)(l:List Operand)(m:M (List (Nat×V))):M (List (Nat×V)):=match l with
 | [.tmp s]=>.get s λv=>cond (isNil v) (.ret [(d,.d none 0 (.int .i64) (0:Int))]) m
 | _=>m
def Ie(C:Ctx)(vs:List Nat)(N d:Nat)(hint:Bool)(X:TypeId)(s:Nat)(lo hi:Option Operand)(m:M (List (Nat×V))):M (List (Nat×V)):=
 .get s λv=>cond (isNil v) ((jd C lo).bind λl=>(jd C hi).bind λh=>.bl (l.getD 0==0&&h.getD 0==0) (match C.ty X with
   | some (.slice _ _)=>.ret [(d,Kh)]
   | _=>.fail))
  (cond hint (match v with
   | .d none (n+1) (.slice e t) xs=>(jd C lo).bind λl=>(jd C hi).bind λh=>cond (l.getD 0==0&&h==some 0 && !vs.contains s&&decide (s≠d)) (match C.ty X with
     | some (.slice e' t')=>cond (decide (e'=e/\t'=t)) (.ret [(s,.dead),(d,.d none (n+1) (.slice e t) [])]) .fail
     | _=>.fail) .fail
   | _=>m) m)
def Kg(C:Ctx)(d:Nat)(hint:Bool)(X:TypeId)(x:Operand)(m:M (List (Nat×V))):M (List (Nat×V)):=match x with
 | .tmp s=>cond hint (.get s λv=>cond (isNil v) (match C.ty X with
   | some (.slice e t)=>.ret [(d,.d none (t.depth+1) (.slice e t) [])]
   | _=>.fail) m) m
 | _=>m
def Ln(C:Ctx)(d:Nat)(X X2:TypeId)(s x:Operand)(m:M (List (Nat×V))):M (List (Nat×V)):=match s with
 | .tmp s=>.get s λv=>cond (isNil v) (match C.ty X,C.ty X2 with
   | some (.slice e t),some (.int _)=>(cB C X2 x).bind λu=>match u with
    | .d _ _ (.int .i64) n=>.bl (decide (0<n)&&decide (t.sz≠0)&&decide (n*C.bytes e<=140737488355328)&&decide (n<=140737488355328)) (.ret [(d,.d none (t.depth+1) (.slice e t) (List.replicate n.toNat t.zero))])
    | _=>.fail
   | _,_=>.fail) m
 | _=>m
section
variable{P:Program}{C:Ctx}{w w' w0:World}{L L' L0:Nat->aj}{s N:Nat}{vs:List Nat}{T T':List V}{a:Act}
theorem CF[ae](hI:Inv w0 L0 N vs T a w L){s:Nat}(h:isNil (T.getD s .dead)=true):a.tmps.getD s undef = .slice none 0 0:=by
 have hs:=hI.aW s;generalize T.getD s .dead=v at h hs;unfold isNil at h;split at h
 ·rename_i f x;obtain⟨_,cs,hf,ho⟩:=hs;have hr:=Own.ep ho;simp only[Rd]at hr;have hf:cs=[a.tmps.getD s undef]:=hf;rcases hr with⟨_,hr⟩|⟨_,_,_,_,hr⟩
  ·rw[hf]at hr;have hr:=(List.cons.inj hr).1;rw[hr];show cond (f==jN) _ _=_;rw[h];rfl
  ·have:=hr.1;rw[h]at this;cases this
 ·cases h
theorem alI{tm:Array Value}:az L T tm d Kh w (.slice none 0 0):=by
 refine⟨by simp,[.slice none 0 0],rfl,?_⟩;simp[Own,Rd,rL]
theorem v7[ae]:{l:List Nat}->{T:List V}->{L:Nat->aj}->{ups:List (Nat×V)}->{log:List Nat}->Inv w0 L0 N vs T a w L->(pY vs N l m).ai T ups log ->
  ∃T1 L1 bF log2,Inv w0 L0 N vs T1 a w L1/\m.ai T1 bF log2/\ag T ups=ag T1 bF
 | [],T,L,ups,log,hI,h=>⟨T,L,ups,log,hI,h,rfl⟩
 | s::l,T,L,ups,log,hI,h=>by
  simp only[pY]at h;obtain⟨aC,rfl,h⟩:=h;dsimp only at h;split at h
  ·rename_i r p t hv;have hb:=M.an h;clear h;obtain⟨⟨lz,tz,yz⟩,l1,l2,rfl,hz,h⟩:=hb;dsimp only at h;cases hc:(decide (s<N)&&fy vs (.d lz 0 tz yz)&&lz != some s)with
   | false=>rw[hc]at h;exact v7 hI h
   | true =>
    rw[hc,cond_true]at h;simp only[Bool.and_eq_true,decide_eq_true_eq,bne_iff_ne,ne_eq]at hc;obtain⟨⟨bY,aI⟩,dW⟩:=hc;obtain⟨bF,l3,l4,rfl,h1,h2⟩:=M.an h;clear h;obtain⟨rfl,_⟩:=h2;have bc:s<T.length:=by rw[hI.len];exact bY
    obtain⟨fw,h1⟩:=ow (T':=T.set s (.d lz 0 tz yz)) (by simp) (λz hz=>by
     simp only[List.map_cons,List.map_nil,List.mem_cons,List.not_mem_nil,or_false]at hz;rw[hz];exact bc) (JZ bc) _ h1
    have iU:=hI.aW s;obtain⟨cells,hf,bz,cq⟩:=qf hI hz iU (λ_=>rfl);have jA:fj (λz q=>aj.own z q) (λz=>z=s):=by
     refine⟨λz q _=>rfl,λz q z' q' hX h=>?_,λz q z2 q2 z' q' h1 h2=>?_,λz q=>?_⟩
     ·injection h with h _;rw[<-h];exact hX
     ·rw[<-h2]at h1;injection h1 with e1 e2;exact⟨e1,e2⟩
     ·simp
    have cm:(T.getD s .dead).aJ=false:=by rw[hv];rfl
    have br:Inv w0 L0 N vs (T.set s (.d lz 0 tz yz)) a w (aT (λz q=>aj.own z q) w L (λ_=>.free)):=by
     refine Inv.gw hI jA (Wd.refl hI _) (λ_ _ _ _ _ h=>by cases h) hI.size (by simp[hI.len]) hI.dG ?_ ?_ ?_ ?_ ?_
     ·intro k s' q bN h;subst bN;unfold aT at h;split at h
      ·obtain⟨s0,q0,e0,f0⟩:=eF h;injection f0 with f0 _;have:=hI.owner k _ _ e0;rw[f0,cm]at this;cases this
      ·cases h
     ·intro z r _ ho hr;subst hr;exact cm
     ·intro z hz;rw[aF,if_neg (λh=>hz h.1)];exact⟨rfl,rfl⟩
     ·intro z r hz ho;subst hz;rw[aF,if_pos ⟨rfl,bc⟩]at ho;exact sG aI r ho
     ·intro z hz;subst hz;rw[aF,if_pos ⟨rfl,bc⟩];have hm:∀k,SL L lz k->SL (aT (λz q=>aj.own z q) w L (λ_=>.free)) lz k/\w.heap[k]?=w.heap[k]?:=by
       rintro k (hk|⟨r,q,hl,hk⟩)
       ·exact⟨.inl (dY hI hk),rfl⟩
       ·exact⟨.inr ⟨r,q,hl,by rw[cR hI (by rw[hk];simp),hk];rfl⟩,rfl⟩
      refine⟨λr hr=>?_,cells,hf,Own.dB (Rd.move hm bz)⟩;rw[aF,if_neg (λe=>dW (by rw[hr,e.1]))];exact cq r hr
    obtain⟨T1,L2,jj,iZ,k1,k2,k3⟩:=v7 br h1;exact⟨T1,L2,jj,iZ,k1,k2,k3⟩
  ·exact v7 hI h
theorem anf[ae](hI:Inv w0 L0 N vs T a w L){b:Builtin}(hb:b = .cap\/b = .len)      
  (hu:∀X,cw[0]?=some X->∃e,P.underlying X=some (.slice e)) (bm:cw.size=1) (ho:o.op = .call { callee:=.builtin b,args,argTypes:=cw }) (ay:o.dst=some d) (hd:d<N) (hid:(T.getD d .dead).idle=true)
  (h:(HZ d args.toList m).ai T ups log) (hm:∀log,m.ai T ups log->Step P o w0 L0 N vs (ag T ups) a w):Step P o w0 L0 N vs (ag T ups) a w:=by
 obtain⟨args⟩:=args;obtain⟨cw⟩:=cw;unfold HZ at h;dsimp only at h;split at h
 ·rename_i s;obtain⟨aC,rfl,h⟩:=h;dsimp only at h;cases hn:isNil (T.getD s .dead)with
  | false=>rw[hn]at h;exact hm _ h
  | true =>
   rw[hn,cond_true]at h;obtain⟨rfl,_⟩:=h;have hv:=CF hI hn
   match cw,bm with
   | [X],_ =>
    obtain⟨e,he⟩:=hu X rfl;have cP:a.eval (.tmp s) = .slice none 0 0:=hv;have b9:aK P o vs T a w L d (.d none 0 (.int .i64) (0:Int)):=by
     refine aK.still hI (c:=.int .i64 0) ?_ (λ_=>rfl) az.mkInt;rcases hb with rfl|rfl
     ·simp[execOp,ho,resolve,invoke,builtin,Builtin.cap_,cP,run_underlying he,goInt]
     ·simp[execOp,ho,resolve,invoke,builtin,Builtin.len_,cP,run_underlying he,goInt]
    intro K Q hK;exact aK.inv hI hd hid ay b9 hK
 ·exact hm _ h
end
section
variable{P:Program}{C:Ctx}{w w' w0:World}{L L' L0:Nat->aj}{s N:Nat}{vs:List Nat}{T T':List V}{a:Act}
theorem Ks{l:Option Int}(h:(l.getD 0==0)=true):l.getD 0=0:=by simpa using h
theorem anh[ae](hI:Inv w0 L0 N vs T a w L)(hC:bA P C){s:Nat}{hint:Bool}{lo hi:Option Operand}{m:M (List (Nat×V))}  
  (ho:o.op = .slice X (.tmp s) lo hi none) (ay:o.dst=some d) (hd:d<N) (hid:(T.getD d .dead).idle=true)
  (h:(Ie C vs N d hint X s lo hi m).ai T ups log) (hm:∀log,m.ai T ups log->Step P o w0 L0 N vs (ag T ups) a w):Step P o w0 L0 N vs (ag T ups) a w:=by
 have key:∀c,(Instr.sliceAt X (a.eval (.tmp s)) (lo.map a.eval) (hi.map a.eval) none).run P w = .ok c w->(execOp a.eval o).run P w = .ok (.value c) w:=by
  intro c hc;simp[execOp,ho,hc]
 unfold Ie at h;obtain⟨aC,rfl,h⟩:=h;dsimp only at h;cases hn:isNil (T.getD s .dead)with
 | true =>
  rw[hn,cond_true]at h;have hv:=CF hI hn;obtain⟨l,l1,l2,rfl,hl,h⟩:=M.an h;obtain⟨z,l3,l4,rfl,hh,h⟩:=M.an h;obtain⟨hc,h⟩:=h;rw[Bool.and_eq_true]at hc;split at h
  ·rename_i e t hX;obtain⟨rfl,_⟩:=h;obtain⟨hu,he⟩:=(hC X _ hX).bX;have el:=nv (z:=0) (nt hI hl);have eh:=nv (z:=0) (nt hI hh);rw[Ks hc.1]at el;rw[Ks hc.2]at eh;have aO:=Dn (P:=P) (w:=w) hu ((hC e t he).run_sizeOf) (A:=none) (len:=0) (cap:=0) el eh (by omega) (by omega) (by omega) (by omega);have cP:a.eval (.tmp s) = .slice none 0 0:=hv;have b9:aK P o vs T a w L d Kh:=aK.still hI (c:=.slice none 0 0) (key _ (by rw[cP];exact aO)) (λ_=>rfl) alI;intro K Q hK;exact aK.inv hI hd hid ay b9 hK
  ·exact h.elim
 | false =>
  rw[hn,cond_false]at h;cases hint with
  | false=>exact hm _ h
  | true =>
   rw[cond_true]at h;have hs:=hI.aW s;generalize hv:T.getD s .dead=v at h hs;split at h
   ·rename_i n e t xs;obtain⟨l,l1,l2,rfl,hl,h⟩:=M.an h;obtain⟨z,l3,l4,rfl,hh,h⟩:=M.an h;cases hc:(l.getD 0==0&&z==some 0 && !vs.contains s&&decide (s≠d))with
    | false=>rw[hc]at h;exact h.elim
    | true =>
     rw[hc,cond_true]at h;simp only[Bool.and_eq_true,Bool.not_eq_true',decide_eq_true_eq]at hc;obtain⟨⟨⟨dV,e9⟩,U7⟩,hc4⟩:=hc;have hz:z=some 0:=by simpa using e9
     subst hz;split at h
     ·rename_i e' t' hX;cases IV:decide (e'=e/\t'=t)with
      | false=>rw[IV]at h;exact h.elim
      | true =>
       rw[IV,cond_true]at h;obtain⟨rfl,_⟩:=h;obtain⟨rfl,rfl⟩:=of_decide_eq_true IV;obtain⟨hu,he⟩:=(hC X _ hX).bX;have el:=nv (z:=0) (nt hI hl);rw[Ks dV]at el;obtain⟨_,cs,hf,bR⟩:=hs;have hf:cs=[a.tmps.getD s undef]:=hf;rw[hf]at bR;have iV:s∉vs:=λhm=>by rw[List.contains_iff_mem.2 hm]at U7;cases U7
       have mV:(some s=some s/\s∉vs/\(T.getD s .dead).aJ=true)\/(some s=(none:Option Nat)/\s=d):=.inl ⟨rfl,iV,by rw[hv];simp[V.aJ,Ty.depth]⟩;have fin:∀c,(Instr.sliceAt X (a.eval (.tmp s)) (lo.map a.eval) (hi.map a.eval) none).run P w = .ok c w ->
         (∀(L':Nat->aj),(∀g,L g = .own s [0]->L' g = .own d [0])->Own w L' (SL L' none) d (n+1) (.slice e' t') [] [] 0 [c]) ->
         Step P o w0 L0 N vs (ag T [(s,.dead),(d,.d none (n+1) (.slice e' t') [])]) a w:=by
        intro c aO dz;refine Step.value ay (key c aO) (Inv.app (sb:=some s) (sx:=none) (kept:=true) (b1:=0) (b2:=0) (m:=n) (nl:=λ_=>.free) hI hd hid mV (λs h=>by cases h) (Wd.refl hI _) (λ_ _ _ _ h=>by cases h) rfl (by simp[V.aJ,Ty.depth]) (λT' tm'=>⟨by simp,[c],rfl,dz _ (λg hg=>?_)⟩));rw[cR hI (by rw[hg];simp),hg];show gh d s none true 0 0 n s [0]=_;unfold gh;rw[if_pos rfl];simp
       simp only[Own]at bR;rcases bR with⟨fW,iW⟩|⟨g,cap,cur,dR,hg,hh1,hh2,hh3,hh4,_⟩
       ·have cP:a.eval (.tmp s) = .slice none 0 0:=(List.cons.inj fW).1;have eh:=nv (z:=0) (nt hI hh);have aO:=Dn (P:=P) (w:=w) hu ((hC e' t' he).run_sizeOf) (A:=none) (len:=0) (cap:=0) el eh (by omega) (by simp) (by simp) (by omega);refine fin (.slice none 0 0) (by rw[cP];exact aO) (λL' _=>?_);simp only[Own];exact .inl ⟨by trivial,by trivial⟩
       ·have cP:a.eval (.tmp s) = .slice (some ⟨g,0,none⟩) xs.length cap:=(List.cons.inj dR).1;have eh:=nv (z:=(xs.length:Int)) (nt hI hh);have aO:=Dn (P:=P) (w:=w) hu ((hC e' t' he).run_sizeOf) (A:=some ⟨g,0,none⟩) (len:=xs.length) (cap:=cap) el eh (by omega) (by simp) (by simp) hh2;have e0:(if cap=(0:Int).toNat then some (⟨g,0,none⟩:Addr)else (some ⟨g,0,none⟩:Option Addr).map (·.add ((0:Int).toNat*t'.sz)))=some ⟨g,0,none⟩:=by
         split
         ·rfl
         ·simp[Addr.add_lit]
        rw[e0]at aO;refine fin _ (by rw[cP];exact aO) (λL' hL=>?_);simp only[Own];refine .inr ⟨g,cap,cur,by simp,hL g hg,hh1,by simp,hh3,hh4,λj hj=>absurd hj (by simp)⟩
     ·exact h.elim
   ·exact hm _ h
theorem anp[ae](hI:Inv w0 L0 N vs T a w L)(hC:bA P C){x:Operand}{hint:Bool}   
  (ho:pT o x) (ay:o.dst=some d) (hd:d<N) (hid:(T.getD d .dead).idle=true)
  (h:(Kg C d hint X x m).ai T ups log) (hm:∀log,m.ai T ups log->Step P o w0 L0 N vs (ag T ups) a w):Step P o w0 L0 N vs (ag T ups) a w:=by
 unfold Kg at h;split at h
 ·rename_i s;cases hint with
  | false=>exact hm _ h
  | true =>
   rw[cond_true]at h;obtain⟨aC,rfl,h⟩:=h;dsimp only at h;cases hn:isNil (T.getD s .dead)with
   | false=>rw[hn]at h;exact hm _ h
   | true =>
    rw[hn,cond_true]at h;have hv:=CF hI hn;split at h
    ·rename_i e t hX;obtain⟨rfl,_⟩:=h;have cP:a.eval (.tmp s) = .slice none 0 0:=hv;have b9:aK P o vs T a w L d (.d none (t.depth+1) (.slice e t) []):=by
      refine aK.still hI (c:=.slice none 0 0) ?_ (λ_=>rfl) ⟨by simp,[.slice none 0 0],rfl,?_⟩
      ·rw[sM ho,cP]
      ·simp only[Own];exact .inl ⟨by trivial,by trivial⟩
     intro K Q hK;exact aK.inv hI hd hid ay b9 hK
    ·exact h.elim
 ·exact hm _ h
theorem agZ{w:World}{X2 ty e:TypeId}{i:TypeInfo}{z:Value}{k2:IntKind}(hX:P.underlying X=some (.slice e))(hR:P.underlying X2=some (.int k2))(hi:P.info? e=some i)(hz:i.zero=some z)
  {n:Int} (h0:0<n) (hm:n<=140737488355328) (hb:n*i.bytes<=140737488355328) (bm:i.size≠0) :
  (Builtin.append_ #[X,X2] ty #[.slice none 0 0,.int .i64 n]).run P w = .ok (.slice (some ⟨w.heap.size,0,none⟩) n.toNat (grownCap w n.toNat 0 e))
   (w.drew.alloc (.cells (Builtin.zeroCells z.cells n.toNat++Builtin.zeroCells z.cells (grownCap w n.toNat 0 e - n.toNat)) e)):=by
 obtain⟨n,rfl⟩:∃k:Nat,n=k:=⟨n.toNat,by omega⟩;have hbn:n*i.bytes<=140737488355328:=by
  have:((n*i.bytes:Nat):Int)<=140737488355328:=by rw[Int.natCast_mul];exact hb
  omega
 have hf:=growslice_fits (need:=n) (old:=0) (bytes:=i.bytes) (by omega) hbn;have e1:¬(0+n<=0):=by omega
 have e2:¬(9223372036854775807<(n:Int)):=by omega
 have e3:¬(281474976710656<Builtin.nextslicecap n 0*i.bytes):=by omega
 have wn:IntKind.i64.wrap (n:Int)=n:=IntWalk.i64_in _ (by omega);have e4:¬((n:Int)<0):=by omega
 have e5:¬(281474976710656<(n:Int)*(i.bytes:Int)):=by omega
 have e7:¬n=0:=by omega
 have e6:¬(n*i.size=0):=by
  intro h;rcases Nat.mul_eq_zero.1 h with h|h
  ·omega
  ·exact bm h
 have IZ:=run_firstCells_none (P:=P) w.drew i.size 0 0 0;simp[Builtin.append_,run_underlying hX,run_underlying hR,sizeOf,typeInfo,zeroValue,hi,hz,wn,asInt,asIntOf,e1,e2,e3,e4,e5,e6,e7,Question.forced,IZ,newRow,grownCap]
end
def KT(vs:List Nat)(N s:Nat)(h:Nat->Option Nat)(m:M (List (Nat×V))):M (List (Nat×V)):=
 .get s λv=>match v with
 | .bC l=>cond (partsOf s h 0 0 l).isEmpty m
   (if cc (s::(partsOf s h 0 0 l).map (·.1.1))=true/\((partsOf s h 0 0 l).all λp=>decide (p.1.1<N))=true/\vs.contains s=true/\s<N then
    gX true s s ((partsOf s h 0 0 l).map (·.1.1)) (vU ((partsOf s h 0 0 l).map (·.1.1)) ((m.eE ((partsOf s h 0 0 l).map (λp=>(p.1.1,p.2))++[(s,.bC (gQ l))])).bind λups =>
     .ret (((partsOf s h 0 0 l).map (λp=>(p.1.1,p.2))++[(s,.bC (gQ l))])++ups)))
   else m)
 | _=>m
def Dr(vs:List Nat)(N d:Nat)(h:Nat->Option Nat)(ups:List (Nat×V)):M (List (Nat×V)):=
 match ups.getLast? with
 | some (d',.bC l)=>cond (d'==d && !(partsOf d h 0 0 l).isEmpty)
   (if cc (d::(partsOf d h 0 0 l).map (·.1.1))=true/\((partsOf d h 0 0 l).all λp=>decide (p.1.1<N))=true/\vs.contains d=true/\d<N/\(((partsOf d h 0 0 l).map (·.1.1)).all λe => !(ups.map (·.1)).contains e)=true/\(ups.all λp => !p.2.on d)=true then
    gX true d d ((partsOf d h 0 0 l).map (·.1.1)) (vU ((partsOf d h 0 0 l).map (·.1.1)) (.ret (ups++((partsOf d h 0 0 l).map (λp=>(p.1.1,p.2))++[(d,.bC (gQ l))]))))
   else .ret ups) (.ret ups)
 | _=>.ret ups
section
variable{P:Program}{C:Ctx}{w w' w0:World}{L L' L0:Nat->aj}{s N:Nat}{vs:List Nat}{T T':List V}{a:Act}
theorem dT.ahk[ae](hI:Inv w0 L0 N vs T a w L)(d:Nat)(q:List Nat)(ob:Obj):dT w (w.drew.alloc ob) L (λk=>if k=w.heap.size then .own d q else L k) d:=by
 refine⟨rfl,rfl,rfl,by simp,Nat.le_succ _,λk hk=>?_,λk s q' hk h=>?_,λk k' q' hk aG h h'=>?_,λk hk=>?_⟩
 ·rw[if_neg (by omega)];exact⟨rfl,Go.RowKit.Below.heap_alloc w.drew ob k hk⟩
 ·split at h
  ·injection h with h _;exact h.symm
  ·rw[hI.free k hk]at h;cases h
 ·split at h
  ·split at h'
   ·omega
   ·rw[hI.free k' aG]at h';cases h'
  ·rw[hI.free k hk]at h;cases h
 ·simp at hk;rw[if_neg (by omega)];exact hI.free k (by omega)
theorem anv[ae](hI:Inv w0 L0 N vs T a w L)(hC:bA P C){o:Oper}{X2:TypeId}{sO xO:Operand}    
  (ho:o.op = .call { callee:=.builtin .append,args:=#[sO,xO],argTypes:=#[X,X2] }) (ay:o.dst=some d) (hd:d<N) (hid:(T.getD d .dead).idle=true)
  (h:(Ln C d X X2 sO xO m).ai T ups log) (hm:∀log,m.ai T ups log->Step P o w0 L0 N vs (ag T ups) a w):Step P o w0 L0 N vs (ag T ups) a w:=by
 unfold Ln at h;split at h
 ·rename_i s;obtain⟨aC,rfl,h⟩:=h;dsimp only at h;cases hn:isNil (T.getD s .dead)with
  | false=>rw[hn]at h;exact hm _ h
  | true =>
   rw[hn,cond_true]at h;have hv:=CF hI hn;have cP:a.eval (.tmp s) = .slice none 0 0:=hv;split at h
   ·rename_i e t k2 hX hR;obtain⟨u,l1,l2,rfl,h1,h⟩:=M.an h;split at h
    ·rename_i lu nu n;obtain⟨hc,rfl,_⟩:=h;simp only[Bool.and_eq_true,decide_eq_true_eq]at hc;obtain⟨⟨⟨ig,bm⟩,hb⟩,mO⟩:=hc;obtain⟨hu,he⟩:=(hC X _ hX).bX;have Jr:=(hC X2 _ hR).bX;obtain⟨i,z,i1,i2,i3,i4,i5⟩:=(hC e t he).info;have dO:∀v∈t.cd,v.oneCell'=true:=Own.one (Own.zero (w:=w) (L:=L) (S:=λ_=>True) (s:=0) (n:=0) (t:=t) (q:=[]) (o:=0));have iP:=Form.cells i5 dO;have gM:z.cells.size=t.sz:=by rw[<-Array.length_toList,iP,Ty.jm]
     have hx:=gu hI h1;have aO:=agZ (P:=P) (w:=w) (ty:=o.type) hu Jr i1 i4 ig mO (by rw[i3];exact hb) (by rw[i2];exact bm);obtain⟨k,hk⟩:∃k:Int,k=n:=⟨n,rfl⟩;have aq6:k<=140737488355328:=by rw[hk];exact mO
     have sf:k.toNat<=maxLen:=by simp only[maxLen];omega
     rw[hk]at sf;have aq4:n.toNat<=maxLen:=sf;have ln:=grownCap_ge w n.toNat 0 e;have Cj:=grownCap_le_maxLen w n.toNat 0 e sf;have vg:(execOp a.eval o).run P w = .ok (.value (.slice (some ⟨w.heap.size,0,none⟩) n.toNat (grownCap w n.toNat 0 e))) (w.drew.alloc (.cells (Builtin.zeroCells z.cells n.toNat++Builtin.zeroCells z.cells (grownCap w n.toNat 0 e - n.toNat)) e)):=by
      simp[execOp,ho,resolve,invoke,builtin,cP,hx,aO]
     have b9:aK P o vs T a w L d (.d none (t.depth+1) (.slice e t) (List.replicate n.toNat t.zero)):=by
      refine⟨_,_,_,vg,dT.ahk hI d [0] _,λ_ _ _ _=>by simp[V.aJ,Ty.depth],λr hr=>by simp[V.on,V.root]at hr,by simp,_,rfl,?_⟩;simp only[Own];refine .inr ⟨w.heap.size,grownCap w n.toNat 0 e,_,by simp,by simp,n5 w.drew _,by simpa using ln,Cj,?_,λj hj=>?_⟩
      ·rw[Array.size_append,size_zeroCells,size_zeroCells,gM,<-Nat.add_mul];congr 1;omega
      ·simp only[List.length_replicate]at hj;have px:(((Builtin.zeroCells z.cells n.toNat++Builtin.zeroCells z.cells (grownCap w n.toNat 0 e - n.toNat)).toList.drop (j*t.sz)).take t.sz)=t.cd:=by
        have:=J2 z.cells n.toNat j hj;rw[gM]at this;rw[<-iP,<-this];refine qx λk hk=>?_;have av:(j+1)*t.sz<=n.toNat*t.sz:=Nat.mul_le_mul_right _ (by omega);rw[Nat.add_mul,Nat.one_mul]at av;rw[Array.getElem?_toList,Array.getElem?_toList,Array.getElem?_append_left (by rw[size_zeroCells,gM];omega)];unfold Builtin.zeroCells;rw[gM]
       rw[px,List.getElem_replicate];exact Own.zero
     intro K Q hK;exact aK.inv hI hd hid ay b9 hK
    ·exact h.elim
   ·exact h.elim
 ·exact hm _ h
theorem XI:{U:List (Nat×V)}->cc (U.map (·.1))=true->∀{z:Nat} {v:V},(z,v)∈U->ek U z=some v
 | [],_,z,v,h=>by cases h
 | (k,u)::U,hn,z,v,h=>by
  simp only[List.map_cons,cc,Bool.and_eq_true,Bool.not_eq_true']at hn;simp only[ek];rcases List.mem_cons.1 h with h|h
  ·injection h with h1 h2;subst h1 h2;simp
  ·have:(k==z)=false:=by
    cases hk:k==z with
    | false=>rfl
    | true =>
     have e:k=z:=by simpa using hk
     subst e;have:=List.contains_iff_mem.2 (List.mem_map_of_mem (f:=(·.1)) h);rw[hn.1]at this;cases this
   rw[this];simpa using XI hn.2 h
theorem XJ:{U:List (Nat×V)}->{z:Nat}->z∉U.map (·.1)->ek U z=none
 | [],z,h=>rfl
 | (k,u)::U,z,h=>by
  simp only[List.map_cons,List.mem_cons,not_or]at h;simp only[ek];have:(k==z)=false:=by simpa using Ne.symm h.1
  rw[this];simpa using XJ h.2
theorem alu[ae]{U:List (Nat×V)}(hn:cc (U.map (·.1))=true){T:List V}(hl:∀z∈U.map (·.1),z<T.length)(z:Nat):(ag T U).getD z .dead=(ek U z).getD (T.getD z .dead):=by
 by_cases hz:z∈U.map (·.1)
 ·obtain⟨⟨k,v⟩,hm,rfl⟩:=List.mem_map.1 hz;rw[XI hn hm];exact rR hn hm (hl _ hz)
 ·rw[XJ hz];exact eK _ _ _ hz
theorem amY[ae](hI:Inv w0 L0 N vs T a w L){s:Nat}{h0:Nat->Option Nat}{l:List lX}(cK:cc (s::(partsOf s h0 0 0 l).map (·.1.1))=true)
  (av:((partsOf s h0 0 0 l).all λp=>decide (p.1.1<N))=true) (bY:s<N) :
  cc (((partsOf s h0 0 0 l).map (λp=>(p.1.1,p.2))++[(s,V.bC (gQ l))]).map (·.1))=true/\∀z∈((partsOf s h0 0 0 l).map (λp=>(p.1.1,p.2))++[(s,V.bC (gQ l))]).map (·.1),z<T.length:=by
 generalize lC:partsOf s h0 0 0 l=ps at cK av;have vC:=Kl cK;have iU:ps.map (·.1.1)=(ps.map (·.1)).map (·.1):=by rw[List.map_map];rfl
 obtain⟨kz,pD⟩:=List.nodup_cons.1 vC;have hU:(ps.map (λp=>(p.1.1,p.2))++[(s,V.bC (gQ l))]).map (·.1)=ps.map (·.1.1)++[s]:=by simp[List.map_map,Function.comp_def]
 refine⟨?_,λz hz=>?_⟩
 ·rw[hU];refine wC ?_;rw[List.nodup_append];refine⟨pD,by simp,λx hx y hy e=>?_⟩;rw[List.mem_singleton]at hy;subst e hy;exact kz hx
 ·rw[hU]at hz;rcases List.mem_append.1 hz with hz|hz
  ·obtain⟨p,hp,rfl⟩:=List.mem_map.1 hz;rw[List.all_eq_true]at av;rw[hI.len];simpa using av _ hp
  ·rw[List.mem_singleton.1 hz,hI.len];exact bY
theorem Inv.split[ae](hI:Inv w0 L0 N vs T a w L){s:Nat}{h0:Nat->Option Nat}{l:List lX}(hv:T.getD s .dead = .bC l)(cK:cc (s::(partsOf s h0 0 0 l).map (·.1.1))=true)
  (av:((partsOf s h0 0 0 l).all λp=>decide (p.1.1<N))=true) (iV:vs.contains s=true) (bY:s<N) (cF:∀z,¬z=s->(T.getD z .dead).on s=false)
  (jC:∀e∈(partsOf s h0 0 0 l).map (·.1.1),(T.getD e .dead).idle=true):∃L',Inv w0 L0 N vs (ag T ((partsOf s h0 0 0 l).map (λp=>(p.1.1,p.2))++[(s,.bC (gQ l))])) a w L':=by
 have hs:=hI.aW s;rw[hv]at hs;obtain⟨dj,dR,dz⟩:=hs;generalize lC:partsOf s h0 0 0 l=ps at cK av jC;have vM:eH 0 (ps.map (·.1)):=by rw[<-lC];exact De
 have vC:=Kl cK;have iU:ps.map (·.1.1)=(ps.map (·.1)).map (·.1):=by rw[List.map_map];rfl
 obtain⟨kz,pD⟩:=List.nodup_cons.1 vC;have vB:cc ((ps.map (·.1)).map (·.1))=true:=by rw[<-iU];exact wC pD
 have bc:s<T.length:=by rw[hI.len];exact bY
 let U:List (Nat×V):=ps.map (λp=>(p.1.1,p.2))++[(s,.bC (gQ l))];have hU:U.map (·.1)=ps.map (·.1.1)++[s]:=by simp[U,List.map_map,Function.comp_def]
 have nY:cc (U.map (·.1))=true:=by
  rw[hU];refine wC ?_;rw[List.nodup_append];refine⟨pD,by simp,λx hx y hy e=>?_⟩;rw[List.mem_singleton]at hy;subst e hy;exact kz hx
 have Cd:∀z∈U.map (·.1),z<T.length:=by
  intro z hz;rw[hU]at hz;rcases List.mem_append.1 hz with hz|hz
  ·obtain⟨p,hp,rfl⟩:=List.mem_map.1 hz;rw[List.all_eq_true]at av;rw[hI.len];simpa using av _ hp
  ·rw[List.mem_singleton.1 hz];exact bc
 have bI:(ag T U).getD s .dead = .bC (gQ l):=rR nY (by simp[U]) bc;have pt:∀p v,(p,v)∈ps->(ag T U).getD p.1 .dead=v:=by
  intro p v hp;refine rR nY ?_ (Cd _ ?_)
  ·exact List.mem_append_left _ (List.mem_map.2 ⟨(p,v),hp,rfl⟩)
  ·rw[hU];exact List.mem_append_left _ (List.mem_map.2 ⟨(p,v),hp,rfl⟩)
 have bo:∀z,¬(z=s\/z∈(ps.map (·.1)).map (·.1))->(ag T U).getD z .dead=T.getD z .dead:=by
  intro z hz;refine eK _ _ _ ?_;rw[hU,iU];intro hm;rcases List.mem_append.1 hm with hm|hm
  ·exact hz (.inr hm)
  ·exact hz (.inl (List.mem_singleton.1 hm))
 have pG:∀p v,(p,v)∈ps->∃j n t x u cs,v = .part s j n t x/\dj.toList[j]?=some u/\t.sz=p.2.2/\Form t cs u/\Own w L (SL L none) s n t x [] p.2.1 cs:=by
  intro p v hp;rw[<-lC]at hp;obtain⟨j,n,t,x,u,cs,e1,e2⟩:=Ku dz p v hp;exact⟨0+j,n,t,x,u,cs,e1,by rw[Nat.zero_add];exact e2⟩
 have fT:∀z,z∈(ps.map (·.1)).map (·.1)->∃p v,(p,v)∈ps/\p.1=z:=by
  intro z hz;rw[<-iU]at hz;obtain⟨⟨p,v⟩,hp,rfl⟩:=List.mem_map.1 hz;exact⟨p,v,hp,rfl⟩
 have aip:fj (kH s s (ps.map (·.1))) (λz=>z=s\/z=s\/z∈(ps.map (·.1)).map (·.1)):=Yy vM vB;have jA:fj (kH s s (ps.map (·.1))) (λz=>z=s\/z∈(ps.map (·.1)).map (·.1)):=by
  have e:(λz=>z=s\/z=s\/z∈(ps.map (·.1)).map (·.1))=(λz=>z=s\/z∈(ps.map (·.1)).map (·.1)):=by
   funext z;apply propext;constructor
   ·rintro (h|h|h)
    ·exact .inl h
    ·exact .inl h
    ·exact .inr h
   ·rintro (h|h)
    ·exact .inl h
    ·exact .inr (.inr h)
  rwa [e]at aip
 refine⟨aT (kH s s (ps.map (·.1))) w L (λ_=>.free),Inv.gw (T':=ag T U) hI jA (Wd.refl hI _) (λ_ _ _ _ _ h=>by cases h) hI.size (by rw[cr,hI.len]) hI.dG ?_ ?_ ?_ ?_ ?_⟩
 ·intro k z q hz hk;rcases hz with rfl|hz
  ·rw[bI];rfl
  ·obtain⟨p,v,hp,rfl⟩:=fT z hz;rw[pt p v hp];obtain⟨j,n,t,x,u,cs,rfl,_⟩:=pG p v hp;rfl
 ·intro z r hz af hr;rcases hr with rfl|hr
  ·exfalso;have dA:z≠r:=λe=>hz (.inl e);rw[cF z dA]at af;cases af
  ·exact V.jP (jC r (by rw[iU];exact hr))
 ·intro z hz;exact⟨bo z hz,rfl⟩
 ·intro z r hz af;rcases hz with rfl|hz
  ·rw[bI]at af;simp[V.on,V.root]at af
  ·obtain⟨p,v,hp,rfl⟩:=fT z hz;rw[pt p v hp]at af;obtain⟨j,n,t,x,u,cs,rfl,_⟩:=pG p v hp;simp only[V.on,V.root,beq_iff_eq,Option.some.injEq]at af;subst af;exact List.contains_iff_mem.1 iV
 ·intro z hz;rcases hz with rfl|hz
  ·rw[bI];exact⟨dj,dR,KE (λk hk=>⟨dY hI hk,rfl⟩) dz⟩
  ·obtain⟨p,v,hp,rfl⟩:=fT z hz;rw[pt p v hp];obtain⟨j,n,t,x,u,cs,rfl,e2,e3,e4,e5⟩:=pG p v hp;refine⟨by rw[bI];rfl,dj,u,cs,dR,by simpa using e2,e4,?_⟩;refine Own.move (λk hk=>?_) (λk i rest hi hk=>⟨?_,rfl⟩) e5
   ·rcases hk with hk|⟨_,_,hk,_⟩
    ·exact⟨.inl (dY hI hk),rfl⟩
    ·cases hk
   ·have aG:L k = .own s ((p.2.1+i)::rest):=by simpa using hk
    rw[cR hI (by rw[aG];simp),aG];have:=Yx (s:=s) (d:=s) vM vB (List.mem_map_of_mem (f:=(·.1)) hp) (i:=i) (by rw[<-e3];exact hi) (rest:=rest);simpa[er]using this
theorem amX[ae]{s:Nat}{h0:Nat->Option Nat}(hI:Inv w0 L0 N vs T a w L)(h:(KT vs N s h0 m).ai T ups log):
  ∃T1 L1 bF log2,Inv w0 L0 N vs T1 a w L1/\m.ai T1 bF log2/\ag T ups=ag T1 bF:=by
 unfold KT at h;obtain⟨aC,rfl,h⟩:=h;dsimp only at h;generalize hv:T.getD s .dead=v at h;split at h
 ·rename_i l;cases he:(partsOf s h0 0 0 l).isEmpty with
  | true=>rw[he]at h;exact⟨T,L,ups,_,hI,h,rfl⟩
  | false =>
   rw[he,cond_false]at h;split at h
   ·rename_i hc;obtain⟨cK,av,iV,bY⟩:=hc;obtain⟨cF,log2,h⟩:=jw h;obtain⟨jC,fw,h⟩:=CE h;have hb:=M.an h;clear h;obtain⟨bF,l3,l4,rfl,h1,h2⟩:=hb;obtain⟨rfl,_⟩:=h2;obtain⟨L1,br⟩:=Inv.split hI hv cK av iV bY (λz hz=>by simpa using cF z hz) jC;have bc:s<T.length:=by rw[hI.len];exact bY
    obtain⟨nY,Cd⟩:=amY hI cK av bY;obtain⟨iZ,h1⟩:=ow (T':=ag T ((partsOf s h0 0 0 l).map (λp=>(p.1.1,p.2))++[(s,.bC (gQ l))])) (by simp[cr]) Cd (alu nY Cd) _ h1;exact⟨_,L1,bF,iZ,br,h1,by rw[kK]⟩
   ·exact⟨T,L,ups,_,hI,h,rfl⟩
 ·exact⟨T,L,ups,_,hI,h,rfl⟩
theorem amL{ups:List (Nat×V)}:∀{T:List V} {z:Nat},(ag T ups).getD z .dead=T.getD z .dead\/∃v,(z,v)∈ups/\(ag T ups).getD z .dead=v:=by
 induction ups with
 | nil=>intro T z;exact .inl rfl
 | cons u l ih =>
  intro T z;have e:ag T (u::l)=ag (T.set u.1 u.2) l:=rfl;rw[e];rcases ih (T:=T.set u.1 u.2) (z:=z)with h|⟨v,h1,h2⟩
  ·rw[h,aF];split
   ·rename_i hz;exact .inr ⟨u.2,by rw[hz.1];exact List.mem_cons_self,rfl⟩
   ·exact .inl rfl
  ·exact .inr ⟨v,List.mem_cons_of_mem _ h1,h2⟩
theorem Zb[ae](hI:Inv w0 L0 N vs T a w L){h0:Nat->Option Nat}{ups:List (Nat×V)} 
  (h:(m.bind (Dr vs N d h0)).ai T ups log) (hm:∀ups log,m.ai T ups log->Step P o w0 L0 N vs (ag T ups) a w):Step P o w0 L0 N vs (ag T ups) a w:=by
 obtain⟨xb,l1,l2,rfl,h1,h⟩:=M.an h;have a6:=hm _ _ h1;unfold Dr at h;split at h
 ·rename_i d' l Vu;cases hY:(d'==d && !(partsOf d h0 0 0 l).isEmpty)with
  | false=>rw[hY]at h;obtain⟨rfl,_⟩:=h;exact a6
  | true =>
   rw[hY,cond_true]at h;simp only[Bool.and_eq_true,beq_iff_eq]at hY;obtain⟨rfl,_⟩:=hY;split at h
   ·rename_i hc;obtain⟨cK,av,iV,bY,hk,af⟩:=hc;obtain⟨cF,log2,h⟩:=jw h;obtain⟨jC,fw,h⟩:=CE h;obtain⟨rfl,_⟩:=h;have Ck:d'<T.length:=by rw[hI.len];exact bY
    have iM:(ag T xb).getD d' .dead = .bC l:=by
     obtain⟨ys,rfl⟩:∃ys,xb=ys++[(d',V.bC l)]:=by
      rw[List.getLast?_eq_some_iff]at Vu;exact Vu
     rw[kK];show ((ag T ys).set d' (V.bC l)).getD d' .dead=_;rw[aF,if_pos ⟨rfl,by rw[cr];exact Ck⟩]
    intro K Q hK;refine a6 K Q (λa' w' L' hG=>?_);have pw:∀z,¬z=d'->((ag T xb).getD z .dead).on d'=false:=by
     intro z hz;rcases amL (T:=T) (ups:=xb) (z:=z)with h|⟨v,h,h2⟩
     ·rw[h];simpa using cF z hz
     ·rw[h2];rw[List.all_eq_true]at af;simpa using af _ h
    have vm:∀e∈(partsOf d' h0 0 0 l).map (·.1.1),((ag T xb).getD e .dead).idle=true:=by
     intro e he;rw[List.all_eq_true]at hk;have Vo:=hk e he;rw[eK _ _ _ (λhm=>by
      rw[List.contains_iff_mem.2 hm]at Vo;cases Vo)]
     exact jC e he
    obtain⟨L1,br⟩:=Inv.split hG iM cK av iV bY pw vm;rw[kK]at hK;exact hK a' w' L1 br
   ·obtain⟨rfl,_⟩:=h;exact a6
 ·obtain⟨rfl,_⟩:=h;exact a6
end
def eB(N d:Nat)(m:M (List (Nat×V))):M (List (Nat×V)):=.get d λv=>.bl (v.idle&&decide (d<N)) m
def lQ(C:Ctx)(vs:List Nat)(d:Nat)(o:Oper):M (List (Nat×V)):=(Ky C o).bind λv=>.bl (fy vs v) (.ret [(d,v)])
def CU(C:Ctx)(d:Nat)(mx:Bool)(args:List Operand):M (List (Nat×V)):=
 match args with
 | [x,y]=>(cB C 0 x).bind λu=>(cB C 0 y).bind λv=>match u,v with
  | .d _ _ (.int k) m,.d _ _ (.int _) n=>.ret [(d,.d none 0 (.int k) (cond mx (if m<n then n else m) (if n<m then n else m)))]
  | _,_=>.fail
 | _=>.fail
def TC(C:Ctx)(vs:List Nat)(X:TypeId)(d:Nat)(x:Operand):M (List (Nat×V)):=
 (cB C X x).bind λv=>match v with
 | .d l k t y=>if C.ty X=some t/\(k=0\/t.depth=0)then .bl (fy vs (.box l 0 t y)) (.ret [(d,.box l 0 t y)])else .fail
 | _=>.fail
def C3(C:Ctx)(vs:List Nat)(N d:Nat)(X:TypeId)(x:Operand)(hx:Nat->Nat->Option Nat):M (List (Nat×V)):=
 match x with
 | .tmp s=>.get s λv=>match v with
  | .bC _=>.bl (decide (d<N)) (Zn vs N d s (hx d))
  | _=>BR C vs N d X x
 | _=>BR C vs N d X x
def tmpsOf:List Operand->List Nat
 | []=>[]
 | .tmp s::l=>s::tmpsOf l
 | _::l=>tmpsOf l
def agV(C:Ctx)(X:TypeId)(s x:Operand):List Nat :=
 match C.ty X with
 | some (.slice _ t)=>if t.depth=0 then tmpsOf [s]else tmpsOf [s,x]
 | _=>[]
structure Hints where
 hx:Nat->Nat->Option Nat
 bx:Nat->Bool
 kids:Nat->List Nat
def anz(C:Ctx)(vs:List Nat)(N:Nat)(hx:Hints)(X:TypeId)(t:Nat)(x:Operand):M (List (Nat×V)):=
 .get t λv=>match addrOf t v with
 | none=>.fail
 | some (r,p)=>.get r λu=>match u with
  | .hole u' p'=>Iu C vs N (hx.kids r) X r p u' p' x
  | _=>(λm=>cond (hx.bx (3000+r)) (J7 C vs N (hx.kids r) X r p u x m) m) <| match p with
   | []=>cond (hx.bx r) (DE C vs N (hx.kids r) X r u x (kM C vs N (some (hx.kids r)) X t x)) (kM C vs N none X t x)
   | _::_=>cond (hx.bx r) (KZ C N (hx.kids r) X r p u x (kM C vs N (some (hx.kids r)) X t x)) (cond (hx.bx (5000+r)) (K1 C N (hx.kids r) X r p u x (kM C vs N none X t x)) (kM C vs N none X t x))
def ahA(bf:dx)(f:FuncId):Bool:=match bf f with
 | some F=>(F.rs.any λp=>decide (p.2<p.1.depth)) || !po F.ps
 | none=>false
def amy(bf:dx)(f:FuncId)(l:List Operand):List Operand:=match bf f with
 | some F=>((F.ps.zip l).filter λp=>match p.1.2 with | .ro=>true|_=>false).map (·.2)
 | none=>l
def BT(C:Ctx)(d:Nat)(l:List Operand)(cw:List TypeId)(m:M (List (Nat×V))):M (List (Nat×V)):=match cw with
 | [X]=>match C.ty X with
  | some (.slice _ _)=>HZ d l m
  | _=>m
 | _=>m
def KW(C:Ctx)(bf:dx)(vs:List Nat)(hx:Hints)(N:Nat)(o:Oper):M (List (Nat×V)):=
 match o.dst with
 | none=>match o.op with
  | .store X (.tmp t) x=>sA 1 N (cond (hx.bx (9000+t)) [t] []) <| pP N (cond (hx.bx (8000+t)) (tmpsOf [x]) []) (pY vs N (cond (hx.bx (7000+t)) (tmpsOf [x]) []) (lV N hx.kids (tmpsOf [x]) (anz C vs N hx X t x)))
  | _=>.fail
 | some d=>match o.op with
  | .move x=>cond (hx.bx (6000+d)) (eB N d (Kg C d true o.type x (uT vs N d (hx.bx (1000+d)) x (C3 C vs N d o.type x hx.hx)))) (uT vs N d (hx.bx (1000+d)) x (C3 C vs N d o.type x hx.hx))
  | .load X (.tmp t)=>wQ N t (cond (hx.bx (1000+d)) (Ik C N X d t) (eB N d (lQ C vs d o)))
  | .nilCheck (.tmp t)=>wQ N t (eB N d (lQ C vs d o))
  | .makeFunc (.func g) ⟨[]⟩ gy=>sK N (tmpsOf gy.toList) (eB N d (TN d g gy.toList))
  | .indexAddr X (.tmp t) y=>eB N d (Ii C vs X d t y (lQ C vs d o))
  | .assign x=>BR C vs N d o.type x
  | .box X x=>eB N d (HP C vs X d x (TC C vs X d x))
  | .build X parts=>lV N hx.kids (tmpsOf (parts.toList.map (·.2))) (eB N d (HN C vs X d parts.toList))
  | .buildSlice X len parts=>pY vs N (cond (hx.bx (7000+d)) (tmpsOf (parts.toList.map (·.2))) []) (lV N hx.kids (tmpsOf (parts.toList.map (·.2))) (eB N d (KF C vs X d len parts.toList)))
  | .extract (.tmp s) i=>KT vs N s (hx.hx s) (.bl (decide (d<N)) (Ui vs d (.tmp s) i))
  | .slice X (.tmp s) lo hi none=>eB N d (Ie C vs N d (hx.bx (6000+d)) X s lo hi (lQ C vs d o))
  | .fieldAddr X (.tmp t) f=>wQ N t (cond (hx.bx t) (eB N d ((Uj C X f t).bind λv=>.bl (fy vs v) (.ret [(d,v)]))) (eB N d (lQ C vs d o)))
  | .call c=>match c.callee with
   | .value (.func f)=>sA 1 N (cond (hx.bx (9000+d)) ((tmpsOf c.args.toList).filter λs => !vs.contains s) []) <| pP N (cond (ahA bf f) ((tmpsOf (amy bf f c.args.toList)).filter λs => !vs.contains s) []) (eB N d ((HX C bf vs N d f c.args.toList).bind (Dr vs N d (hx.hx d))))
   | .value (.tmp s)=>eB N d ((HR C bf vs d s c.args.toList).bind (Dr vs N d (hx.hx d)))
   | .builtin .max=>eB N d (CU C d true c.args.toList)
   | .builtin .len=>eB N d (BT C d c.args.toList c.argTypes.toList (Ij C d c.args.toList c.argTypes.toList (lQ C vs d o)))
   | .builtin .cap=>eB N d (BT C d c.args.toList c.argTypes.toList .fail)
   | .builtin .min=>eB N d (CU C d false c.args.toList)
   | .builtin .append=>match c.args,c.argTypes with
    | ⟨[s,x]⟩,⟨[X,X2]⟩=>lV N hx.kids (agV C X s x) (eB N d (Ln C d X X2 s x (Hy C vs d X X2 s x)))
    | _,_=>.fail
   | _=>eB N d (lQ C vs d o)
  | _=>eB N d (lQ C vs d o)
section
variable{P:Program}{C:Ctx}{w w' w0:World}{L L' L0:Nat->aj}{N:Nat}{vs:List Nat}{T T':List V}{a:Act}
theorem fu(h:(eB N d m).ai T ups log):(T.getD d .dead).idle=true/\d<N/\∃log,m.ai T ups log:=by
 obtain⟨aC,rfl,hc,h⟩:=h;simp only[Bool.and_eq_true,decide_eq_true_eq]at hc;exact⟨hc.1,hc.2,aC,h⟩
theorem qo[ae](hI:Inv w0 L0 N vs T a w L)(hC:bA P C)(ay:o.dst=some d)(hd:d<N)(hid:(T.getD d .dead).idle=true)
  (h:(lQ C vs d o).ai T ups log):Step P o w0 L0 N vs (ag T ups) a w:=by
 obtain⟨v,l1,l2,rfl,h1,aI,rfl,_⟩:=M.an h;intro K Q hK;exact aK.inv hI hd hid ay (amn hI hC hid (sG aI) h1) hK
theorem Y8[ae](hI:Inv w0 L0 N vs T a w L){mx:Bool}(ho:o.op = .call { callee:=.builtin (cond mx .max .min),args,argTypes:=cw })(ay:o.dst=some d)(hd:d<N)(hid:(T.getD d .dead).idle=true)
  (h:(CU C d mx args.toList).ai T ups log):Step P o w0 L0 N vs (ag T ups) a w:=by
 obtain⟨args⟩:=args;dsimp only at h;unfold CU at h;split at h
 ·rename_i x y;obtain⟨u,l1,l2,rfl,h1,h⟩:=M.an h;obtain⟨v,l3,l4,rfl,h2,h⟩:=M.an h;split at h
  ·rename_i l n k m l' n' k' m' _;obtain⟨rfl,_⟩:=h;have hx:=gu hI h1;have hy:=gu hI h2;have b9:aK P o vs T a w L d (.d none 0 (.int k) (cond mx (if m<m' then m' else m) (if m'<m then m' else m))):=by
    refine aK.still hI ?_ (λ_=>rfl) az.mkInt;cases mx with
    | true=>simp[execOp,ho,resolve,invoke,builtin,Builtin.max_,Builtin.max2,hx,hy]
    | false=>simp[execOp,ho,resolve,invoke,builtin,Builtin.min_,Builtin.min2,hx,hy]
   intro K Q hK;exact aK.inv hI hd hid ay b9 hK
  ·exact h.elim
 ·exact h.elim
theorem am4[ae](hI:Inv w0 L0 N vs T a w L)(hC:bA P C){x:Operand}(ho:o.op = .box X x)(ay:o.dst=some d)(hd:d<N)(hid:(T.getD d .dead).idle=true)
  (h:(TC C vs X d x).ai T ups log):Step P o w0 L0 N vs (ag T ups) a w:=by
 obtain⟨v,l1,l2,rfl,h1,h2⟩:=M.an h;split at h2
 ·rename_i l k t y;split at h2
  ·rename_i hc;obtain⟨hX,hk⟩:=hc;obtain⟨aI,rfl,_⟩:=h2;have dz:∃s0,az L T a.tmps s0 (.d l k t y) w (a.eval x):=by
    rcases jQ hI h1 with⟨s,_,_,hs⟩|⟨_,hs⟩
    ·exact⟨s,hs⟩
    ·exact⟨0,hs _ _ _ _ _⟩
   obtain⟨s0,cq,cs,hf,bR⟩:=dz;have cW:=Form.cells hf (Own.one bR);have aO:(execOp a.eval o).run P w = .ok (.value (.pointer (some ⟨w.heap.size,0,none⟩))) (w.alloc (.cells (a.eval x).cells X)):=by
    simp[execOp,ho,Instr.box,newVar,newRow,newObj,Sem.run]
   have b9:aK P o vs T a w L d (.box l 0 t y):=by
    refine⟨_,_,_,aO,dT.alloc hI d [] _,λ_ _ _ _=>rfl,sG aI,λr hr=>?_,w.heap.size,(a.eval x).cells,X,rfl,by simp,n5 _ _,?_,?_⟩
    ·have:=cq r hr;rw[aF,if_neg (λe=>cX hid (V.eR this) e.1)];exact this
    ·rw[<-Array.length_toList,cW,Own.len bR]
    ·rw[cW];have h0:=Own.ep (Own.bu (s':=0) (q':=[]) (o':=0) (n':=0) hk bR (.inl rfl));refine Own.dB (Rd.move (λk hk=>?_) h0);have av:k<w.heap.size:=hI.lt (by rcases hk with hk|⟨_,_,_,hk⟩<;>rw[hk]<;>simp);refine⟨?_,Go.RowKit.Below.heap_alloc w _ k av⟩;unfold SL;dsimp only;rw[if_neg (by omega)];exact hk
   intro K Q hK;exact aK.inv hI hd hid ay b9 hK
  ·exact h2.elim
 ·exact h2.elim
theorem uG[ae](hI:Inv w0 L0 N vs T a w L){t r:Nat}{p:List St}(he:addrOf t (T.getD t .dead)=some (r,p)):∃g,a.eval (.tmp t) = .pointer (some ⟨g,(node [] 0 p).2,none⟩)/\L g = .own r (node [] 0 p).1:=by
 have a6:=hI.aW t;generalize T.getD t .dead=v at he a6;cases v with
 | ptr r2 p2 t2 =>
  simp only[addrOf,Option.some.injEq,Prod.mk.injEq]at he;obtain⟨rfl,rfl⟩:=he;exact a6
 | box l n t2 x2 =>
  simp only[addrOf,Option.some.injEq,Prod.mk.injEq]at he;obtain⟨rfl,rfl⟩:=he;obtain⟨_,g,cur,e,h1,h2,_⟩:=a6;exact⟨g,h1,h2⟩
 | dead=>cases he
 | bC _=>cases he
 | d _ _ _ _=>cases he
 | rp _ _ _=>cases he
 | view _ _ _=>cases he
 | hole _ _=>cases he
 | part _ _ _ _ _=>cases he
 | bP _ _ _ _=>cases he
 | same _ _=>cases he
theorem Y7[ae](hI:Inv w0 L0 N vs T a w L)(hC:bA P C){b:Builtin}(hb:b = .cap\/b = .len)      
  (ho:o.op = .call { callee:=.builtin b,args,argTypes:=cw }) (ay:o.dst=some d) (hd:d<N) (hid:(T.getD d .dead).idle=true)
  (h:(BT C d args.toList cw.toList m).ai T ups log) (hm:∀log,m.ai T ups log->Step P o w0 L0 N vs (ag T ups) a w):Step P o w0 L0 N vs (ag T ups) a w:=by
 unfold BT at h;split at h
 ·rename_i X hX;split at h
  ·rename_i e t hCX;refine anf hI hb (λX' rW=>?_) ?_ ho ay hd hid h hm
   ·have:X'=X:=by
     have h0:cw.toList[0]?=some X':=by simpa using rW
     rw[hX]at h0;simpa using h0.symm
    subst this;exact⟨e,(hC _ _ hCX).bX.1⟩
   ·have:=congrArg List.length hX;simpa using this
  ·exact hm _ h
 ·exact hm _ h
theorem am3[ae](lx:P.follows .mixedOrders=true)(hC:bA P C){bf:dx}(dQ:fQ P bf){hx:Hints}{E:Env}(hE:E.step=KW C bf vs hx E.N):ry P w0 L0 vs E:=by
 refine⟨lx,?_⟩;intro o T ups log a w L hI h;rw[hE]at h;unfold KW at h;have VQ:∀{d:Nat},o.dst=some d->(eB E.N d (lQ C vs d o)).ai T ups log->Step P o w0 L0 E.N vs (ag T ups) a w:=by
  intro d ay h;obtain⟨h1,h2,log,h3⟩:=fu h;exact qo hI hC ay h2 h1 h3
 split at h
 ·rename_i ay;split at h
  ·rename_i X t x ho;obtain⟨T8,L8,aqv,als,IL,h,Jn⟩:=CR hI h;rw[Jn];obtain⟨T9,L9,arn,arh,hI9,h,ajb⟩:=vT IL h;rw[ajb];obtain⟨T0,L00,aqu,JY,IK,h,Jm⟩:=v7 hI9 h;rw[Jm];obtain⟨T1,L1,bF,log2,br,h,eA⟩:=nD IK h;rw[eA];obtain⟨l1,rfl,h⟩:=h;dsimp only at h;split at h
   ·exact h.elim
   ·rename_i r p u7;obtain⟨l2,rfl,h⟩:=h;dsimp only at h;split at h
    ·rename_i u' p' vP;exact ann br hC ho ay u7 (λr p=>uG br) vP h
    ·have hold:∀log,(match p with
       | []=>cond (hx.bx r) (DE C vs E.N (hx.kids r) X r (T1.getD r .dead) x (kM C vs E.N (some (hx.kids r)) X t x)) (kM C vs E.N none X t x)
       | _::_=>cond (hx.bx r) (KZ C E.N (hx.kids r) X r p (T1.getD r .dead) x (kM C vs E.N (some (hx.kids r)) X t x)) (cond (hx.bx (5000+r)) (K1 C E.N (hx.kids r) X r p (T1.getD r .dead) x (kM C vs E.N none X t x)) (kM C vs E.N none X t x)):M (List (Nat×V))).ai T1 bF log->Step P o w0 L0 E.N vs (ag T1 bF) a w:=by
      intro log h;split at h
      ·cases hb:hx.bx r with
       | true =>
        rw[hb,cond_true]at h;exact anu br hC ho ay u7 (λr p=>uG br) rfl (λh=>wU br hC ho ay h) h
       | false =>
        rw[hb,cond_false]at h;exact wU br hC ho ay h
      ·cases hb:hx.bx r with
       | true =>
        rw[hb,cond_true]at h;exact anr br hC ho ay u7 (λr p=>uG br) rfl h (λ_ h=>wU br hC ho ay h)
       | false =>
        rw[hb,cond_false]at h;cases U2:hx.bx (5000+r)with
        | true =>
         rw[U2,cond_true]at h;exact ans br hC ho ay u7 (λr p=>uG br) rfl h (λ_ h=>wU br hC ho ay h)
        | false =>
         rw[U2,cond_false]at h;exact wU br hC ho ay h
     cases U1:hx.bx (3000+r)with
     | true =>
      rw[U1,cond_true]at h;exact ano br hC ho ay u7 (λr p=>uG br) rfl h hold
     | false =>
      rw[U1,cond_false]at h;exact hold _ h
  ·exact h.elim
 ·rename_i d ay;split at h
  ·rename_i x ho;have hold:∀log,(uT vs E.N d (hx.bx (1000+d)) x (C3 C vs E.N d o.type x hx.hx)).ai T ups log->Step P o w0 L0 E.N vs (ag T ups) a w:=by
    intro log h;refine anl hI (.inl ho) ay h (λlog h=>?_);unfold C3 at h;split at h
    ·rename_i s;obtain⟨aC,rfl,h⟩:=h;dsimp only at h;split at h
     ·obtain⟨hd,h⟩:=h;exact ant hI (.inl ho) ay (by simpa using hd) h
     ·exact KX hI (.inl ho) ay h
    ·exact KX hI (.inl ho) ay h
   cases hb:hx.bx (6000+d)with
   | false=>rw[hb]at h;exact hold _ h
   | true =>
    rw[hb,cond_true]at h;obtain⟨h1,h2,log,h3⟩:=fu h;exact anp hI hC (.inl ho) ay h2 h1 h3 hold
  ·rename_i X t ho;obtain⟨T1,L1,bF,log2,br,h,eA⟩:=KH hI h;rw[eA];cases hb:hx.bx (1000+d)with
   | true=>rw[hb,cond_true]at h;exact ank br hC ho ay h
   | false =>
    rw[hb,cond_false]at h;obtain⟨h1,h2,log,h3⟩:=fu h;exact qo br hC ay h2 h1 h3
  ·rename_i t ho;obtain⟨T1,L1,bF,log2,br,h,eA⟩:=KH hI h;rw[eA];obtain⟨h1,h2,log,h3⟩:=fu h;exact qo br hC ay h2 h1 h3
  ·rename_i g gy ho;obtain⟨T1,L1,bF,log2,br,h,eA⟩:=Dh hI h;rw[eA];obtain⟨h1,h2,log,h3⟩:=fu h;exact ang br ho ay h2 h1 h3
  ·rename_i X t y ho;obtain⟨h1,h2,log,h3⟩:=fu h;exact ani hI hC ho ay h2 h1 h3 (λ_ hm=>qo hI hC ay h2 h1 hm)
  ·rename_i x ho;exact KX hI (.inr ho) ay h
  ·rename_i X x ho;obtain⟨h1,h2,log,h3⟩:=fu h;exact am6 hI hC ho ay h2 h1 h3 (λ_ hm=>am4 hI hC ho ay h2 h1 hm)
  ·rename_i X parts ho;obtain⟨T1,L1,bF,log2,br,h,eA⟩:=nD hI h;rw[eA];obtain⟨h1,h2,log,h3⟩:=fu h;exact am5 br hC ho ay h2 h1 h3
  ·rename_i X len parts ho;obtain⟨T0,L00,aqu,JY,IK,h,Jm⟩:=v7 hI h;rw[Jm];obtain⟨T1,L1,bF,log2,br,h,eA⟩:=nD IK h;rw[eA];obtain⟨h1,h2,log,h3⟩:=fu h;exact anq br hC ho ay h2 h1 h3
  ·rename_i s i ho;obtain⟨T1,L1,bF,log2,br,h,eA⟩:=amX hI h;rw[eA];obtain⟨hd,h⟩:=h;exact anm br ho ay (by simpa using hd) h
  ·rename_i X s lo hi ho;obtain⟨h1,h2,log,h3⟩:=fu h;exact anh hI hC ho ay h2 h1 h3 (λ_ hm=>qo hI hC ay h2 h1 hm)
  ·rename_i X t f ho;obtain⟨T1,L1,bF,log2,br,h,eA⟩:=KH hI h;rw[eA];cases hb:hx.bx t with
   | false =>
    rw[hb]at h;obtain⟨h1,h2,log,h3⟩:=fu h;exact qo br hC ay h2 h1 h3
   | true =>
    rw[hb]at h;obtain⟨h1,h2,log,h3⟩:=fu h;obtain⟨v,l1,l2,rfl,h4,aI,rfl,_⟩:=M.an h3;intro K Q hK;exact aK.inv br h2 h1 ay (amb br hC ho h4 (sG aI)) hK
  ·rename_i c ho;split at h
   ·rename_i f hf;obtain⟨T8,L8,aqv,als,IL,h,Jn⟩:=CR hI h;rw[Jn];obtain⟨T1,L1,bF,log2,br,h,eA⟩:=vT IL h;rw[eA];obtain⟨h1,h2,log,h3⟩:=fu h;obtain⟨callee,args,cw⟩:=c;dsimp only at hf h3;subst hf;exact Zb br h3 (λ_ _ h3=>ane br dQ ho ay h2 h1 h3)
   ·rename_i s hf;obtain⟨h1,h2,log,h3⟩:=fu h;obtain⟨callee,args,cw⟩:=c;dsimp only at hf h3;subst hf;exact Zb hI h3 (λ_ _ h3=>am8 hI dQ ho ay h2 h1 h3)
   ·rename_i hf;obtain⟨h1,h2,log,h3⟩:=fu h;obtain⟨callee,args,cw⟩:=c;dsimp only at hf h3;subst hf;exact Y8 hI (mx:=true) (by rw[ho];rfl) ay h2 h1 h3
   ·rename_i hf;obtain⟨h1,h2,log,h3⟩:=fu h;obtain⟨callee,args,cw⟩:=c;dsimp only at hf h3;subst hf;exact Y7 hI hC (.inr rfl) ho ay h2 h1 h3 (λ_ hm=>anj hI hC ho ay h2 h1 hm (λ_ hm=>qo hI hC ay h2 h1 hm))
   ·rename_i hf;obtain⟨h1,h2,log,h3⟩:=fu h;obtain⟨callee,args,cw⟩:=c;dsimp only at hf h3;subst hf;exact Y7 hI hC (.inl rfl) ho ay h2 h1 h3 (λ_ hm=>hm.elim)
   ·rename_i hf;obtain⟨h1,h2,log,h3⟩:=fu h;obtain⟨callee,args,cw⟩:=c;dsimp only at hf h3;subst hf;exact Y8 hI (mx:=false) (by rw[ho];rfl) ay h2 h1 h3
   ·rename_i hf;obtain⟨callee,args,cw⟩:=c;dsimp only at hf h;subst hf;split at h
    ·rename_i s x X X2;obtain⟨T1,L1,bF,log2,br,h,eA⟩:=nD hI h;rw[eA];obtain⟨h1,h2,log,h3⟩:=fu h;exact anv br hC ho ay h2 h1 h3 (λ_ hm=>step_append br hC ho ay h2 h1 hm)
    ·exact h.elim
   ·exact VQ ay h
  ·exact VQ ay h
end
def KC(t:Ty)(n s:Nat)(v:V):M (t.den×Option Nat×List Nat):=
 if t.depth=0\/n=0 then (lR s v).bind λz=>if h:z.2.1=t then .ret (h▸z.2.2,none,if t.depth=0 then []else z.1.toList)else .fail
 else match v with
  | .d none k t' y=>if h:t'=t then (if n<=k then .ret (h▸y,some s,[])else .fail)else .fail
  | .view r [] _=>.get r λu=>match u with
   | .d none k t' y=>if h:t'=t then (if n<=k then .ret (h▸y,some r,[])else .fail)else .fail
   | _=>.fail
  | _=>.fail
structure Src where
 s:Nat
 o:Nat
 sz:Nat
 n:Nat
structure Sk (rs:List (Ty×Nat)) where
 x:(cL rs).den
 ss:List Src
 ls:List Nat
inductive RV where
 | tmp (s:Nat)
 | cell (s:Nat) (X:TypeId)
def RV.slot:RV->Nat
 | .tmp s=>s
 | .cell s _=>s
def RV.var:RV->ResultVar
 | .tmp s=>.tmp s
 | .cell s X=>.cell s X
def KA(C:Ctx)(X:TypeId)(t:Ty)(n s:Nat)(v:V):M (t.den×Option Nat×List Nat):=
 match v with
 | .box none k t' y=>if h:t'=t then
   if C.ty X=some t then
    (if t.depth=0\/n=0 then .ret (h▸y,none,if t.depth=0 then []else [s])else if n<=k then .ret (h▸y,some s,[])else .fail)
   else .fail
  else .fail
 | _=>.fail
def YL(C:Ctx)(t:Ty)(n:Nat)(rv:RV)(v:V):M (t.den×Option Nat×List Nat):=
 match rv with
 | .tmp s=>KC t n s v
 | .cell s X=>KA C X t n s v
def KB(C:Ctx):Nat->(rs:List (Ty×Nat))->List RV->M (Sk rs)
 | _,[],[]=>.ret ⟨(),[],[]⟩
 | o,(t,n)::rs,rv::sl=>.get rv.slot λv=>(YL C t n rv v).bind λy=>(KB C (o+t.sz) rs sl).bind λr =>
   .ret ⟨(y.1,r.x),(match y.2.1 with|some s'=>⟨s',o,t.sz,n⟩::r.ss|none=>r.ss),y.2.2++r.ls⟩
 | _,_,_=>.fail
def xt(P:Program)(w:World)(a:Act):RV->Value->Prop
 | .tmp s,c=>c=a.tmps.getD s undef
 | .cell s X,c=>∃A,a.tmps.getD s undef = .pointer (some A)/\(loadVar X A).run P w = .ok c w
def qJ(P:Program)(w:World)(a:Act):List RV->List Value->Prop
 | [],cs=>cs=[]
 | rv::l,cs=>∃c bg,cs=c::bg/\xt P w a rv c/\qJ P w a l bg
def kG:Nat->(ps:List (Ty×Mode))->M ((ct ps).den×List (Nat×Nat))
 | _,[]=>.ret ((),[])
 | i,(t,.mut n)::ps=>.get i λv=>match v with
  | .d none k t' y=>if h:t'=t then (if k=n then (kG (i+1) ps).bind λr=>.ret ((h▸y,r.1),(i,i)::r.2)else .fail)else .fail
  | .view d [] tv=>.get d λu=>match u with
   | .box none k t' y=>if h:t'=t then (if k=n/\tv=t then (kG (i+1) ps).bind λr=>.ret ((h▸y,r.1),(d,i)::r.2)else .fail)else .fail
   | _=>.fail
  | _=>.fail
 | i,(t,.ptr n)::ps=>.get i λv=>match v with
  | .box none k t' y=>if h:t'=t then (if k=n then (kG (i+1) ps).bind λr=>.ret ((h▸y,r.1),(i,i)::r.2)else .fail)else .fail
  | _=>.fail
 | i,(_,.ro)::ps=>kG (i+1) ps
 | i,(_,.bS _)::ps=>kG (i+1) ps
def jc:Nat->List (Ty×Mode)->List Nat
 | _,[]=>[]
 | i,(_,.mut _)::ps=>i::jc (i+1) ps
 | i,(_,.ptr _)::ps=>i::jc (i+1) ps
 | i,(_,.ro)::ps=>jc (i+1) ps
 | i,(_,.bS _)::ps=>jc (i+1) ps
def Iv(C:Ctx)(ps:List (Ty×Mode))(rs:List (Ty×Nat))(sl:List RV):M (Ty.pair (cL rs) (ct ps)).den :=
 (KB C 0 rs sl).bind λr=>(kG 0 ps).bind λm =>
  .bl (cc (r.ss.map (·.s))&&r.ls.all (λl => !(r.ss.map (·.s)).contains l && !(m.2.map (·.1)).contains l)&&(m.2.map (·.1)).all (λi => !(r.ss.map (·.s)).contains i)&&cc (m.2.map (·.1))) (.ret (r.x,m.1))
def B3:(ps:List (Ty×Mode))->(rs:List (Ty×Nat))->List RV->M (Ty.pair (cL rs) (ct ps)).den
 | ps,[(t,n)],[.tmp s]=>.get s λv=>(rJ s v).bind λz=>if h:z.2.t=t then (if z.2.n+1000=n then (kG 0 ps).bind λm=>.bl (cc (z.1::m.2.map (·.1))) (.ret ((h▸z.2.x,()),m.1))else .fail)else .fail
 | _,_,_=>.fail
def gB(m:Nat)(mu:List (Nat×Nat))(ss:List Src):aj->aj
 | .own s q=>match mu.find? (λp=>p.1==s)with
  | some p=>.own p.2 q
  | none=>match ss.find? (λp=>p.s==s)with
   | some p=>match q with
    | y::rest=>if y<p.sz then (if rest.length<p.n then .own m ((p.o+y)::rest)else .aq)else .aq
    | []=>.aq
   | none=>.aq
 | x=>x
theorem Up{s:Nat}(h:s∉mu.map (·.1)):mu.find? (λp=>p.1==s)=none:=by
 rw[List.find?_eq_none];intro p hp he;exact h (List.mem_map.2 ⟨p,hp,by simpa using he⟩)
theorem Uo{s j:Nat}(hn:cc (mu.map (·.1))=true)(h:(s,j)∈mu):mu.find? (λp=>p.1==s)=some (s,j):=by
 induction mu with
 | nil=>cases h
 | cons x l ih =>
  simp only[List.map_cons,cc,Bool.and_eq_true,Bool.not_eq_true']at hn;rcases List.mem_cons.1 h with rfl|hm
  ·simp
  ·have bh:x.1≠s:=λe=>by
    have:(l.map (·.1)).contains x.1=true:=by
     rw[List.contains_iff_mem,e];exact List.mem_map.2 ⟨(s,j),hm,rfl⟩
    rw[hn.1]at this;cases this
   rw[List.find?_cons_of_neg (by simpa using bh)];exact ih hn.2 hm
section
variable{P:Program}{C:Ctx}{w w' w0:World}{L L' L0:Nat->aj}{N:Nat}{vs:List Nat}{T T':List V}{a:Act}
theorem ahp[ae]{m:Nat}{ss:List Src}{s:Nat}{q:List Nat}(h1:s∉mu.map (·.1))(h2:s∉ss.map (·.s)):gB m mu ss (.own s q) = .aq:=by
 unfold gB;dsimp only;rw[Up h1];have:ss.find? (λp=>p.s==s)=none:=by
  rw[List.find?_eq_none];intro p hp he;exact h2 (List.mem_map.2 ⟨p,hp,by simpa using he⟩)
 rw[this]
theorem ahq[ae]{m:Nat}{ss:List Src}{p:Src}(hn:cc (ss.map (·.s))=true)(h1:p.s∉mu.map (·.1))(hp:p∈ss){y:Nat}{rest:List Nat}(hy:y<p.sz):
  gB m mu ss (.own p.s (y::rest))=if rest.length<p.n then .own m ((p.o+y)::rest)else .aq:=by
 unfold gB;dsimp only;rw[Up h1];have:ss.find? (λp'=>p'.s==p.s)=some p:=by
  clear h1 hy;induction ss with
  | nil=>cases hp
  | cons x l ih =>
   simp only[List.map_cons,cc,Bool.and_eq_true,Bool.not_eq_true']at hn;rcases List.mem_cons.1 hp with rfl|hp
   ·simp
   ·have bh:x.s≠p.s:=λe=>by
     have:(l.map (·.s)).contains x.s=true:=by
      rw[List.contains_iff_mem,e];exact List.mem_map_of_mem hp
     rw[hn.1]at this;cases this
    rw[List.find?_cons_of_neg (by simpa using bh)];exact ih hn.2 hp
 rw[this];dsimp only;rw[if_pos hy]
theorem amw[ae](hI:Inv w0 L0 N vs T a w L){s:Nat}{y:t.den}{src:Option Nat}{ls:List Nat}(h:(KC t n s (T.getD s .dead)).ai T (y,src,ls) log):
  ∃cells,Form t cells (a.tmps.getD s undef)/\(∀s',src=some s'->n≠0/\t.depth≠0) /\
   ∀(L':Nat->aj) (m o:Nat),(∀k,L k = .aq->L' k = .aq)->(∀k r q,r∈ls->L k = .own r q->L' k = .aq) ->
    (∀s' k i rest,src=some s'->L k = .own s' (i::rest)->i<t.sz->(rest.length<n->L' k = .own m ((o+i)::rest))/\(n<=rest.length->L' k = .aq)) ->
    Own w L' (λk=>L' k = .aq) m n t y [] o cells:=by
 have hs:=hI.aW s;have VK:∀{k:Nat} {cells:List Value} {s':Nat} {y:t.den},n<=k->Own w L (SL L none) s' k t y [] 0 cells->∀(L':Nat->aj) (m o:Nat),(∀k,L k = .aq->L' k = .aq) ->
    (∀k i rest,L k = .own s' (i::rest)->i<t.sz->(rest.length<n->L' k = .own m ((o+i)::rest))/\(n<=rest.length->L' k = .aq)) ->
    Own w L' (λk=>L' k = .aq) m n t y [] o cells:=by
  intro k cells s' y ky ho L' m o H1 H3;refine Own.eQ ky (λk hk=>⟨?_,rfl⟩) (λk d rest hd hk=>?_) ho
  ·rcases hk with hk|⟨_,_,hk,_⟩
   ·exact H1 k hk
   ·cases hk
  ·have aG:L k = .own s' (d::rest):=by simpa using hk
   have:=H3 k d rest aG hd;exact⟨rfl,λh=>by simpa using this.1 h,this.2⟩
 unfold KC at h;split at h
 ·rename_i hc;obtain⟨⟨l,t',y'⟩,l1,l2,rfl,h1,h2⟩:=M.an h;dsimp only at h2;split at h2
  ·rename_i ht;subst ht;obtain⟨h2,_⟩:=h2;cases h2;obtain⟨cells,hf,bz,cq⟩:=qf hI h1 hs (λ_=>rfl);refine⟨cells,hf,λs' h=>(by cases h),λL' m o H1 H2 _=>?_⟩;have h0:=Own.dB (L:=L) (s:=0) (q:=[]) (o:=0) bz;by_cases hd:t'.depth=0
   ·exact Own.flat hd h0
   ·have hn:n=0:=by omega
    subst hn;rw[if_neg hd]at H2;refine Own.dB (Rd.move (λk hk=>⟨?_,rfl⟩) bz);rcases hk with hk|⟨r,q,hl,hk⟩
    ·exact H1 k hk
    ·exact H2 k r q (by simp[hl]) hk
  ·exact h2.elim
 ·rename_i hc;have hc:=not_or.1 hc;generalize hv:T.getD s .dead=v at h hs;split at h
  ·rename_i k t' y';split at h
   ·rename_i ht;subst ht;split at h
    ·rename_i ky;obtain⟨h,_⟩:=h;cases h;obtain⟨_,cells,hf,ho⟩:=hs;exact⟨cells,hf,λ_ _=>⟨hc.2,hc.1⟩,λL' m o H1 _ H3=>VK ky ho L' m o H1 (λk i rest hk hi=>H3 s k i rest rfl hk hi)⟩
    ·exact h.elim
   ·exact h.elim
  ·rename_i r t2;obtain⟨log2,rfl,h⟩:=h;dsimp only at h;split at h
   ·rename_i k t' y' hu;split at h
    ·rename_i ht;subst ht;split at h
     ·rename_i ky;obtain⟨h,_⟩:=h;cases h;obtain⟨_,h1⟩:=hs;have hr:=hI.aW r;rw[hu]at hr;obtain⟨_,cells,hf,ho⟩:=hr;refine⟨cells,?_,λ_ _=>⟨hc.2,hc.1⟩,λL' m o H1 _ H3=>VK ky ho L' m o H1 (λk i rest hk hi=>H3 r k i rest rfl hk hi)⟩;rcases h1 with⟨_,h2,_⟩|⟨_,_,_,h2,_⟩
      ·rw[h2];exact hf
      ·rw[hu]at h2;simp[V.dr]at h2
     ·exact h.elim
    ·exact h.elim
   ·exact h.elim
  ·exact h.elim
theorem amv[ae](hI:Inv w0 L0 N vs T a w L)(hC:bA P C){s:Nat}{y:t.den}{src:Option Nat}{ls:List Nat}(h:(KA C X t n s (T.getD s .dead)).ai T (y,src,ls) log):
  ∃c cells,xt P w a (.cell s X) c/\Form t cells c/\(∀s',src=some s'->n≠0/\t.depth≠0) /\
   ∀(L':Nat->aj) (m o:Nat),(∀k,L k = .aq->L' k = .aq)->(∀k r q,r∈ls->L k = .own r q->L' k = .aq) ->
    (∀s' k i rest,src=some s'->L k = .own s' (i::rest)->i<t.sz->(rest.length<n->L' k = .own m ((o+i)::rest))/\(n<=rest.length->L' k = .aq)) ->
    Own w L' (λk=>L' k = .aq) m n t y [] o cells:=by
 have hs:=hI.aW s;unfold KA at h;generalize hv:T.getD s .dead=v at h hs;split at h
 ·rename_i k t' y';split at h
  ·rename_i ht;subst ht;split at h
   ·rename_i hX;obtain⟨_,g,cur,e,h1,h2,h3,h4,h5⟩:=hs;obtain⟨c,aO,hf⟩:=(hC X t' hX).KJ (w:=w) (g:=g) (o:=0) (Own.len h5) (λi v hv=>by
     rw[Nat.zero_add,H4 h3];simpa using hv)
    have vk:xt P w a (.cell s X) c:=⟨_,h1,aO⟩;have a6:∀{L':Nat->aj},(∀k,L k = .aq->L' k = .aq)->∀k,SL L none k->L' k = .aq/\w.heap[k]?=w.heap[k]?:=by
     intro L' H k hk;rcases hk with hk|⟨_,_,hk,_⟩
     ·exact⟨H k hk,rfl⟩
     ·cases hk
    split at h
    ·rename_i hc;obtain⟨h,_⟩:=h;cases h;refine⟨c,cur.toList,vk,hf,λs' h=>(by cases h),λL' m o H1 H2 _=>?_⟩;by_cases hd:t'.depth=0
     ·exact Own.flat hd h5
     ·have hn:n=0:=by omega
      subst hn;rw[if_neg hd]at H2;refine Own.dB (Own.rd (S':=λk=>L' k = .aq) (λk q hk=>H2 k s q (by simp) hk) (λk hk=>(a6 H1 k hk).1) h5)
    ·rename_i hc;have hc:=not_or.1 hc;split at h
     ·rename_i ky;obtain⟨h,_⟩:=h;cases h;refine⟨c,cur.toList,vk,hf,λ_ _=>⟨hc.2,hc.1⟩,λL' m o H1 _ H3=>?_⟩;refine Own.eQ ky (a6 H1) (λk d rest hd hk=>?_) h5;have aG:L k = .own s (d::rest):=by simpa using hk
      have:=H3 s k d rest rfl aG hd;exact⟨rfl,λh=>by simpa using this.1 h,this.2⟩
     ·exact h.elim
   ·exact h.elim
  ·exact h.elim
 ·exact h.elim
theorem amx[ae](hI:Inv w0 L0 N vs T a w L)(hC:bA P C){rv:RV}{y:t.den}{src:Option Nat}{ls:List Nat}(h:(YL C t n rv (T.getD rv.slot .dead)).ai T (y,src,ls) log):
  ∃c cells,xt P w a rv c/\Form t cells c/\(∀s',src=some s'->n≠0/\t.depth≠0) /\
   ∀(L':Nat->aj) (m o:Nat),(∀k,L k = .aq->L' k = .aq)->(∀k r q,r∈ls->L k = .own r q->L' k = .aq) ->
    (∀s' k i rest,src=some s'->L k = .own s' (i::rest)->i<t.sz->(rest.length<n->L' k = .own m ((o+i)::rest))/\(n<=rest.length->L' k = .aq)) ->
    Own w L' (λk=>L' k = .aq) m n t y [] o cells:=by
 cases rv with
 | tmp s =>
  obtain⟨cells,h1,h2,h3⟩:=amw hI (s:=s) h;exact⟨_,cells,rfl,h1,h2,h3⟩
 | cell s X=>exact amv hI hC h
theorem YK[ae](hI:Inv w0 L0 N vs T a w L)(hC:bA P C):{rs:List (Ty×Nat)}->{o:Nat}->{sl:List RV}->{R:Sk rs}->{log:List Nat}->(KB C o rs sl).ai T R log ->
  ∃cs,qJ P w a sl cs/\(∀p∈R.ss,o<=p.o/\∃t,(t,p.n)∈rs/\p.n≠0/\t.depth≠0)/\(∀p p',p∈R.ss->p'∈R.ss->p.s≠p'.s->p.o+p.sz<=p'.o\/p'.o+p'.sz<=p.o) /\
  ∀(L':Nat->aj) (m:Nat),(∀k,L k = .aq->L' k = .aq)->(∀k r q,r∈R.ls->L k = .own r q->L' k = .aq) ->
   (∀p k i rest,p∈R.ss->L k = .own p.s (i::rest)->i<p.sz->(rest.length<p.n->L' k = .own m ((p.o+i)::rest))/\(p.n<=rest.length->L' k = .aq)) ->
   iF w L' m o rs R.x cs
 | [],o,[],R,log,h=>by
  obtain⟨rfl,_⟩:=h;exact⟨[],rfl,by simp,by simp,λ_ _ _ _ _=>rfl⟩
 | (t,n)::rs,o,s::sl,R,log,h=>by
  obtain⟨aC,rfl,h⟩:=h;obtain⟨⟨y,src,ls⟩,l1,l2,rfl,h1,h⟩:=M.an h;obtain⟨R',l3,l4,rfl,h2,h⟩:=M.an h;obtain⟨rfl,_⟩:=h;obtain⟨c,cells,k0,k1,k2,k3⟩:=amx hI hC h1;obtain⟨cs,j0,j1,j2,j3⟩:=YK hI hC h2;have fT:∀p,p∈(match src with|some s'=>(⟨s',o,t.sz,n⟩:Src)::R'.ss|none=>R'.ss)->(∃s',src=some s'/\p=⟨s',o,t.sz,n⟩)\/p∈R'.ss:=by
   intro p hp;cases src with
   | none=>exact .inr hp
   | some s' =>
    rcases List.mem_cons.1 hp with hp|hp
    ·exact .inl ⟨s',rfl,hp⟩
    ·exact .inr hp
  refine⟨c::cs,⟨c,cs,rfl,k0,j0⟩,λp hp=>?_,λp p' hp cn bh=>?_,λL' m H1 H2 H3=>?_⟩
  ·rcases fT p hp with⟨s',bN,rfl⟩|hp
   ·exact⟨Nat.le_refl _,t,by simp,(k2 s' bN).1,(k2 s' bN).2⟩
   ·obtain⟨e1,t',e2,e3,e4⟩:=j1 p hp;exact⟨by omega,t',by simp[e2],e3,e4⟩
  ·rcases fT p hp with⟨s',bN,rfl⟩|hp
   ·rcases fT p' cn with⟨s2,dP,rfl⟩|cn
    ·rw[bN]at dP;injection dP with dP;exact absurd dP bh
    ·exact .inl (j1 p' cn).1
   ·rcases fT p' cn with⟨s2,dP,rfl⟩|cn
    ·exact .inr (j1 p hp).1
    ·exact j2 p p' hp cn bh
  ·refine⟨c,_,cells,rfl,k1,k3 L' m o H1 (λk r q hr hk=>H2 k r q (List.mem_append_left _ hr) hk) (λs' k i rest bN hk hi=>?_),j3 L' m H1 (λk r q hr hk=>H2 k r q (List.mem_append_right _ hr) hk) (λp k i rest hp hk hi=>H3 p k i rest ?_ hk hi)⟩
   ·subst bN;exact H3 ⟨s',o,t.sz,n⟩ k i rest (by simp) hk hi
   ·cases src with
    | none=>exact hp
    | some s'=>exact List.mem_cons_of_mem _ hp
 | [],_,_::_,_,_,h=>h.elim
 | _::_,_,[],_,_,h=>h.elim
theorem Yb:{ps:List (Ty×Mode)}->{i s:Nat}->(s∈jc i ps↔i<=s/\∃t m,ps[s - i]?=some (t,m)/\m.back=true)
 | [],i,s=>by simp[jc]
 | (t,md)::ps,i,s=>by
  have ih:=Yb (ps:=ps) (i:=i+1) (s:=s);have key:(i+1<=s/\∃t' m,ps[s - (i+1)]?=some (t',m)/\m.back=true)↔(s≠i/\i<=s/\∃t' m,((t,md)::ps)[s - i]?=some (t',m)/\m.back=true):=by
   constructor
   ·rintro⟨h1,t',n',h2,h3⟩
    exact⟨by omega,by omega,t',n',by rw[show s - i=(s - (i+1))+1 by omega];simpa using h2,h3⟩
   ·rintro⟨hs,h1,t',n',h2,h3⟩
    refine⟨by omega,t',n',?_,h3⟩;rw[show s - i=(s - (i+1))+1 by omega]at h2;simpa using h2
  have put:md.back=true->((s=i\/s∈jc (i+1) ps)↔i<=s/\∃t' m,((t,md)::ps)[s - i]?=some (t',m)/\m.back=true):=by
   intro hm;rw[ih,key];constructor
   ·rintro (rfl|⟨_,h⟩)
    ·exact⟨Nat.le_refl _,t,md,by simp,hm⟩
    ·exact h
   ·intro h;by_cases hs:s=i
    ·exact .inl hs
    ·exact .inr ⟨hs,h⟩
  match md,key,put with
  | .mut n,_,put=>simpa only[jc,List.mem_cons]using put (by simp)
  | .ptr n,_,put=>simpa only[jc,List.mem_cons]using put (by simp)
  | .ro,key,_ =>
   simp only[jc];rw[ih,key];constructor
   ·exact λh=>h.2
   ·rintro⟨h1,t',m,h2,h3⟩
    refine⟨?_,h1,t',m,h2,h3⟩
    rintro rfl
    rw[Nat.sub_self]at h2;simp only[List.getElem?_cons_zero,Option.some.injEq,Prod.mk.injEq]at h2;rw[<-h2.2]at h3;cases h3
  | .bS _,key,_ =>
   simp only[jc];rw[ih,key];constructor
   ·exact λh=>h.2
   ·rintro⟨h1,t',m,h2,h3⟩
    refine⟨?_,h1,t',m,h2,h3⟩
    rintro rfl
    rw[Nat.sub_self]at h2;simp only[List.getElem?_cons_zero,Option.some.injEq,Prod.mk.injEq]at h2;rw[<-h2.2]at h3;cases h3
theorem qc[ae](hI:Inv w0 L0 N vs T a w L){A0:List Value}:{ps:List (Ty×Mode)}->{i:Nat}->{y:(ct ps).den}->{mu:List (Nat×Nat)}->{log:List Nat}->(kG i ps).ai T (y,mu) log->ps.length=A0.length->(∀j,(∃t m,ps[j]?=some (t,m)/\m.back=true)->A0[j]?=some (a.tmps.getD (i+j) undef)) ->
  ∀(L':Nat->aj),(∀k,L k = .aq->L' k = .aq)->(∀k s j q,(s,j)∈mu->L k = .own s q->L' k = .own j q)->fF w L' i ps y A0
 | [],i,y,mu,log,h,hl,_,L',_,_=>by
  simp only[List.length_nil]at hl;exact List.eq_nil_of_length_eq_zero hl.symm
 | (t,.mut n)::ps,i,y,mu,log,h,hl,hA,L',H1,H2=>by
  cases A0 with
  | nil=>simp at hl
  | cons c A0 =>
   obtain⟨aC,rfl,h⟩:=h;have hs:=hI.aW i;have hc:c=a.tmps.getD i undef:=by
    have:=hA 0 ⟨t,.mut n,rfl,by simp⟩;simpa using this
   subst hc;have Cc:∀j,(∃t m,ps[j]?=some (t,m)/\m.back=true)->A0[j]?=some (a.tmps.getD (i+1+j) undef):=λj hj=>by
    have:=hA (j+1) (by simpa using hj);rw[show i+1+j=i+(j+1)by omega];simpa using this
   generalize hv:T.getD i .dead=v at h hs;dsimp only at h;split at h
   ·rename_i k t' y';split at h
    ·rename_i ht;subst ht;split at h
     ·rename_i hk;subst hk;obtain⟨⟨r,mr⟩,l1,l2,rfl,h1,h2⟩:=M.an h;obtain⟨h2,_⟩:=h2;injection h2 with h2 h3;subst h2 h3;obtain⟨_,cells,hf,ho⟩:=hs;refine⟨_,A0,cells,rfl,hf,?_,qc hI h1 (by simpa using hl) Cc L' H1 (λk' s j q hm aG=>H2 k' s j q (List.mem_cons_of_mem _ hm) aG)⟩
      ·refine Own.move (λk' aG=>⟨?_,rfl⟩) (λk' d rest _ aG=>⟨H2 k' i i _ (by simp) aG,rfl⟩) ho;rcases aG with aG|⟨_,_,aG,_⟩
       ·exact H1 k' aG
       ·cases aG
     ·exact h.elim
    ·exact h.elim
   ·rename_i d tv;obtain⟨log2,rfl,h⟩:=h;have hd:=hI.aW d;generalize hu:T.getD d .dead=u at h hd;dsimp only at h;split at h
    ·rename_i k t' y';split at h
     ·rename_i ht;subst ht;split at h
      ·rename_i hk;obtain⟨rfl,rfl⟩:=hk;obtain⟨⟨r,mr⟩,l1,l2,rfl,h1,h2⟩:=M.an h;obtain⟨h2,_⟩:=h2;injection h2 with h2 h3;subst h2 h3;obtain⟨_,cH⟩:=hs;rcases cH with⟨_,_,l0,n0,x0,kj,_⟩|⟨g,cur,e,_,g1,g2,g3,g4⟩
       ·rw[hu]at kj;cases kj
       ·obtain⟨_,g',cur',e',_,j2,j3,j4,j5⟩:=hd;obtain rfl:=hI.inj g g' d _ g1 j2;rw[g2]at j3;injection j3 with j3;injection j3 with j3 _ _;subst j3;simp only[node,List.drop_zero]at g4;rw[List.take_of_length_le (by rw[Array.length_toList,j4];exact Nat.le_refl _)]at g4;refine⟨_,A0,cur.toList,rfl,g4,?_,qc hI h1 (by simpa using hl) Cc L' H1 (λk' s j q hm aG=>H2 k' s j q (List.mem_cons_of_mem _ hm) aG)⟩;refine Own.move (λk' aG=>⟨?_,rfl⟩) (λk' dd rest _ aG=>⟨H2 k' d i _ (by simp) aG,rfl⟩) j5;rcases aG with aG|⟨_,_,aG,_⟩
        ·exact H1 k' aG
        ·cases aG
      ·exact h.elim
     ·exact h.elim
    ·exact h.elim
   ·exact h.elim
 | (t,.ptr n)::ps,i,y,mu,log,h,hl,hA,L',H1,H2=>by
  cases A0 with
  | nil=>simp at hl
  | cons c A0 =>
   obtain⟨aC,rfl,h⟩:=h;have hs:=hI.aW i;have hc:c=a.tmps.getD i undef:=by
    have:=hA 0 ⟨t,.ptr n,rfl,by simp⟩;simpa using this
   subst hc;have Cc:∀j,(∃t m,ps[j]?=some (t,m)/\m.back=true)->A0[j]?=some (a.tmps.getD (i+1+j) undef):=λj hj=>by
    have:=hA (j+1) (by simpa using hj);rw[show i+1+j=i+(j+1)by omega];simpa using this
   generalize hv:T.getD i .dead=v at h hs;dsimp only at h;split at h
   ·rename_i k t' y';split at h
    ·rename_i ht;subst ht;split at h
     ·rename_i hk;subst hk;obtain⟨⟨r,mr⟩,l1,l2,rfl,h1,h2⟩:=M.an h;obtain⟨h2,_⟩:=h2;injection h2 with h2 h3;subst h2 h3;obtain⟨_,g,cur,e,hf,hL,hg,hz,ho⟩:=hs;refine⟨_,A0,rfl,⟨g,cur,e,hf,H2 g i i _ (by simp) hL,hg,hz,?_⟩,qc hI h1 (by simpa using hl) Cc L' H1 (λk' s j q hm aG=>H2 k' s j q (List.mem_cons_of_mem _ hm) aG)⟩;refine Own.move (λk' aG=>⟨?_,rfl⟩) (λk' d rest _ aG=>⟨H2 k' i i _ (by simp) aG,rfl⟩) ho;rcases aG with aG|⟨_,_,aG,_⟩
      ·exact H1 k' aG
      ·cases aG
     ·exact h.elim
    ·exact h.elim
   ·exact h.elim
 | (t,.ro)::ps,i,y,mu,log,h,hl,hA,L',H1,H2=>by
  cases A0 with
  | nil=>simp at hl
  | cons c A0 =>
   refine⟨c,A0,rfl,qc (ps:=ps) (i:=i+1) hI h (by simpa using hl) (λj hj=>?_) L' H1 H2⟩;have:=hA (j+1) (by simpa using hj);rw[show i+1+j=i+(j+1)by omega];simpa using this
 | (t,.bS _)::ps,i,y,mu,log,h,hl,hA,L',H1,H2=>by
  cases A0 with
  | nil=>simp at hl
  | cons c A0 =>
   refine⟨c,A0,rfl,qc (ps:=ps) (i:=i+1) hI h (by simpa using hl) (λj hj=>?_) L' H1 H2⟩;have:=hA (j+1) (by simpa using hj);rw[show i+1+j=i+(j+1)by omega];simpa using this
theorem sH:{ps:List (Ty×Mode)}->{i:Nat}->{y:(ct ps).den}->{mu:List (Nat×Nat)}->{log:List Nat}->(kG i ps).ai T (y,mu) log ->
  ∀s j,(s,j)∈mu->i<=j/\(∃t m,ps[j - i]?=some (t,m)/\m.back=true)/\∀s',(s',j)∈mu->s'=s
 | [],i,y,mu,log,h=>by
  obtain⟨h,_⟩:=h;injection h with _ h;subst h;simp
 | (t,.mut n)::ps,i,y,mu,log,h=>by
  obtain⟨aC,rfl,h⟩:=h;have key:∀{d:Nat} {y2:(ct ps).den} {mr:List (Nat×Nat)} {l:List Nat},(kG (i+1) ps).ai T (y2,mr) l->mu=(d,i)::mr->∀s j,(s,j)∈mu->i<=j/\(∃t' m',((t,Mode.mut n)::ps)[j - i]?=some (t',m')/\m'.back=true)/\∀s',(s',j)∈mu->s'=s:=by
   intro d y2 mr l h1 fU s j hm;subst fU;have ih:=sH h1;rcases List.mem_cons.1 hm with hm|hm
   ·injection hm with h2 h3;subst h2 h3;refine⟨Nat.le_refl _,⟨t,.mut n,by simp,by simp⟩,λs' bW=>?_⟩;rcases List.mem_cons.1 bW with bW|bW
    ·injection bW
    ·have:=(ih s' j bW).1;omega
   ·obtain⟨e1,⟨t',n',e2,la⟩,e3⟩:=ih s j hm;refine⟨by omega,⟨t',n',by rw[show j - i=(j - (i+1))+1 by omega];simpa using e2,la⟩,λs' bW=>?_⟩;rcases List.mem_cons.1 bW with bW|bW
    ·injection bW with _ h3;omega
    ·exact e3 s' bW
  generalize hv:T.getD i .dead=v at h;dsimp only at h;split at h
  ·split at h
   ·split at h
    ·obtain⟨⟨r,mr⟩,l1,l2,rfl,h1,h2⟩:=M.an h;obtain⟨h2,_⟩:=h2;injection h2 with h2 h3;exact key h1 h3
    ·exact h.elim
   ·exact h.elim
  ·rename_i d tv;obtain⟨log2,rfl,h⟩:=h;generalize T.getD d .dead=u at h;dsimp only at h;split at h
   ·split at h
    ·split at h
     ·obtain⟨⟨r,mr⟩,l1,l2,rfl,h1,h2⟩:=M.an h;obtain⟨h2,_⟩:=h2;injection h2 with h2 h3;exact key h1 h3
     ·exact h.elim
    ·exact h.elim
   ·exact h.elim
  ·exact h.elim
 | (t,.ptr n)::ps,i,y,mu,log,h=>by
  obtain⟨aC,rfl,h⟩:=h;have key:∀{d:Nat} {y2:(ct ps).den} {mr:List (Nat×Nat)} {l:List Nat},(kG (i+1) ps).ai T (y2,mr) l->mu=(d,i)::mr->∀s j,(s,j)∈mu->i<=j/\(∃t' m',((t,Mode.ptr n)::ps)[j - i]?=some (t',m')/\m'.back=true)/\∀s',(s',j)∈mu->s'=s:=by
   intro d y2 mr l h1 fU s j hm;subst fU;have ih:=sH h1;rcases List.mem_cons.1 hm with hm|hm
   ·injection hm with h2 h3;subst h2 h3;refine⟨Nat.le_refl _,⟨t,.ptr n,by simp,by simp⟩,λs' bW=>?_⟩;rcases List.mem_cons.1 bW with bW|bW
    ·injection bW
    ·have:=(ih s' j bW).1;omega
   ·obtain⟨e1,⟨t',n',e2,la⟩,e3⟩:=ih s j hm;refine⟨by omega,⟨t',n',by rw[show j - i=(j - (i+1))+1 by omega];simpa using e2,la⟩,λs' bW=>?_⟩;rcases List.mem_cons.1 bW with bW|bW
    ·injection bW with _ h3;omega
    ·exact e3 s' bW
  generalize hv:T.getD i .dead=v at h;dsimp only at h;split at h
  ·split at h
   ·split at h
    ·obtain⟨⟨r,mr⟩,l1,l2,rfl,h1,h2⟩:=M.an h;obtain⟨h2,_⟩:=h2;injection h2 with h2 h3;exact key h1 h3
    ·exact h.elim
   ·exact h.elim
  ·exact h.elim
 | (t,.ro)::ps,i,y,mu,log,h=>by
  intro s j hm;obtain⟨e1,⟨t',n',e2,la⟩,e3⟩:=sH (ps:=ps) (i:=i+1) h s j hm;exact⟨by omega,⟨t',n',by rw[show j - i=(j - (i+1))+1 by omega];simpa using e2,la⟩,e3⟩
 | (t,.bS _)::ps,i,y,mu,log,h=>by
  intro s j hm;obtain⟨e1,⟨t',n',e2,la⟩,e3⟩:=sH (ps:=ps) (i:=i+1) h s j hm;exact⟨by omega,⟨t',n',by rw[show j - i=(j - (i+1))+1 by omega];simpa using e2,la⟩,e3⟩
end
def Mode.val(t:Ty)(x:t.den):Mode->V
 | .ptr n=>.box none n t x
 | .mut n=>.d none n t x
 | .bS n=>.d none n t x
 | .ro=>.d none 0 t x
def yO(w:World)(L0:Nat->aj)(i:Nat)(t:Ty)(x:t.den)(c:Value):Mode->Prop
 | .ptr n=>tp w L0 (λk=>L0 k = .aq) i n t x c
 | .mut n=>∃cells,Form t cells c/\Own w L0 (λk=>L0 k = .aq) i n t x [] 0 cells
 | .bS n=>∃cells,Form t cells c/\Own w L0 (λk=>L0 k = .aq) i n t x [] 0 cells
 | .ro=>∃cells,Form t cells c/\Own w L0 (λk=>L0 k = .aq) i 0 t x [] 0 cells
def om:(ps:List (Ty×Mode))->(cY ps).den->List V
 | [],_=>[]
 | (t,m)::ps,x=>m.val t x.1::om ps x.2
def aU(N:Nat)(ps:List (Ty×Mode))(x:(cY ps).den):List V:=om ps x++List.replicate (N - ps.length) .dead
def wq(C:Ctx)(bf:dx)(vs:List Nat)(N:Nat)(aS:Nat->Option Nat)(hx:Hints)(ps:List (Ty×Mode)):Env :=
 { step:=KW C bf vs hx N,N:=N,pins:=λp=>(jc 0 ps).contains p,aS:=aS }
def Ug(C:Ctx)(ps:List (Ty×Mode))(rs:List (Ty×Nat))(sl:List RV):Ex->List V->Option (Ty.pair (cL rs) (ct ps)).den
 | .ext _,_=>none
 | _,T=>(bif wg rs then Iv C ps rs sl else B3 ps rs sl).runK T [] λ_ r=>some r
noncomputable def X0(C:Ctx)(bf:dx)(vs:List Nat)(N:Nat)(aS:Nat->Option Nat)(hx:Hints)(ps:List (Ty×Mode))(rs:List (Ty×Nat))(sl:List RV)(c:Code):Fn :=
 { ps:=ps,rs:=rs,ao:=λx=>ax (wq C bf vs N aS hx ps) c (Ug C ps rs sl) (aU N ps x) }
section
variable{P:Program}{C:Ctx}{w w' w0:World}{L L' L0:Nat->aj}{N:Nat}{vs:List Nat}{T T':List V}{a:Act}
theorem dK.cons{m:Mode}{i:Nat}{x:(cY ((t,m)::ps)).den}{cs:List Value}(h:dK w L0 i ((t,m)::ps) x cs):
  ∃c bg,cs=c::bg/\yO w L0 i t x.1 c m/\dK w L0 (i+1) ps x.2 bg:=by
 match m,x,h with
 | .ptr n,x,h=>exact h
 | .mut n,x,h =>
  obtain⟨c,bg,cells,h1,h2,h3,h4⟩:=h;exact⟨c,bg,h1,⟨cells,h2,h3⟩,h4⟩
 | .bS n,x,h =>
  obtain⟨c,bg,cells,h1,h2,h3,h4⟩:=h;exact⟨c,bg,h1,⟨cells,h2,h3⟩,h4⟩
 | .ro,x,h =>
  obtain⟨c,bg,cells,h1,h2,h3,h4⟩:=h;exact⟨c,bg,h1,⟨cells,h2,h3⟩,h4⟩
theorem dK.len[ae]:{ps:List (Ty×Mode)}->{i:Nat}->{x:(cY ps).den}->{cs:List Value}->dK w L0 i ps x cs->cs.length=ps.length
 | [],_,_,_,h=>by simp only[dK]at h;subst h;rfl
 | (t,m)::ps,i,x,cs,h=>by
  obtain⟨c,bg,rfl,_,h⟩:=h.cons;simp[dK.len h]
theorem dK.get[ae]:{ps:List (Ty×Mode)}->{i:Nat}->{x:(cY ps).den}->{cs:List Value}->dK w L0 i ps x cs->∀(s:Nat) (t:Ty) (m:Mode),ps[s]?=some (t,m) ->
  ∃y c,(om ps x)[s]?=some (m.val t y)/\cs[s]?=some c/\yO w L0 (i+s) t y c m
 | [],_,_,_,_,s,t,m,h=>by simp at h
 | (t0,m0)::ps,i,x,cs,h,s,t,m,hs=>by
  obtain⟨c,bg,rfl,h1,h⟩:=h.cons;cases s with
  | zero =>
   simp only[List.getElem?_cons_zero,Option.some.injEq,Prod.mk.injEq]at hs;obtain⟨rfl,rfl⟩:=hs;exact⟨x.1,c,rfl,rfl,h1⟩
  | succ s =>
   obtain⟨y,c',e1,e2,e3⟩:=dK.get h s t m (by simpa using hs);exact⟨y,c',by simpa[om]using e1,by simpa using e2,by rw[show i+(s+1)=i+1+s by omega];exact e3⟩
theorem Mode.aqx{x:t.den}:{m:Mode}->m.owned t=true->(m.val t x).aJ=true
 | .ro,h=>by cases h
 | .mut n,h=>h
 | .bS n,h=>h
 | .ptr n,_=>rfl
theorem Mode.aqy{x:t.den}:{m:Mode}->(m.val t x).root=none
 | .ro=>rfl
 | .mut _=>rfl
 | .bS _=>rfl
 | .ptr _=>rfl
theorem yO.slot{i:Nat}{x:t.den}{c:Value}{T:List V}{tm:Array Value}:{m:Mode}->yO w L0 i t x c m->az L0 T tm i (m.val t x) w c
 | .ro,h=>by
  obtain⟨cells,h1,h2⟩:=h;exact⟨by simp,cells,h1,Own.move (λk hk=>⟨.inl hk,rfl⟩) (λk d rest _ hk=>⟨hk,rfl⟩) h2⟩
 | .mut n,h=>by
  obtain⟨cells,h1,h2⟩:=h;exact⟨by simp,cells,h1,Own.move (λk hk=>⟨.inl hk,rfl⟩) (λk d rest _ hk=>⟨hk,rfl⟩) h2⟩
 | .bS n,h=>by
  obtain⟨cells,h1,h2⟩:=h;exact⟨by simp,cells,h1,Own.move (λk hk=>⟨.inl hk,rfl⟩) (λk d rest _ hk=>⟨hk,rfl⟩) h2⟩
 | .ptr n,h=>by
  obtain⟨g,cur,e,h1,h2,h3,h4,h5⟩:=h;exact⟨by simp,g,cur,e,h1,h2,h3,h4,Own.move (λk hk=>⟨.inl hk,rfl⟩) (λk d rest _ hk=>⟨hk,rfl⟩) h5⟩
theorem pS:{ps:List (Ty×Mode)}->{x:(cY ps).den}->(om ps x).length=ps.length
 | [],_=>rfl
 | (t,m)::ps,x=>by simp[om,pS]
theorem KN[ae]{x:(cY ps).den}(s:Nat):(aU N ps x).getD s .dead=((om ps x)[s]?).getD .dead:=by
 unfold aU;rw[List.getD_eq_getElem?_getD];by_cases h:s<ps.length
 ·rw[List.getElem?_append_left (by rw[pS];exact h)]
 ·rw[List.getElem?_append_right (by rw[pS];omega),List.getElem?_eq_none (l:=om ps x) (by rw[pS];omega)];rw[List.getElem?_replicate];split<;>rfl
theorem am2[ae]{x:(cY ps).den}{args:Array Value}(hl:jq w L0 ps)(ha:dK w L0 0 ps x args.toList)(hN:ps.length<=N)(vs:List Nat):
  Inv w L0 N vs (aU N ps x) { tmps:=args++Array.replicate (N - args.size) undef,defers:=[] } w L0:=by
 have hlen:args.size=ps.length:=by simpa using ha.len
 refine⟨by simp;omega,by simp[aU,pS];omega,rfl,⟨rfl,rfl,rfl,Nat.le_refl _,Nat.le_refl _,λ_ _ _=>⟨rfl,rfl⟩,hl.gD⟩,hl.free,hl.inj,λk s q h=>?_,λs r h=>?_,λs=>?_⟩
 ·obtain⟨t,m,h1,h2⟩:=hl.owner k s q h;obtain⟨y,c,e1,_⟩:=ha.get s t _ h1;rw[KN,e1];exact Mode.aqx h2
 ·rw[KN]at h;cases hp:ps[s]? with
  | none =>
   rw[List.getElem?_eq_none (by rw[pS];exact List.getElem?_eq_none_iff.1 hp)]at h;simp[V.on,V.root]at h
  | some p =>
   obtain⟨t,m⟩:=p;obtain⟨y,c,e1,_⟩:=ha.get s t m hp;rw[e1]at h;unfold V.on at h;rw[Option.getD_some,Mode.aqy]at h;cases h
 ·rw[KN];cases hp:ps[s]? with
  | none =>
   rw[List.getElem?_eq_none (by rw[pS];exact List.getElem?_eq_none_iff.1 hp)];trivial
  | some p =>
   obtain⟨t,m⟩:=p;obtain⟨y,c,e1,e2,e3⟩:=ha.get s t m hp;rw[e1];have hs:s<args.size:=by rw[hlen];exact (List.getElem?_eq_some_iff.1 hp).1
   have hc:(args++Array.replicate (N - args.size) undef).getD s undef=c:=by
    rw[Array.getD_eq_getD_getElem?,Array.getElem?_append_left hs];rw[Array.getElem?_toList]at e2;rw[e2];rfl
   rw[Nat.zero_add]at e3;rw[Option.getD_some,hc];exact e3.slot
theorem B2{m:Nat}{ss:List Src}{l:aj}{s':Nat}{q':List Nat}(h:gB m mu ss l = .own s' q'):
  ∃s q,l = .own s q/\(((s,s')∈mu/\q'=q)\/∃p y rest,ss.find? (λp=>p.s==s)=some p/\q=y::rest/\y<p.sz/\s'=m/\q'=(p.o+y)::rest):=by
 cases l with
 | own s q =>
  unfold gB at h;dsimp only at h;split at h
  ·rename_i p hp;injection h with h1 h2;have n1:p.1=s:=by simpa using List.find?_some hp
   refine⟨s,_,rfl,.inl ⟨?_,h2.symm⟩⟩;have:=List.mem_of_find?_eq_some hp;rw[<-n1,<-h1];exact this
  ·split at h
   ·rename_i p hp;split at h
    ·split at h
     ·split at h
      ·injection h with h1 h2;exact⟨s,_,rfl,.inr ⟨p,_,_,hp,rfl,by assumption,h1.symm,h2.symm⟩⟩
      ·cases h
     ·cases h
    ·cases h
   ·cases h
 | aq=>cases h
 | free=>cases h
 | other=>cases h
theorem ahs[ae](hI:Inv w0 L0 N vs T a w L)(hC:bA P C){rs:List (Ty×Nat)}{sl:List RV}{r:(Ty.pair (cL rs) (ct ps)).den}{A0:List Value}(h:(Iv C ps rs sl).ai T r log)
  (hl:ps.length=A0.length) (hA:∀j,(∃t m,ps[j]?=some (t,m)/\m.back=true)->A0[j]?=some (a.tmps.getD j undef)) :
  ∃L' cs,qJ P w a sl cs/\Left w0 w L0 L' ps rs/\iF w L' ps.length 0 rs r.1 cs/\fF w L' 0 ps r.2 A0:=by
 obtain⟨R,l1,l2,rfl,h1,h⟩:=M.an h;obtain⟨⟨m,mu⟩,l3,l4,rfl,h2,hc,rfl,_⟩:=M.an h;simp only[Bool.and_eq_true,List.all_eq_true,Bool.not_eq_true']at hc;obtain⟨⟨⟨cK,dW⟩,fU⟩,mO⟩:=hc;have Ki:∀{x:Nat} {l:List Nat},l.contains x=false->x∉l:=λh hm=>by rw[List.contains_iff_mem.2 hm]at h;cases h
 obtain⟨cs,k0,k1,k2,k3⟩:=YK hI hC h1;have mM:=sH h2;have cQ:∀p∈R.ss,p.s∉mu.map (·.1):=λp hp hm=>Ki (fU p.s hm) (List.mem_map_of_mem hp);refine⟨λk=>gB ps.length mu R.ss (L k),cs,k0,⟨hI.fr.os,hI.fr.tape,hI.fr.output,hI.fr.size,hI.fr.drawn,λk hk h0=>?_,λk hk=>by rw[hI.free k hk];rfl,λk k' s q e e'=>?_,λk s q e=>?_⟩,
  k3 _ _ (λk hk=>by rw[hk];rfl) (λk r q hr hk=>?_) (λp k i rest hp hk hi=>?_),qc hI h2 hl (λj hj=>by rw[Nat.zero_add];exact hA j hj) _ (λk hk=>by rw[hk];rfl) (λk s j q hm hk=>?_)⟩
 ·have:=hI.fr.aS k hk h0;refine⟨?_,this.2⟩;rw[this.1];rcases h0 with h0|h0<;>rw[h0]<;>rfl
 ·obtain⟨s1,q1,e1,e2⟩:=B2 e;obtain⟨s2,q2,e3,e4⟩:=B2 e';have av:∀s j,(s,j)∈mu->j<ps.length:=λs j hs=>by
   obtain⟨_,⟨t,n,h,_⟩,_⟩:=mM s j hs;exact (List.getElem?_eq_some_iff.1 (by simpa using h)).1
  rcases e2 with⟨h1,rfl⟩|⟨p,y,rest,h1,rfl,h3,rfl,rfl⟩
  ·rcases e4 with⟨h2,rfl⟩|⟨p,y,rest,h2,rfl,h3,rfl,_⟩
   ·obtain rfl:=(mM s2 s h2).2.2 s1 h1;exact hI.inj k k' _ _ e1 e3
   ·exact absurd (av _ _ h1) (Nat.lt_irrefl _)
  ·rcases e4 with⟨h2,rfl⟩|⟨p',y',fe,h2,rfl,h4,_,h5⟩
   ·exact absurd (av _ _ h2) (Nat.lt_irrefl _)
   ·injection h5 with h5 h6;subst h6;have m1:=List.mem_of_find?_eq_some h1;have m2:=List.mem_of_find?_eq_some h2;have n1:p.s=s1:=by simpa using List.find?_some h1
    have n2:p'.s=s2:=by simpa using List.find?_some h2
    by_cases hs:s1=s2
    ·subst hs;rw[h1]at h2;injection h2 with h2;subst h2;have:y=y':=by omega
     subst this;exact hI.inj k k' _ _ e1 e3
    ·have:=k2 p p' m1 m2 (by rw[n1,n2];exact hs);omega
 ·obtain⟨s1,q1,e1,e2⟩:=B2 e;rcases e2 with⟨h1,rfl⟩|⟨p,y,rest,h1,rfl,h3,rfl,rfl⟩
  ·obtain⟨_,⟨t,n,h,h'⟩,_⟩:=mM _ _ h1;exact .inr ⟨t,n,by simpa using h,h'⟩
  ·obtain⟨_,t,h2,h3,h4⟩:=k1 p (List.mem_of_find?_eq_some h1);exact .inl ⟨rfl,t,p.n,h2,.inl ⟨h3,h4⟩⟩
 ·rw[hk];have:=dW r hr;exact ahp (Ki this.2) (Ki this.1)
 ·rw[hk,ahq cK (cQ p hp) hp hi];exact⟨λh=>by rw[if_pos h],λh=>by rw[if_neg (by omega)]⟩
 ·rw[hk];unfold gB;dsimp only;rw[Uo mO hm]
theorem ahr[ae](hI:Inv w0 L0 N vs T a w L){rs:List (Ty×Nat)}{sl:List RV}{r:(Ty.pair (cL rs) (ct ps)).den}{A0:List Value}(h:(B3 ps rs sl).ai T r log)
  (hl:ps.length=A0.length) (hA:∀j,(∃t m,ps[j]?=some (t,m)/\m.back=true)->A0[j]?=some (a.tmps.getD j undef)) :
  ∃L' cs,qJ P w a sl cs/\Left w0 w L0 L' ps rs/\jr w L' ps.length rs r.1 cs/\fF w L' 0 ps r.2 A0:=by
 unfold B3 at h;split at h
 ·rename_i _ t n s;obtain⟨aC,rfl,h⟩:=h;have hb:=M.an (m:=rJ s (T.getD s .dead)) h;clear h;obtain⟨⟨sb,z⟩,l3,l4,rfl,r4,h⟩:=hb;obtain⟨hv,fq⟩:=TA hI r4;obtain⟨k,t',y⟩:=z;dsimp only at h hv;have hs:=hI.aW sb;rw[hv]at hs;split at h
  ·rename_i ht;subst ht;split at h
   ·rename_i hk;obtain⟨⟨m,mu⟩,l1,l2,rfl,h2,cK,rfl,_⟩:=M.an h;have mM:=sH h2;have aiT:cc (((sb,ps.length)::mu).map (·.1))=true:=cK;have av:∀s j,(s,j)∈mu->j<ps.length:=λs j hs=>by
     obtain⟨_,⟨t,n,h,_⟩,_⟩:=mM s j hs;exact (List.getElem?_eq_some_iff.1 (by simpa using h)).1
    have aji:∀s1 s2 j,(s1,j)∈(sb,ps.length)::mu->(s2,j)∈(sb,ps.length)::mu->s1=s2:=by
     intro s1 s2 j h1 h2;rcases List.mem_cons.1 h1 with h1|h1
     ·injection h1 with e1 e2;rcases List.mem_cons.1 h2 with h2|h2
      ·injection h2 with e3 e4;rw[e1,e3]
      ·exact absurd (av _ _ h2) (by omega)
     ·rcases List.mem_cons.1 h2 with h2|h2
      ·injection h2 with e3 e4;exact absurd (av _ _ h1) (by omega)
      ·exact (mM s2 j h2).2.2 s1 h1
    have bt:∀{l:aj} {s':Nat} {q':List Nat},gB ps.length ((sb,ps.length)::mu) [] l = .own s' q'->∃s1,l = .own s1 q'/\(s1,s')∈(sb,ps.length)::mu:=by
     intro l s' q' e;obtain⟨s1,q1,e1,e2⟩:=B2 e;rcases e2 with⟨h1,rfl⟩|⟨p,y,rest,h1,_⟩
     ·exact⟨s1,e1,h1⟩
     ·simp at h1
    have Jp:∀{s1 j:Nat} {q:List Nat},(s1,j)∈(sb,ps.length)::mu->gB ps.length ((sb,ps.length)::mu) [] (.own s1 q) = .own j q:=by
     intro s1 j q hm;unfold gB;dsimp only;rw[Uo aiT hm]
    obtain⟨_,g,cur,e,hf,hL,hg,hz,ho⟩:=hs;rw[<-fq]at hf;refine⟨λk=>gB ps.length ((sb,ps.length)::mu) [] (L k),[a.tmps.getD s undef],⟨_,[],rfl,rfl,rfl⟩,⟨hI.fr.os,hI.fr.tape,hI.fr.output,hI.fr.size,hI.fr.drawn,λk hk h0=>?_,λk hk=>by rw[hI.free k hk];rfl,λk k' s1 q e e'=>?_,λk s1 q e=>?_⟩,
     .inr ⟨by omega,_,rfl,g,cur,e,hf,by show gB _ _ _ (L g)=_;rw[hL];exact Jp (by simp),hg,hz,?_⟩,qc hI h2 hl (λj hj=>by rw[Nat.zero_add];exact hA j hj) _ (λk hk=>by rw[hk];rfl) (λk s1 j q hm hk=>by rw[hk];exact Jp (List.mem_cons_of_mem _ hm))⟩
    ·have:=hI.fr.aS k hk h0;refine⟨?_,this.2⟩;rw[this.1];rcases h0 with h0|h0<;>rw[h0]<;>rfl
    ·obtain⟨a1,e1,e2⟩:=bt e;obtain⟨a2,e3,e4⟩:=bt e';obtain rfl:=aji _ _ _ e2 e4;exact hI.inj k k' _ _ e1 e3
    ·obtain⟨a1,e1,e2⟩:=bt e;rcases List.mem_cons.1 e2 with e2|e2
     ·injection e2 with _ e2;exact .inl ⟨e2,t',n,by simp,.inr (by omega)⟩
     ·obtain⟨_,⟨t,n,h,h'⟩,_⟩:=mM _ _ e2;exact .inr ⟨t,n,by simpa using h,h'⟩
    ·have hkn:n - 1000=k:=by omega
     rw[hkn];refine Own.move (λk hk=>⟨?_,rfl⟩) (λk d rest _ hk=>⟨by show gB _ _ _ (L k)=_;rw[hk];exact Jp (by simp),rfl⟩) ho;show gB _ _ _ (L k)=_;rcases hk with hk|⟨_,_,hk,_⟩
     ·rw[hk];rfl
     ·cases hk
   ·exact h.elim
  ·exact h.elim
 ·exact h.elim
theorem YT{fn:Func}{sl:List RV}{cs:List Value}(hr:fn.results.toList=sl.map RV.var)(hf:qJ P w a sl cs):(results fn a.tmps).run P w = .ok (ox cs) w:=by
 have hm:∀g:ResultVar->Sem Value,(∀t,g (.tmp t)=pure (a.tmps.getD t undef))->(∀s X,g (.cell s X)=(do loadVar X (<-asAddr (a.tmps.getD s undef))))->(fn.results.mapM g).run P w = .ok cs.toArray w:=by
  intro g oa I1;rw[Array.mapM_eq_mapM_toList,hr];have:∀(sl:List RV) (cs:List Value),qJ P w a sl cs->((sl.map RV.var).mapM g).run P w = .ok cs w:=by
   intro sl;induction sl with
   | nil=>intro cs h;obtain rfl:cs=[]:=h;simp
   | cons s sl ih =>
    intro cs h;obtain⟨c,bg,rfl,h1,h2⟩:=h;have aO:(g s.var).run P w = .ok c w:=by
     cases s with
     | tmp t =>
      obtain rfl:c=_:=h1;show (g (.tmp t)).run P w=_;rw[oa];rfl
     | cell t X =>
      obtain⟨A,h3,h4⟩:=h1;show (g (.cell t X)).run P w=_;rw[I1,h3];simp[asAddr,h4]
    simp only[List.map_cons,List.mapM_cons,Sem.run_bind,aO,Result.andThen_ok,ih bg h2,Sem.run_pure]
  have h2:=this sl cs hf;simp only[Sem.run_map,h2,Result.andThen_ok]
 unfold results;rw[Sem.run_bind,hm _ (λt=>rfl) (λs X=>rfl),Result.andThen_ok,Sem.run_pure]
 match cs with
 | []=>rfl
 | [s]=>rfl
 | s::s'::l=>rfl
theorem alB[ae]{bf:dx}{aS:Nat->Option Nat}{hx:Hints}{rs:List (Ty×Nat)}{sl:List RV}{c:Code}{f:FuncId}{fn:Func}(lx:P.follows .mixedOrders=true)(hC:bA P C)(dQ:fQ P bf)
  (hf : P.funcs[f]? = some fn) (fV : (fn.name == "runtime.NumGoroutine") = false) (hb : fn.body = some c) (hN : fn.ntmps = N) (hr : fn.results.toList = sl.map RV.var) (lC : ps.length <= N) :
  au P f (X0 C bf vs N aS hx ps rs sl c):=by
 refine⟨⟨fn,hf,fV,by rw[hb];rfl⟩,λx r eM w L0 args hl ha=>?_⟩;change jq w L0 ps at hl;change dK w L0 0 ps x args.toList at ha;have hlen:args.size=ps.length:=by have:=ha.len;rw[<-this];simp
 refine calls_of_wp hf hb ?_;rw[hN];have a6:ry P w L0 vs (wq C bf vs N aS hx ps):=am3 lx hC dQ rfl;let A0:Array Value:=args++Array.replicate (N - args.size) undef;have hJ:J w L0 vs (wq C bf vs N aS hx ps) A0 (aU N ps x) { tmps:=args++Array.replicate (N - args.size) undef,defers:=[] } w:=⟨⟨L0,am2 hl ha lC vs⟩,λ_ _=>rfl⟩;refine wp_mono (pe (A0:=A0) a6 eM _ _ hJ) ?_
 rintro e a' w' ⟨ex,T',rfl,hk,⟨L,hI⟩,sg⟩
 have VN:∀j,(∃t m,ps[j]?=some (t,m)/\m.back=true)->args.toList[j]?=some (a'.tmps.getD j undef):=λj hj=>by
  have hm:(wq C bf vs N aS hx ps).pins j=true:=by
   show (jc 0 ps).contains j=true;rw[List.contains_iff_mem];exact Yb.2 ⟨Nat.zero_le _,by simpa using hj⟩
  obtain⟨t,n,hj,_⟩:=hj;have av:j<args.size:=by rw[hlen];exact (List.getElem?_eq_some_iff.1 hj).1
  rw[sg j hm];show _=some ((args++Array.replicate (N - args.size) undef).getD j undef);rw[Array.getD_eq_getD_getElem?,Array.getElem?_append_left av];simp[av]
 have vk:∀{log:List Nat},(bif wg rs then Iv C ps rs sl else B3 ps rs sl).ai T' r log->a'.defers=[]/\∃v,(results fn a'.tmps).run P w' = .ok v w'/\∃cs L',Ending.returned v = .returned (ox cs)/\Left w w' L0 L' ps rs/\jr w' L' ps.length rs r.1 cs/\fF w' L' 0 ps r.2 args.toList:=by
  intro log aO;cases vu:wg rs with
  | true =>
   rw[vu]at aO;obtain⟨L',cs,h0,h1,h2,h3⟩:=ahs hI hC aO (A0:=args.toList) (by simpa using hlen.symm) VN;exact⟨hI.dG,_,YT hr h0,_,L',rfl,h1,(jr.low vu).2 h2,h3⟩
  | false =>
   rw[vu]at aO;obtain⟨L',cs,h0,h1,h2,h3⟩:=ahr hI aO (A0:=args.toList) (by simpa using hlen.symm) VN;exact⟨hI.dG,_,YT hr h0,_,L',rfl,h1,h2,h3⟩
 cases ex with
 | ext i=>cases hk
 | bJ =>
  obtain⟨r',log,h1,h2⟩:=M.kJ hk;injection h2 with h2;subst h2;exact vk h1
 | ret =>
  obtain⟨r',log,h1,h2⟩:=M.kJ hk;injection h2 with h2;subst h2;exact vk h1
end
end Go.Proofs.YthfgcmoipebheaaGreat.P.Am
