/- A part of the proof: Am48,Am49,Am57,Am58,Am60,Am54,Am55,Am59. No conditions. -/
import Derived.Test.YtbhogmdpmkpinaaGreatPG5
set_option linter.unusedVariables false
set_option linter.unusedSimpArgs false
namespace Go.Proofs.YtbhogmdpmkpinaaGreat.P.Am
variable{d i n r sz t:Nat}{kids log q:List Nat}{o:Oper}{ups:List (Nat×V)}{x:Operand}{m:M (List (Nat×V))}{args:Array Operand}{cJ:Array TypeId}{bj:cX}{f:FuncId}{X:TypeId}{p:List St}{u:V}
structure agL where
 i:Nat
 r:Nat
 p:List St
 u:V
 n':Nat
 t:Ty
def IV(t:Ty)(n:Nat)(x:Operand):M (t.den×Nat×List St×V×Nat):=
 match x with
 | .tmp s=>.get s λv=>match v with
  | .view r p tv=>.get r λu=>(dI p u).bind λz =>
   if h:z.2.t=t then (if tv=t/\t.depth<=z.2.n/\t.depth<=n/\t.depth≠0/\z.1=none then .ret (h▸z.2.x,r,p,u,z.2.n)else .fail)else .fail
  | _=>.fail
 | _=>.fail
structure yi (ps:List (Ty×Mode)) where
 x:(dj ps).den
 ls:List Nat
 mu:List agL
def lV(C:Ctx):Nat->(ps:List (Ty×Mode))->List Operand->M (yi ps)
 | _,[],[]=>.ret ⟨(),[],[]⟩
 | i,(t,.ro)::ps,x::xs=>(pQ C t x).bind λy=>(lV C (i+1) ps xs).bind λr=>.ret ⟨(y.1,r.x),y.2++r.ls,r.mu⟩
 | i,(t,.mut n)::ps,x::xs=>(IV t n x).bind λy=>(lV C (i+1) ps xs).bind λr=>.ret ⟨(y.1,r.x),r.ls,⟨i,y.2.1,y.2.2.1,y.2.2.2.1,y.2.2.2.2,t⟩::r.mu⟩
 | _,_,_=>.fail
def ch(g:Nat->V->Bool):Nat->List V->List (Nat×V)
 | _,[]=>[]
 | i,v::l=>cond (g i v) ((i,.dead)::ch g (i+1) l) (ch g (i+1) l)
def ny(g:Nat->V->Bool):Nat->List V->Bool
 | _,[]=>true
 | i,v::l=>(!(g i v) || !v.aM)&&ny g (i+1) l
def iL(r d:Nat)(u:V):Nat->V->Bool:=λz v=>v.on r&&z != r&&z != d && !qE u v
def Ja(C:Ctx)(bj:cX)(vs:List Nat)(N d:Nat)(f:FuncId)(args:List Operand):M (List (Nat×V)):=
 match bj f with
 | none=>.fail
 | some F=>(lV C 0 F.ps args).bind λA=>match A.mu,F.rs with
  | [m],[(t0,n0)]=>cond (A.ls.contains m.r || !decide (m.r<N) || !decide (t0.depth=0) || !decide (n0<1000)) .fail (.cM (.pair (cV F.rs) (cI F.ps)) (F.an A.x) λres=>match mO vs [] F.rs res.1,tI F.ps res.2 with
   | some (.d none n1 t1 x1),some (.d none _ t' y')=>if h:t'=m.t then
     (if t1.depth=0 then (gf m.p m.u m.t (h▸y')).bind λu2=>(allM 0 N).bind λTs=>.bn (ny (iL m.r d m.u) 0 Ts) (.ret (((m.r,u2)::ch (iL m.r d m.u) 0 Ts)++[(d,.d none n1 t1 x1)]))else .fail)else .fail
   | _,_=>.fail)
  | _,_=>.fail
def aaE:List (Ty×Mode)->List Operand->Option Operand
 | (_,.ro)::ps,_::xs=>aaE ps xs
 | (_,.mut _)::_,x::_=>some x
 | _,_=>none
def Je(C:Ctx)(bj:cX)(vs:List Nat)(N d:Nat)(f:FuncId)(args:List Operand):M (List (Nat×V)):=
 match bj f with
 | none=>.fail
 | some F=>match aaE F.ps args with
  | some (.tmp s)=>.get s λv=>match v with
   | .view r p _=>.get r λu=>cond (u.dG&&p.isEmpty) (vT C bj vs N d f args) (Ja C bj vs N d f args)
   | _=>vT C bj vs N d f args
  | _=>vT C bj vs N d f args
section
variable{P:Program}{C:Ctx}{w w' w0:World}{S S':Nat->Prop}{L L' L0:Nat->aj}{s N:Nat}{vs:List Nat}{T T':List V}{tm tm':Array Value}{a:Act}
theorem pZ{g:Nat->V->Bool}:{i:Nat}->{l:List V}->(s:Nat)->(v:V)->((s,v)∈ch g i l↔v = .dead/\i<=s/\s<i+l.length/\g s (l.getD (s - i) .dead)=true)
 | i,[],s,v=>by
  simp only[ch,List.not_mem_nil,false_iff]
  rintro⟨_,h1,h2,_⟩
  simp at h2;omega
 | i,x::l,s,v=>by
  have ih:=pZ (g:=g) (i:=i+1) (l:=l) s v;have e:∀h:i+1<=s,(x::l).getD (s - i) .dead=l.getD (s - (i+1)) .dead:=λh=>by
   rw[show s - i=(s - (i+1))+1 by omega];rfl
  unfold ch;cases hg:g i x with
  | true =>
   rw[cond_true,List.mem_cons,ih];constructor
   ·rintro (h|⟨h1,h2,h3,h4⟩)
    ·injection h with h1 h2;subst h1;refine⟨h2,Nat.le_refl _,by simp,by rw[Nat.sub_self];exact hg⟩
    ·exact⟨h1,by omega,by simp only[List.length_cons];omega,by rw[e h2];exact h4⟩
   ·rintro⟨h1,h2,h3,h4⟩
    by_cases hs:s=i
    ·left;rw[hs,h1]
    ·right;simp only[List.length_cons]at h3;refine⟨h1,by omega,by omega,by rw[<-e (by omega)];exact h4⟩
  | false =>
   rw[cond_false,ih];constructor
   ·rintro⟨h1,h2,h3,h4⟩
    exact⟨h1,by omega,by simp only[List.length_cons];omega,by rw[e h2];exact h4⟩
   ·rintro⟨h1,h2,h3,h4⟩
    by_cases hs:s=i
    ·subst hs;rw[Nat.sub_self]at h4;change g s x=true at h4;rw[hg]at h4;cases h4
    ·simp only[List.length_cons]at h3;refine⟨h1,by omega,by omega,by rw[<-e (by omega)];exact h4⟩
theorem CB{g:Nat->V->Bool}:{i:Nat}->{l:List V}->ny g i l=true->∀s,s<l.length->g (i+s) (l.getD s .dead)=true->(l.getD s .dead).aM=false
 | _,[],_,s,h,_=>by simp at h
 | i,x::l,hk,s,h,hg=>by
  simp only[ny,Bool.and_eq_true,Bool.or_eq_true,Bool.not_eq_true']at hk;cases s with
  | zero =>
   change g (i+0) x=true at hg;rw[Nat.add_zero]at hg;change x.aM=false;rcases hk.1 with h1|h1
   ·rw[hg]at h1;cases h1
   ·exact h1
  | succ s =>
   simp only[List.length_cons]at h;exact CB (g:=g) (i:=i+1) hk.2 s (by omega) (by rw[show i+1+s=i+(s+1)by omega];exact hg)
theorem Form.inj{t:Ty}{c1 c2:List Value}{c:Value}(h1:Form t c1 c)(h2:Form t c2 c):c1=c2:=by
 cases t with
 | agg t =>
  have h1:c = .agg c1.toArray:=h1;have h2:c = .agg c2.toArray:=h2;rw[h1]at h2;injection h2 with h2;simpa using congrArg Array.toList h2
 | _=>exact (show c1=[c]from h1).trans (show c2=[c]from h2).symm
theorem akJ[af](hI:Inv w0 L0 N vs T a w L){t:Ty}{y:t.den}{n':Nat}(h:(IV t n x).ai T (y,r,p,u,n') log):
  T.getD r .dead=u/\t.depth<=n'/\t.depth<=n/\t.depth≠0/\(∃log,(dI p u).ai T (none,⟨n',t,y⟩) log) /\
   ∃g cur e,L g = .own r (node [] 0 p).1/\w.heap[g]?=some (.cells cur e (0,0))/\Form t ((cur.toList.drop (node [] 0 p).2).take t.sz) (a.eval x)/\Own w L (SL L none) r n' t y (node [] 0 p).1 (node [] 0 p).2 ((cur.toList.drop (node [] 0 p).2).take t.sz):=by
 unfold IV at h;split at h
 ·rename_i s;obtain⟨aG,rfl,h⟩:=h;have hs:=hI.aY s;generalize hv:T.getD s .dead=v at h hs;dsimp only at h;split at h
  ·rename_i r' p' tv;obtain⟨log2,rfl,h⟩:=h;dsimp only at h;obtain⟨⟨l,k,t',x'⟩,l1,l2,rfl,h1,h⟩:=M.aq h;dsimp only at h;split at h
   ·rename_i ht;subst ht;split at h
    ·rename_i hc;obtain⟨rfl,c1,c2,c3,rfl⟩:=hc;obtain⟨h,_⟩:=h;injection h with e1 e2;injection e2 with e2 e3;injection e3 with e3 e4;injection e4 with e4 e5;subst e1 e2 e3 e4 e5;have bd:=hI.aY r;obtain⟨⟨g,cur,e,k1,k2,k3,k4⟩,_,_,_,mh⟩:=lC h1 bd;refine⟨rfl,c1,c2,c3,⟨_,h1⟩,g,cur,e,k1,k2,?_,k4⟩;obtain⟨_,h2⟩:=hs;rcases h2 with⟨h2,_,l0,n0,x0,h3,_⟩|⟨g',cur',e',_,j1,j2,j3,j4⟩
     ·rw[h3]at mh;rcases mh with h|h
      ·simp[V.dG]at h
      ·exact absurd h2 h
     ·obtain rfl:=hI.inj g g' r _ k1 j1;rw[k2]at j2;injection j2 with j2;injection j2 with j2 _ _;subst j2;exact j4
    ·exact h.elim
   ·exact h.elim
  ·exact h.elim
 ·exact h.elim
theorem IX[af](hI:Inv w0 L0 N vs T a w L):{ps:List (Ty×Mode)}->{i:Nat}->{xs:List Operand}->{A:yi ps}->{log:List Nat}->(lV C i ps xs).ai T A log ->
  (∀r∈A.ls,(T.getD r .dead).deep=true) /\
  (∀m∈A.mu,i<=m.i/\∃n y,ps[m.i - i]?=some (m.t,.mut n)/\m.t.depth<=n/\m.t.depth<=m.n'/\m.t.depth≠0/\T.getD m.r .dead=m.u/\(∃log,(dI m.p m.u).ai T (none,⟨m.n',m.t,y⟩) log) /\
   ∃g cur e c,L g = .own m.r (node [] 0 m.p).1/\w.heap[g]?=some (.cells cur e (0,0))/\(xs.map a.eval)[m.i - i]?=some c/\Form m.t ((cur.toList.drop (node [] 0 m.p).2).take m.t.sz) c) /\
  (∀j t n,ps[j]?=some (t,.mut n)->∃m∈A.mu,m.i=i+j) /\
  ∀L1:Nat->aj,(∀k,L k = .au->L1 k = .au)->(∀k r q,r∈A.ls->L k = .own r q->L1 k = .au) ->
   (∀k m z rest,m∈A.mu->L k = .own m.r ((node [] 0 m.p).1++((node [] 0 m.p).2+z)::rest)->z<m.t.sz->L1 k = .own m.i (z::rest))->dX w L1 i ps A.x (xs.map a.eval)
 | [],i,[],A,log,h=>by
  obtain⟨rfl,_⟩:=h;exact⟨by simp,by simp,by simp,λ_ _ _ _=>rfl⟩
 | (t,.ro)::ps,i,x::xs,A,log,h=>by
  simp only[lV]at h;obtain⟨⟨y,ls⟩,l1,l2,rfl,h1,h⟩:=M.aq h;obtain⟨A',l3,l4,rfl,h2,h⟩:=M.aq h;obtain⟨rfl,_⟩:=h;obtain⟨cells,k1,k2,k3⟩:=vN hI h1;obtain⟨j1,j2,j4,j3⟩:=IX hI h2;refine⟨λr hr=>?_,λm hm=>?_,λj t' n hj=>?_,λL1 H1 H2 H3=>?_⟩
  ·rcases List.mem_append.1 hr with hr|hr
   ·exact k2 r hr
   ·exact j1 r hr
  ·obtain⟨hi,n',y',e1,e2,e3,e4,e5,e6,g,cur,e,c,f1,f2,f3,f4⟩:=j2 m hm;have:m.i - i=(m.i - (i+1))+1:=by omega
   exact⟨by omega,n',y',by rw[this];simpa using e1,e2,e3,e4,e5,e6,g,cur,e,c,f1,f2,by rw[this];simpa using f3,f4⟩
  ·cases j with
   | zero=>simp at hj
   | succ j =>
    obtain⟨m,hm,he⟩:=j4 j t' n (by simpa using hj);exact⟨m,hm,by omega⟩
  ·exact⟨a.eval x,_,cells,rfl,k1,Own.dP (k3 _ H1 (λk r q hr hk=>H2 k r q (List.mem_append_left _ hr) hk)),j3 L1 H1 (λk r q hr hk=>H2 k r q (List.mem_append_right _ hr) hk) H3⟩
 | (t,.mut n)::ps,i,x::xs,A,log,h=>by
  simp only[lV]at h;obtain⟨⟨y,r0,p0,u0,n0⟩,l1,l2,rfl,h1,h⟩:=M.aq h;obtain⟨A',l3,l4,rfl,h2,h⟩:=M.aq h;obtain⟨rfl,_⟩:=h;obtain⟨k1,k2,k3,k4,k5,g,cur,e,k6,k7,k8,k9⟩:=akJ hI h1;obtain⟨j1,j2,j4,j3⟩:=IX hI h2;refine⟨j1,λm hm=>?_,λj t' n' hj=>?_,λL1 H1 H2 H3=>?_⟩
  ·rcases List.mem_cons.1 hm with hm|hm
   ·subst hm;exact⟨Nat.le_refl _,n,y,by simp,k3,k2,k4,k1,k5,g,cur,e,a.eval x,k6,k7,by simp,k8⟩
   ·obtain⟨hi,n',y',e1,e2,e3,e4,e5,e6,g,cur,e,c,f1,f2,f3,f4⟩:=j2 m hm;have:m.i - i=(m.i - (i+1))+1:=by omega
    exact⟨by omega,n',y',by rw[this];simpa using e1,e2,e3,e4,e5,e6,g,cur,e,c,f1,f2,by rw[this];simpa using f3,f4⟩
  ·cases j with
   | zero=>exact⟨_,List.mem_cons_self ..,rfl⟩
   | succ j =>
    obtain⟨m,hm,he⟩:=j4 j t' n' (by simpa using hj);exact⟨m,List.mem_cons_of_mem _ hm,by omega⟩
  ·refine⟨a.eval x,_,_,rfl,k8,?_,j3 L1 H1 H2 (λk m z rest hm hk hz=>H3 k m z rest (List.mem_cons_of_mem _ hm) hk hz)⟩;refine Own.cap k2 k3 (Own.move (λk hk=>⟨?_,rfl⟩) (λk d rest hd hk=>⟨?_,rfl⟩) k9)
   ·rcases hk with hk|⟨_,_,hk,_⟩
    ·exact H1 k hk
    ·cases hk
   ·have:=H3 k ⟨i,r0,p0,u0,n0,t⟩ d rest (List.mem_cons_self ..) hk hd;simpa using this
 | [],_,_::_,_,_,h=>h.elim
 | (_,.ro)::_,_,[],_,_,h=>h.elim
 | (_,.mut _)::_,_,[],_,_,h=>h.elim
 | (_,.ptr _)::_,_,[],_,_,h=>h.elim
 | (_,.ptr _)::_,_,_::_,_,_,h=>h.elim
 | (_,.bV _)::_,_,[],_,_,h=>h.elim
 | (_,.bV _)::_,_,_::_,_,_,h=>h.elim
theorem IW{C:Ctx}:{ps:List (Ty×Mode)}->{i:Nat}->{xs:List Operand}->{A:yi ps}->{log:List Nat}->(lV C i ps xs).ai T A log->∀(j:Nat) (t:Ty) (n:Nat),ps[j]?≠some (t,.ptr n)
 | [],_,_,_,_,_,j,t,n=>by simp
 | (t0,.ro)::ps,i,x::xs,A,log,h,j,t,n=>by
  simp only[lV]at h;obtain⟨_,_,_,_,_,h⟩:=M.aq h;obtain⟨_,_,_,_,h2,_⟩:=M.aq h;cases j with
  | zero=>simp
  | succ j=>simpa using IW h2 j t n
 | (t0,.mut n0)::ps,i,x::xs,A,log,h,j,t,n=>by
  simp only[lV]at h;obtain⟨_,_,_,_,_,h⟩:=M.aq h;obtain⟨_,_,_,_,h2,_⟩:=M.aq h;cases j with
  | zero=>simp
  | succ j=>simpa using IW h2 j t n
 | (_,.ro)::_,_,[],_,_,h,_,_,_=>h.elim
 | (_,.mut _)::_,_,[],_,_,h,_,_,_=>h.elim
 | (_,.ptr _)::_,_,[],_,_,h,_,_,_=>h.elim
 | (_,.ptr _)::_,_,_::_,_,_,h,_,_,_=>h.elim
 | (_,.bV _)::_,_,[],_,_,h,_,_,_=>h.elim
 | (_,.bV _)::_,_,_::_,_,_,h,_,_,_=>h.elim
theorem akK[af]{C:Ctx}{ps:List (Ty×Mode)}{xs:List Operand}{A:yi ps}(h:(lV C i ps xs).ai T A log){j:Nat}{t:Ty}{m:Mode}(hj:ps[j]?=some (t,m))(hm:m.back=true):∃n,m = .mut n:=by
 match m,hj,hm with
 | .ro,_,hm=>cases hm
 | .bV _,_,hm=>cases hm
 | .mut n,_,_=>exact⟨n,rfl⟩
 | .ptr n,hj,_=>exact absurd hj (IW h j t n)
theorem aq4[af](hI:Inv w0 L0 N vs T a w L)(ej:fC P bj){d:Nat}  
  (ho:o.op = .call { callee:=.value (.func f),args,argTypes:=cJ }) (aB:o.dst=some d) (hd:d<N) (hid:(T.getD d .dead).idle=true)
  (h:(Ja C bj vs N d f args.toList).ai T ups log):Step P o w0 L0 N vs (ah T ups) a w:=by
 unfold Ja at h;split at h
 ·exact h.elim
 ·rename_i F hF;obtain⟨⟨fn,iR,gq,nG⟩,aC⟩:=ej f F hF;have hb:=M.aq h;clear h;obtain⟨A,l1,l2,rfl,h1,h⟩:=hb;obtain⟨eB,gp,qj,il⟩:=IX hI h1;have aP:=Go.Conc.run_call_body (P:=P) (a:=a) (w:=w) ho iR gq nG;obtain⟨yp,Frs,axn⟩:=F;dsimp only at h il qj gp aC A;split at h
  ·rename_i m t0 n0 hA;cases hc:(A.ls.contains m.r || !decide (m.r<N) || !decide (t0.depth=0) || !decide (n0<1000))with
   | true=>rw[hc]at h;exact h.elim
   | false =>
    rw[hc]at h;simp only[Bool.or_eq_false_iff,Bool.not_eq_false',decide_eq_true_eq]at hc;obtain⟨⟨⟨eA,dw⟩,Kz⟩,iS⟩:=hc;have jx:m.r∉A.ls:=λhm=>by rw[List.contains_iff_mem.2 hm]at eA;cases eA
    obtain⟨res,fj,h⟩:=h;dsimp only at h;split at h
    ·rename_i n1 t1 x1 n2 t' y' hv qu;split at h
     ·rename_i KB;subst KB;split at h
      ·rename_i ht1;obtain⟨u2,l3,l4,rfl,iu,h⟩:=M.aq h;obtain⟨Ts,l5,l6,rfl,dS,ju,nX⟩:=M.aq h;obtain⟨rfl,_⟩:=nX;have bI:Ts=T:=by rw[lT dS (by rw[Nat.zero_add,hI.len])];rfl
       subst bI;obtain⟨_,n,y,h2,h3,h4,h5,h6,⟨axT,hz⟩,g0,cur,e,c,k1,k2,k3,k4⟩:=gp m (by rw[hA];simp);simp only[Nat.sub_zero]at h2 k3;have td:m.i<yp.length:=(List.getElem?_eq_some_iff.1 h2).1;have jw:∀(j:Nat) (t:Ty) (n:Nat),yp[j]?=some (t,Mode.mut n)->j=m.i:=by
        intro j t n hj;obtain⟨m',bY,he⟩:=qj j t n hj;rw[hA]at bY;rw[List.mem_singleton.1 bY]at he;omega
       have bd:=hI.aY m.r;rw[h6]at bd;obtain⟨_,_,_,ix,_⟩:=lC hz bd;have bC:m.r≠d:=di hid (by rw[h6];exact ix);have nN:jQ w (λk=>kO m.r (node [] 0 m.p).1 (node [] 0 m.p).2 m.t.sz m.i A.ls (L k)) yp:=by
        refine⟨λk hk=>by rw[hI.free k hk];rfl,λk k' s q h h'=>?_,λk s q h=>?_,af.aT hI.fr.ij λk hk h0=>⟨?_,(hI.fr.aT k hk h0).2⟩⟩
        ·obtain⟨y1,r1,e1,e2,e3⟩:=Ms h;obtain⟨y2,r2,e4,e5,e6⟩:=Ms h';rw[e2]at e5;injection e5 with e5 e7;subst e5 e7;exact hI.inj k k' _ _ e3 e6
        ·obtain⟨y1,r1,rfl,e2,e3⟩:=Ms h;exact⟨m.t,.mut n,h2,by simp only[Mode.owned,Bool.and_eq_true,bne_iff_ne];omega⟩
        ·rw[(hI.fr.aT k hk h0).1];rcases h0 with h0|h0<;>rw[h0]<;>simp[kO]
       have dM:=il (λk=>kO m.r (node [] 0 m.p).1 (node [] 0 m.p).2 m.t.sz m.i A.ls (L k)) (λk hk=>by rw[hk];rfl) (λk r q hr hk=>by
        rw[hk];unfold kO;dsimp only;rw[if_neg (λe0:r=m.r=>jx (by rw[<-e0];exact hr)),if_pos (by simpa using hr)]) (λk m' z rest bY hk bW=>by
        rw[hA]at bY;obtain rfl:=List.mem_singleton.1 bY;rw[hk];exact arM bW)
       intro K Q hK;unfold Oper.wp;rw[aP,Oper.upon_enter];refine Calls.mono (aC A.x res fj w _ (args.map a.eval) nN (by simpa using dM)) ?_
       rintro e' w' ⟨cs,L',rfl,bc,cm,km⟩
       dsimp only;rw[aB];have ik:ah Ts (((m.r,u2)::ch (iL m.r d m.u) 0 Ts)++[(d,V.d none n1 t1 x1)])=(ah Ts ((m.r,u2)::ch (iL m.r d m.u) 0 Ts)).set d (V.d none n1 t1 x1):=by
        rw[lE];rfl
       have nO:(ah Ts ((m.r,u2)::ch (iL m.r d m.u) 0 Ts)).length=N:=by rw[cH,hI.len]
       have br:∀s,s≠d->(ah Ts (((m.r,u2)::ch (iL m.r d m.u) 0 Ts)++[(d,V.d none n1 t1 x1)])).getD s .dead=(ah Ts ((m.r,u2)::ch (iL m.r d m.u) 0 Ts)).getD s .dead:=by
        intro s hs;rw[ik,aH,if_neg (λe=>hs e.1)]
       have eL:∀s v,(s,v)∈((m.r,u2)::ch (iL m.r d m.u) 0 Ts)->(s=m.r/\v=u2)\/(v = .dead/\s≠m.r/\iL m.r d m.u s (Ts.getD s .dead)=true):=by
        intro s v bY;rcases List.mem_cons.1 bY with bY|bY
        ·injection bY with h1 h2;exact .inl ⟨h1,h2⟩
        ·obtain⟨h1,_,_,h2⟩:=(pZ s v).1 bY;simp only[Nat.sub_zero]at h2;refine .inr ⟨h1,?_,h2⟩
         rintro rfl
         simp[iL]at h2
       have bE:(ah Ts ((m.r,u2)::ch (iL m.r d m.u) 0 Ts)).getD m.r .dead=u2:=by
        refine iK (by rw[hI.len];exact dw) (by simp) (λv bY=>?_);rcases eL m.r v bY with⟨_,h⟩|⟨_,h,_⟩
        ·exact h
        ·exact absurd rfl h
       have qh:∀s,s≠d->s≠m.r->(Ts.getD s .dead).on m.r=true->iL m.r d m.u s (Ts.getD s .dead) = !qE m.u (Ts.getD s .dead):=by
        intro s h1 h2 h3;unfold iL;rw[h3];simp[h1,h2]
       refine hK _ _ _ (Inv.akT (d:=d) (c:=pn cs) (V0:=V.d none n1 t1 x1) hI hd hid h6 hz iu h3 h4 k1 k2 bc ?_ ?_ (by rw[cH,hI.len]) ?_ ?_ (λr=>rfl) ?_ ?_ ?_)
       ·intro k s q hk;rcases bc.owner k s q hk with⟨_,t,n,h,h9⟩|⟨t,md,h,hmd⟩
        ·simp only[List.mem_singleton,Prod.mk.injEq]at h;rcases h9 with h9|h9
         ·exact absurd (by rw[h.1];exact Kz) h9.2
         ·omega
        ·obtain⟨n,rfl⟩:=akK h1 h hmd;exact jw s t n h
       ·have amD:fV w' L' 0 yp res.2 (args.toList.map a.eval):=by simpa using km
        obtain⟨j,t',n',y9,c',cells,m1,m2,m3,m4,m5⟩:=Lr amD qu;have cR:=jw j t' n' m1;subst cR;rw[h2]at m1;injection m1 with m1;injection m1 with m1 lv;injection lv with lv;subst lv;cases m2;rw[k3]at m3;injection m3 with m3;subst m3;rw[Nat.zero_add]at m5;have:cells=(cur.toList.drop (node [] 0 m.p).2).take m.t.sz:=Form.inj m4 k4;rw[<-this];exact m5
       ·rw[br m.r bC,bE]
       ·rw[ik,aH,if_pos ⟨rfl,by rw[nO];exact hd⟩]
       ·intro L2 tm';have De:=cm;have De:=(jR.low (rs:=[(t0,n0)]) (decide_eq_true iS)).1 De;simp only[jj]at De;obtain⟨c',bl,cells,rfl,r1,r2,rfl⟩:=De;have cS:some (V.d none n0 t0 res.1.1)=some (V.d none n1 t1 x1):=by
         simp only[mO]at hv
         rwa [if_neg (by omega),if_pos (by rw[Kz];exact Nat.zero_le _)]at hv
        cases cS;exact⟨by simp,cells,r1,Own.flat Kz r2⟩
       ·intro z iV dN ag;rw[br z iV];have pe:z<N:=by
         rcases Nat.lt_or_ge z N with h|h
         ·exact h
         ·rw[eJ (by rw[hI.len];exact h)]at ag;simp[V.on,V.root]at ag
        have C7:=qh z iV dN ag;cases hk:qE m.u (Ts.getD z .dead)with
        | true =>
         refine .inr ⟨fg _ _ _ (λbY=>?_),rfl⟩;obtain⟨uu,hu,he⟩:=List.mem_map.1 bY;rcases eL z uu.2 (by rw[<-he];exact hu)with⟨h,_⟩|⟨_,_,h⟩
         ·exact dN h
         ·rw[C7,hk]at h;cases h
        | false =>
         rw[hk]at C7;refine .inl ⟨iK (by rw[hI.len];exact pe) ?_ (λv bY=>?_),?_⟩
         ·rw[List.mem_map];exact⟨(z,.dead),List.mem_cons_of_mem _ ((pZ z .dead).2 ⟨rfl,Nat.zero_le _,by rw[Nat.zero_add,hI.len];exact pe,by rw[Nat.sub_zero];exact C7⟩),rfl⟩
         ·rcases eL z v bY with⟨h,_⟩|⟨h,_⟩
          ·exact absurd h dN
          ·exact h
         ·exact CB ju z (by rw[hI.len];exact pe) (by rw[Nat.zero_add];exact C7)
       ·intro z iV dN ag;rw[br z iV];refine fg _ _ _ (λbY=>?_);obtain⟨uu,hu,he⟩:=List.mem_map.1 bY;rcases eL z uu.2 (by rw[<-he];exact hu)with⟨h,_⟩|⟨_,_,h⟩
        ·exact dN h
        ·unfold iL at h;rw[ag]at h;simp at h
      ·exact h.elim
     ·exact h.elim
    ·exact h.elim
  ·exact h.elim
theorem aq8[af](hI:Inv w0 L0 N vs T a w L)(ej:fC P bj)       
  (ho:o.op = .call { callee:=.value (.func f),args,argTypes:=cJ }) (aB:o.dst=some d) (hd:d<N) (hid:(T.getD d .dead).idle=true)
  (h:(Je C bj vs N d f args.toList).ai T ups log):Step P o w0 L0 N vs (ah T ups) a w:=by
 unfold Je at h;split at h
 ·exact h.elim
 ·split at h
  ·rename_i s _;obtain⟨eW,rfl,h⟩:=h;generalize T.getD s .dead=v at h;dsimp only at h;split at h
   ·obtain⟨log2,rfl,h⟩:=h;dsimp only at h;generalize (V.dG _&&List.isEmpty _)=b at h;cases b with
    | true=>exact Mm hI ej ho aB hd hid h
    | false=>exact aq4 hI ej ho aB hd hid h
   ·exact Mm hI ej ho aB hd hid h
  ·exact Mm hI ej ho aB hd hid h
end
def nY:List St->Nat
 | []=>0
 | .a7 _ _::p=>nY p
 | .idx _ _::p=>nY p+1
theorem DM:{p:List St}->{q:List Nat}->{o:Nat}->(node q o p).1.length=q.length+nY p
 | [],_,_=>rfl
 | .a7 _ _::p,_,_=>DM (p:=p)
 | .idx sz i::p,q,o=>by
  have:=DM (p:=p) (q:=q++[o]) (o:=i.toNat*sz);simp only[node,nY];rw[this];simp only[List.length_append,List.length_singleton];omega
def xB(n r:Nat)(v:V):Bool := !v.eI r||(match v with
 | .ptr _ _ _=>true
 | .view _ p _=>decide (nY p<n)
 | _=>false)
def K4{α:Type}(n r:Nat):List Nat->M α->M α
 | [],m=>m
 | k::l,m=>.get k λv=>.bn (xB n r v) (K4 n r l m)
def Mn(C:Ctx)(N:Nat)(kids:List Nat)(X:TypeId)(r:Nat)(p:List St)(u:V)(x:Operand)(m:M (List (Nat×V))):M (List (Nat×V)):=
 (dI p u).bind λz =>
  if z.2.t.depth=0/\u.fD=true/\shallow p=false/\C.ty X=some z.2.t/\(u.root != some r)=true/\r<N/\r<100000 then
   (cK C X x).bind λv=>match v with
   | .d none _ t' y=>if h:t'=z.2.t then (gf p u z.2.t (h▸y)).bind λu'=>K4 (nY p) r kids (.ask (vS r (jD false (r::kids))) (.ret [(r,u')]))else .fail
   | _=>.fail
  else m
section
variable{P:Program}{C:Ctx}{w w' w0:World}{S S':Nat->Prop}{L L' L0:Nat->aj}{s N:Nat}{vs:List Nat}{T T':List V}{tm tm':Array Value}{a:Act}
theorem ZY{α:Type}{m:M α}{x:α}:{l:List Nat}->{log:List Nat}->(K4 n r l m).ai T x log->(∀k∈l,xB n r (T.getD k .dead)=true)/\∃aG,m.ai T x aG
 | [],log,h=>⟨by simp,log,h⟩
 | k::l,log,h=>by
  obtain⟨aG,rfl,hc,h⟩:=h;obtain⟨h1,h2⟩:=ZY (l:=l) h;refine⟨λk' aI=>?_,h2⟩;rcases List.mem_cons.1 aI with rfl|aI
  ·exact hc
  ·exact h1 k' aI
theorem arp[af](hI:Inv w0 L0 N vs T a w L)(hC:bD P C){u:V}{m:M (List (Nat×V))}(ho:o.op = .store X (.tmp t) x)(aB:o.dst=none)
  (ht:addrOf t (T.getD t .dead)=some (r,p)) (cZ:∀r p,addrOf t (T.getD t .dead)=some (r,p)->∃g,a.eval (.tmp t) = .pointer (some ⟨g,(node [] 0 p).2,none⟩)/\L g = .own r (node [] 0 p).1)
  (hr:T.getD r .dead=u) (h:(Mn C N kids X r p u x m).ai T ups log) (hm:∀log,m.ai T ups log->Step P o w0 L0 N vs (ah T ups) a w):Step P o w0 L0 N vs (ah T ups) a w:=by
 obtain⟨⟨l,n',t',x'⟩,l1,l2,rfl,hz,h⟩:=M.aq h;dsimp only at h;split at h
 ·rename_i hc;obtain⟨hd,Df,Yl,hX,mC,dw,Ks⟩:=hc;clear hm;obtain⟨v,l3,l4,rfl,hv,h⟩:=M.aq h;split at h
  ·rename_i k tv y;split at h
   ·rename_i qs;subst qs;obtain⟨u',l5,l6,rfl,wR,h⟩:=M.aq h;obtain⟨Ke,log2,h⟩:=ZY h;obtain⟨⟨hq,_⟩,fQ,rfl,h⟩:=h;obtain⟨rfl,_⟩:=h;have aC:∀z,z≠r->xB (nY p) r (T.getD z .dead)=true:=by
     intro z hz;by_cases hm:z∈kids
     ·exact Ke z hm
     ·have:=I3 Ks hq z (xq (by simp[hz,hm]));rw[xr]at this;have this:(T.getD z .dead).eI r=false:=this;unfold xB;rw[this];rfl
    obtain⟨g,qg,hg⟩:=cZ r p ht;have bd:=hI.aY r;rw[hr]at bd;obtain⟨⟨g',cur,e,k1,k2,k3,k4⟩,_,_,ix,mh⟩:=lC hz bd;obtain rfl:=hI.inj g g' r _ hg k1;have nW:u.dG=false:=by cases u<;>simp[V.fD,V.dG]at Df ⊢
    have ek:∃cs s0,Form tv cs (a.eval x)/\Own w L (SL L none) s0 k tv y [] 0 cs:=by
     rcases kH hI hv with⟨s,rfl,_,hs⟩|⟨_,hs⟩
     ·obtain⟨_,cs,hf,bQ⟩:=hs;exact⟨cs,s,hf,bQ⟩
     ·obtain⟨_,cs,hf,bQ⟩:=hs L T a.tmps 0 w;exact⟨cs,0,hf,bQ⟩
    obtain⟨cs,s0,hf,bQ⟩:=ek;have ee:=Own.one bQ;have hlen:=Own.len bQ;have aP:(execOp a.eval o).run P w = .ok .skip (w.setRow g (putCells cur (node [] 0 p).2 cs)):=by
     simp[execOp,ho,qg,tT (hC X _ hX) k2 hf ee hlen k3]
    have bE:(ah T [(r,u')]).getD r .dead=u':=by
     show (T.set r u').getD r .dead=u';rw[aH,if_pos ⟨rfl,by rw[hI.len];exact dw⟩]
    have br:∀z,z≠r->(ah T [(r,u')]).getD z .dead=T.getD z .dead:=by
     intro z hz;show (T.set r u').getD z .dead=_;rw[aH,if_neg (λh=>hz h.1)]
    intro K Q hK;unfold Oper.wp;rw[aP,Oper.upon_skip,aB];refine hK a _ _ (Inv.store (m:=n') (src:=none) hI hr hz wR (by simpa using mC) hg k2 k3 hlen (by simp) (by rw[cH,hI.len]) bE ?_ (λz hz _ _=>br z hz) (Own.flat hd bQ));intro z hz _ ag;refine .inr ⟨br z hz,?_⟩;have hk:=aC z hz;unfold xB V.eI at hk;rw[ag,Bool.true_and]at hk;generalize T.getD z .dead=vz at hk ag;cases vz with
    | ptr r2 p2 t2=>exact .inl rfl
    | view r2 p2 t2 =>
     have:r2=r:=by simpa[V.on,V.root]using ag
     subst this;refine .inr ⟨rfl,Yl,nW,p2,t2,rfl,λhe=>?_⟩;have hk:nY p2<nY p:=by simpa using hk
     have:=congrArg List.length he;rw[DM,DM]at this;omega
    | _=>simp at hk
   ·exact h.elim
  ·exact h.elim
 ·exact hm _ h
end
def lJ(r:Nat)(q:List Nat)(o sz s:Nat):Nat->List Nat->aj:=λz q2 =>
 if z=r then match cut q q2 with
  | some (y::rest)=>if o<=y/\y<o+sz then .own s ((y - o)::rest)else .own r q2
  | _=>.own r q2
 else if z=s then .other else .own z q2
def LB(r:Nat)(v:V):Bool := !v.on r||(match v with
 | .same _ _=>true
 | .ptr _ [.idx _ _] _=>true
 | _=>false)
def DO(r:Nat):List V->Bool
 | []=>true
 | v::l=>LB r v&&DO r l
def DK(r:Nat):List V->Bool
 | []=>true
 | v::l => !v.on r&&DK r l
def WB(C:Ctx)(N:Nat)(X:TypeId)(d r sz:Nat)(i:Int)(n:Nat):(ty:Ty)->ty.den->M (List (Nat×V))
 | .pair (.int k) (.slice e te),x=>if C.ty X=some te/\te.depth≠0/\n≠0/\sz=te.sz/\d<N/\r<N/\d≠r then
   .get d λvd=>.bn (vd.idle&&decide (x.1<=i)) (.cM te (ae x.2 i) λy=>(allM 0 N).bind λTs=>.bn (DO r Ts) (.ret [(r,.bP 0 n (.pair (.int k) (.slice e te)) (i+1,x.2)),(d,.d none n te y)]))
  else .fail
 | _,_=>.fail
def Jx(C:Ctx)(N:Nat)(X:TypeId)(d t:Nat):M (List (Nat×V)):=
 .get t λv=>match v with
 | .ptr r [.idx sz i] _=>.get r λu=>match u with
  | .bP 0 n ty x=>WB C N X d r sz i n ty x
  | _=>.fail
 | _=>.fail
def vX(vs:List Nat)(N d:Nat)(fl:Bool)(x:Operand)(m:M (List (Nat×V))):M (List (Nat×V)):=
 match x with
 | .tmp s=>.get s λv=>match v with
  | .bP 0 _ (.pair (.int _) t) _=>.get d λvd=>.bn (vd.idle&&decide (d<N)&&vs.contains s) (.ret [(d,.same s t)])
  | .d none (n+1) (.slice e t) xs=>cond fl (if d<N/\s<N/\d≠s then .get d λvd=>.bn (vd.idle&&vs.contains s) ((allM 0 N).bind λTs=>.bn (DK s Ts) (.ret [(s,.bP 0 n (.pair (.int .i64) (.slice e t)) ((0:Int),xs)),(d,.same s (.slice e t))]))else .fail) m
  | _=>m
 | _=>m
def WA(C:Ctx)(X:TypeId)(d:Nat):(ty:Ty)->ty.den->M (List (Nat×V))
 | .pair (.int _) (.slice e te),x=>if C.ty X=some (.slice e te)then .ret [(d,.d none 0 (.int .i64) (x.2.length:Int))]else .fail
 | _,_=>.fail
def Jw(C:Ctx)(d:Nat)(l:List Operand)(cJ:List TypeId)(m:M (List (Nat×V))):M (List (Nat×V)):=
 match l,cJ with
 | [.tmp t],[X]=>.get t λv=>match v with
  | .same r _=>.get r λu=>match u with
   | .bP 0 _ ty x=>WA C X d ty x
   | _=>m
  | _=>m
 | _,_=>m
def Wz(C:Ctx)(vs:List Nat)(X:TypeId)(d r:Nat)(i:Int):(ty:Ty)->ty.den->M (List (Nat×V))
 | .pair (.int _) (.slice _ te),x=>if pv C X=some te then .cM te (ae x.2 i) λ_=>.bn (vs.contains r) (.ret [(d,.ptr r [.idx te.sz i] te)])else .fail
 | _,_=>.fail
def Jv(C:Ctx)(vs:List Nat)(X:TypeId)(d t:Nat)(y:Operand)(m:M (List (Nat×V))):M (List (Nat×V)):=
 .get t λv=>match v with
 | .same r _=>.get r λu=>match u with
  | .bP 0 _ ty x=>(cK C 0 y).bind λz=>match z with
   | .d _ _ (.int _) i=>Wz C vs X d r i ty x
   | _=>.fail
  | _=>m
 | _=>m
section
variable{P:Program}{C:Ctx}{w w' w0:World}{S S':Nat->Prop}{L L' L0:Nat->aj}{s N:Nat}{vs:List Nat}{T T':List V}{tm tm':Array Value}{a:Act}
theorem ue[af]{s:Nat}{o:Nat}{z:Nat}{q2:List Nat}{z':Nat}{q3:List Nat}(h:lJ r q o sz s z q2 = .own z' q3):
  (z=r/\∃i rest,i<sz/\q2=q++(o+i)::rest/\z'=s/\q3=i::rest)\/(z=r/\z'=r/\q3=q2/\∀i rest,i<sz->q2≠q++(o+i)::rest)\/(z≠r/\z≠s/\z'=z/\q3=q2):=by
 unfold lJ at h;split at h
 ·rename_i hz;split at h
  ·rename_i y rest hc;split at h
   ·rename_i hy;injection h with h1 h2;refine .inl ⟨hz,y - o,rest,by omega,?_,h1.symm,h2.symm⟩;rw[oJ hc];congr 2;omega
   ·rename_i hy;injection h with h1 h2;refine .inr (.inl ⟨hz,h1.symm,h2.symm,λi fJ hi he=>?_⟩);rw[he,nw]at hc;simp only[Option.some.injEq,List.cons.injEq]at hc;omega
  ·rename_i cB;injection h with h1 h2;refine .inr (.inl ⟨hz,h1.symm,h2.symm,λi fJ _ he=>?_⟩);exact cB (o+i) fJ (by rw[he,nw])
 ·rename_i hz;split at h
  ·cases h
  ·rename_i hs;injection h with h1 h2;exact .inr (.inr ⟨hz,hs,h1.symm,h2.symm⟩)
theorem arI[af]{s:Nat}{o:Nat}{X:Nat->Prop}(hr:X r)(hs:X s)(iT:r≠s):fL (lJ r q o sz s) X:=by
 refine⟨λz q2 hX=>?_,λz q2 z' q3 hX h=>?_,λz q2 z2 q3 z' q4 h1 h2=>?_,λz q2=>?_⟩
 ·unfold lJ;rw[if_neg (λe:z=r=>hX (e▸hr)),if_neg (λe:z=s=>hX (e▸hs))]
 ·rcases ue h with⟨_,_,_,_,_,rfl,_⟩|⟨_,rfl,_⟩|⟨_,_,rfl,_⟩
  ·exact hs
  ·exact hr
  ·exact hX
 ·rcases ue h1 with⟨rfl,i,rest,_,rfl,rfl,rfl⟩|⟨rfl,rfl,rfl,hn⟩|⟨g1,g2,rfl,rfl⟩
  ·rcases ue h2 with⟨rfl,i',fJ,_,rfl,_,he⟩|⟨rfl,he,_⟩|⟨_,g2,he,_⟩
   ·injection he with nH he;exact⟨rfl,by rw[he,nH]⟩
   ·exact absurd he.symm iT
   ·exact absurd he.symm g2
  ·rcases ue h2 with⟨_,i',fJ,_,_,he,_⟩|⟨rfl,_,he,_⟩|⟨g1,_,he,_⟩
   ·exact absurd he iT
   ·exact⟨rfl,he⟩
   ·exact absurd he.symm g1
  ·rcases ue h2 with⟨_,i',fJ,_,_,he,_⟩|⟨_,he,_⟩|⟨_,_,h3,h4⟩
   ·exact absurd he g2
   ·exact absurd he g1
   ·exact⟨h3,h4⟩
 ·unfold lJ
  repeat' split
  all_goals simp
theorem arH[af]{s:Nat}{o:Nat}{rest:List Nat}(hi:i<sz):lJ r q o sz s r (q++(o+i)::rest) = .own s (i::rest):=by
 unfold lJ;rw[if_pos rfl,nw];dsimp only;rw[if_pos ⟨by omega,by omega⟩,show o+i - o=i by omega]
theorem arJ[af]{s:Nat}{o:Nat}{q2:List Nat}(h:∀i rest,i<sz->q2≠q++(o+i)::rest):lJ r q o sz s r q2 = .own r q2:=by
 unfold lJ;rw[if_pos rfl];split
 ·rename_i y rest hc;split
  ·rename_i hy;exact absurd (oJ hc) (by
    have:=h (y - o) rest (by omega)
    rwa [show o+(y - o)=y by omega]at this)
  ·rfl
 ·rfl
theorem apN{l:List V}(h:DO r l=true)(z:Nat):LB r (l.getD z .dead)=true:=by
 induction l generalizing z with
 | nil=>rfl
 | cons v l ih =>
  simp only[DO,Bool.and_eq_true]at h;cases z with
  | zero=>exact h.1
  | succ z=>exact ih h.2 z
theorem apD{l:List V}(h:DK r l=true)(z:Nat):(l.getD z .dead).on r=false:=by
 induction l generalizing z with
 | nil=>rfl
 | cons v l ih =>
  simp only[DK,Bool.and_eq_true,Bool.not_eq_true']at h;cases z with
  | zero=>exact h.1
  | succ z=>exact ih h.2 z
theorem apr[af](hI:Inv w0 L0 N vs T a w L){z:Nat}(h:T.getD z .dead ≠ .dead):z<N:=by
 rcases Nat.lt_or_ge z N with h1|h1
 ·exact h1
 ·exact absurd (eJ (by rw[hI.len];exact h1)) h
theorem aqA[af](hI:Inv w0 L0 N vs T a w L){x:Operand}{s:Nat}{k:IntKind}{t:Ty}{y:(Ty.pair (.int k) t).den}(ho:qC o (.tmp s))(hid:(T.getD d .dead).idle=true)(hs:T.getD s .dead = .bP 0 n (.pair (.int k) t) y)(hv:s∈vs):
  aL P o vs T a w L d (.same s t):=by
 have bL:s≠d:=di hid (by rw[hs];rfl);refine⟨a.tmps.getD s undef,w,L,tS ho,ew.refl hI d,λk q hk h=>(by rw[hI.free k hk]at h;cases h),λr hr=>?_,?_,n,k,y,?_⟩
 ·have:s=r:=by simpa[V.on,V.root]using hr
  exact this▸hv
 ·rw[ed,if_neg (λh=>bL h.1)]
 ·rw[aH,if_neg (λh=>bL h.1),hs]
theorem ari[af](hI:Inv w0 L0 N vs T a w L){x:Operand}{fl:Bool}(ho:qC o x)(aB:o.dst=some d)
  (h:(vX vs N d fl x m).ai T ups log) (hm:∀log,m.ai T ups log->Step P o w0 L0 N vs (ah T ups) a w):Step P o w0 L0 N vs (ah T ups) a w:=by
 unfold vX at h;split at h
 ·rename_i s;obtain⟨aG,rfl,h⟩:=h;generalize hv:T.getD s .dead=v at h;dsimp only at h;split at h
  ·rename_i n k t y;obtain⟨l2,rfl,hc,h⟩:=h;simp only[Bool.and_eq_true,decide_eq_true_eq]at hc;obtain⟨rfl,_⟩:=h;intro K Q hK;exact aL.inv hI hc.1.2 hc.1.1 aB (aqA (x:=.tmp s) hI ho hc.1.1 hv (List.contains_iff_mem.1 hc.2)) hK
  ·rename_i n e t xs;cases fl with
   | false=>exact hm _ h
   | true =>
    rw[cond_true]at h;split at h
    ·rename_i hc;obtain⟨qf,b9,iQ⟩:=hc;obtain⟨l2,rfl,hid,h⟩:=h;obtain⟨Ts,l3,l4,rfl,dS,cB,h⟩:=M.aq h;obtain⟨rfl,_⟩:=h;have bI:Ts=T:=by rw[lT dS (by rw[Nat.zero_add,hI.len])];rfl
     subst bI;simp only[Bool.and_eq_true]at hid;have XU:=hid.1;have bf:s∈vs:=List.contains_iff_mem.1 hid.2;have iU:=hI.aY s;rw[hv]at iU;obtain⟨_,cs,hf,bQ⟩:=iU;have bU:(ah Ts [(s,V.bP 0 n (.pair (.int .i64) (.slice e t)) ((0:Int),xs)),(d,.same s (.slice e t))]).getD d .dead = .same s (.slice e t):=by
      show ((Ts.set s _).set d _).getD d .dead=_;rw[aH,if_pos ⟨rfl,by simp[hI.len,qf]⟩]
     have bI:(ah Ts [(s,V.bP 0 n (.pair (.int .i64) (.slice e t)) ((0:Int),xs)),(d,.same s (.slice e t))]).getD s .dead = .bP 0 n (.pair (.int .i64) (.slice e t)) ((0:Int),xs):=by
      show ((Ts.set s _).set d _).getD s .dead=_;rw[aH,if_neg (λh=>iQ h.1.symm),aH,if_pos ⟨rfl,by rw[hI.len];exact b9⟩]
     have br:∀z,z≠d->z≠s->(ah Ts [(s,V.bP 0 n (.pair (.int .i64) (.slice e t)) ((0:Int),xs)),(d,.same s (.slice e t))]).getD z .dead=Ts.getD z .dead:=by
      intro z h1 h2;show ((Ts.set s _).set d _).getD z .dead=_;rw[aH,if_neg (λh=>h1 h.1),aH,if_neg (λh=>h2 h.1)]
     refine Step.value (L':=L) aB (tS ho) ?_;have wZ:(a.put (some d) (a.eval (.tmp s))).tmps.getD d undef=a.tmps.getD s undef:=by
      show (a.tmps.setIfInBounds d _).getD d undef=_;rw[ed,if_pos ⟨rfl,by rw[hI.size];exact qf⟩];rfl
     have nT:∀z,z≠d->(a.put (some d) (a.eval (.tmp s))).tmps.getD z undef=a.tmps.getD z undef:=λz hz=>kJ (by simpa using Ne.symm hz);refine Inv.upd (λz=>z=s\/z=d) hI (by simp[Act.put,hI.size]) (by rw[cH,hI.len]) hI.dR hI.fr hI.free hI.inj ?_ (λ_ _ _ _=>⟨rfl,rfl⟩) ?_ ?_ ?_ ?_
     ·intro k z q hk;by_cases h1:z=d
      ·subst h1;have:=hI.owner k z q hk;rw[V.kG XU]at this;cases this
      ·by_cases h2:z=s
       ·subst h2;rw[bI];rfl
       ·rw[br z h1 h2];exact hI.owner k z q hk
     ·intro z hz;have hz:=not_or.1 hz;exact⟨br z hz.2 hz.1,nT z hz.2⟩
     ·intro z r ag;by_cases h1:z=d
      ·subst h1;rw[bU]at ag;have:s=r:=by simpa[V.on,V.root]using ag
       exact this▸bf
      ·by_cases h2:z=s
       ·subst h2;rw[bI]at ag;simp[V.on,V.root]at ag
       ·rw[br z h1 h2]at ag;exact hI.roots z r ag
     ·intro z r hz ag bz;have h1:r≠d:=di XU bz;have h2:r≠s:=λe=>by
       subst e;have:=apD cB z;rw[this]at ag;cases ag
      exact⟨br r h1 h2,nT r h1⟩
     ·intro z hz;rcases hz with rfl|rfl
      ·rw[bI,nT _ (Ne.symm iQ)];simp only[aD,fM];have C2:cs=[a.tmps.getD z undef]:=hf;simp only[Own]at bQ;rcases bQ with⟨h1,h2⟩|⟨g,cap,cur,h1,h2,h3,h4,h5,h6,h7⟩
       ·rw[h1]at C2;exact .inl ⟨(List.cons.inj C2).1.symm,h2⟩
       ·rw[h1]at C2;refine .inr ⟨g,cap,cur,(List.cons.inj C2).1.symm,by simpa using h2,h3,h4,h5,h6,λj hj _=>?_⟩;simpa using h7 j hj
      ·rw[bU,wZ];exact⟨(nT s (Ne.symm iQ)).symm,n,.i64,_,bI⟩
    ·exact h.elim
  ·exact hm _ h
 ·exact hm _ h
theorem abu[af](hI:Inv w0 L0 N vs T a w L){tt:Ty}{ty:Ty}{x:ty.den}(ht:T.getD t .dead = .same r tt)(hr:T.getD r .dead = .bP 0 n ty x):a.tmps.getD t undef=a.tmps.getD r undef:=by
 have:=hI.aY t;rw[ht]at this;exact this.1
theorem arf[af](hI:Inv w0 L0 N vs T a w L)(hC:bD P C)(ho:o.op = .call { callee:=.builtin .len,args,argTypes:=cJ })(aB:o.dst=some d)(hd:d<N)(hid:(T.getD d .dead).idle=true)
  (h:(Jw C d args.toList cJ.toList m).ai T ups log) (hm:∀log,m.ai T ups log->Step P o w0 L0 N vs (ah T ups) a w):Step P o w0 L0 N vs (ah T ups) a w:=by
 obtain⟨args⟩:=args;obtain⟨cJ⟩:=cJ;dsimp only at h;unfold Jw at h;split at h
 ·rename_i t X;obtain⟨aG,rfl,h⟩:=h;generalize ht:T.getD t .dead=v at h;dsimp only at h;split at h
  ·rename_i r tt;obtain⟨log2,rfl,h⟩:=h;generalize hr:T.getD r .dead=u at h;dsimp only at h;split at h
   ·rename_i n ty x;unfold WA at h;split at h
    ·rename_i k e te x;split at h
     ·rename_i hX;obtain⟨rfl,_⟩:=h;have h1:=abu hI ht hr;have hs:=hI.aY r;rw[hr]at hs;simp only[aD,fM]at hs;have hlen:∃A c,a.eval (.tmp t) = .slice A (x.2:List te.den).length c:=by
       rcases hs with⟨h2,h3⟩|⟨g,cap,cur,h2,_⟩
       ·refine⟨none,0,?_⟩;show a.tmps.getD t undef=_;rw[h1,h2,h3];rfl
       ·exact⟨_,_,h1.trans h2⟩
      obtain⟨A,c,hlen⟩:=hlen;intro K Q hK;refine aL.inv hI hd hid aB (aL.still hI (c:=.int .i64 (x.2.length:Int)) ?_ (λ_=>rfl) aD.mkInt) hK;have hu:=(hC X _ hX).b7;have hc:(Builtin.len_ #[X] o.type #[a.eval (.tmp t)]).run P w = .ok (.int .i64 (x.2.length:Int)) w:=by
       rw[hlen];simp[Builtin.len_,run_underlying hu.1,goInt]
      simp[execOp,ho,resolve,invoke,builtin,hc]
     ·exact h.elim
    ·exact h.elim
   ·exact hm _ h
  ·exact hm _ h
 ·exact hm _ h
theorem are[af](hI:Inv w0 L0 N vs T a w L)(hC:bD P C){y:Operand}(ho:o.op = .indexAddr X (.tmp t) y)(aB:o.dst=some d)(hd:d<N)(hid:(T.getD d .dead).idle=true)
  (h:(Jv C vs X d t y m).ai T ups log) (hm:∀log,m.ai T ups log->Step P o w0 L0 N vs (ah T ups) a w):Step P o w0 L0 N vs (ah T ups) a w:=by
 unfold Jv at h;obtain⟨aG,rfl,h⟩:=h;generalize ht:T.getD t .dead=v at h;dsimp only at h;split at h
 ·rename_i r tt;obtain⟨log2,rfl,h⟩:=h;generalize hr:T.getD r .dead=u at h;dsimp only at h;split at h
  ·rename_i n ty x;obtain⟨z,l1,l2,rfl,hz,h⟩:=M.aq h;split at h
   ·rename_i ll nn ki i;have hy:=gX hI hz;unfold Wz at h;split at h
    ·rename_i k e te x _;split at h
     ·rename_i gx;obtain⟨y0,jB,bf,rfl,_⟩:=h;obtain⟨hi,kg,rfl⟩:=ma jB;have h1:=abu hI ht hr;have hs:=hI.aY r;rw[hr]at hs;simp only[aD,fM]at hs;rcases hs with⟨_,h3⟩|⟨g,cap,cur,h2,h3,_⟩
      ·rw[h3]at hi;exact absurd hi (by simp)
      ·have fh:a.eval (.tmp t)=_:=h1.trans h2;have aP:(execOp a.eval o).run P w = .ok (.value (.pointer (some ⟨g,0+i.toNat*te.sz,none⟩))) w:=by
        simp[execOp,ho,fh,hy,abq hC gx kg hi]
       intro K Q hK;refine aL.inv hI hd hid aB (aL.ptr hI (g:=g) ?_ h3 (λr' aZ=>?_)) hK
       ·rw[aP];simp[node]
       ·have:r=r':=by simpa[V.on,V.root]using aZ
        exact this▸List.contains_iff_mem.1 bf
     ·exact h.elim
    ·exact h.elim
   ·exact h.elim
  ·exact hm _ h
 ·exact hm _ h
theorem arh[af](hI:Inv w0 L0 N vs T a w L)(hC:bD P C){X:TypeId}(ho:o.op = .load X (.tmp t))(aB:o.dst=some d)
  (h:(Jx C N X d t).ai T ups log):Step P o w0 L0 N vs (ah T ups) a w:=by
 unfold Jx at h;obtain⟨aG,rfl,h⟩:=h;generalize ht:T.getD t .dead=v at h;dsimp only at h;split at h
 ·rename_i r sz i tt;obtain⟨log2,rfl,h⟩:=h;generalize hr:T.getD r .dead=u at h;dsimp only at h;split at h
  ·rename_i n ty x;unfold WB at h;split at h
   ·rename_i k e te x;split at h
    ·rename_i hc;obtain⟨hX,oZ,iS,rfl,qf,dw,sZ⟩:=hc;obtain⟨l3,rfl,kh,y,hy,h⟩:=h;obtain⟨Ts,l4,l5,rfl,dS,aC,h⟩:=M.aq h;obtain⟨rfl,_⟩:=h;have bI:Ts=T:=by rw[lT dS (by rw[Nat.zero_add,hI.len])];rfl
     subst bI;simp only[Bool.and_eq_true,decide_eq_true_eq]at kh;obtain⟨hid,hle⟩:=kh;obtain⟨hi,kg,rfl⟩:=ma hy;have ba:=hI.aY t;rw[ht]at ba;obtain⟨g0,hp,wG⟩:=ba;have hs:=hI.aY r;rw[hr]at hs;have ef:=hs;simp only[aD,fM]at hs;rcases hs with⟨_,h3⟩|⟨g,cap,cur,h2,h3,h4,h5,h6,h7,h8⟩
     ·rw[h3]at hi;exact absurd hi (by simp)
     obtain rfl:=hI.inj g0 g r _ wG (by simpa[node]using h3);have hle:x.1<=i:=hle;have al3:=h8 i.toNat hi (Int.le_trans hle (Int.le_of_eq (Int.toNat_of_nonneg kg).symm));have aml:mX w L (SL L none) r n te (x.2[i.toNat]) (node [] 0 [St.idx te.sz i]).1 (node [] 0 [St.idx te.sz i]).2:=by
      refine⟨g0,cur,e,wG,h4,?_,al3⟩;simp only[node];rw[h7,<-Nat.succ_mul];exact Nat.mul_le_mul_right _ (Nat.lt_of_lt_of_le hi h5)
     obtain⟨c,ff,e2,aP,hh,bq,hf,mq⟩:=YH hI hC hX aml wG;have cC:a.eval (.tmp t)=_:=hp;have Kw:(execOp a.eval o).run P w = .ok (.value c) w:=by simp[execOp,ho,cC,Instr.loadAt,Instr.sureAddr,aP]
     have bU:(ah Ts [(r,V.bP 0 n (.pair (.int k) (.slice e te)) (i+1,x.2)),(d,.d none n te (x.2[i.toNat]))]).getD d .dead = .d none n te (x.2[i.toNat]):=by
      show ((Ts.set r _).set d _).getD d .dead=_;rw[aH,if_pos ⟨rfl,by simp[hI.len,qf]⟩]
     have bE:(ah Ts [(r,V.bP 0 n (.pair (.int k) (.slice e te)) (i+1,x.2)),(d,.d none n te (x.2[i.toNat]))]).getD r .dead = .bP 0 n (.pair (.int k) (.slice e te)) (i+1,x.2):=by
      show ((Ts.set r _).set d _).getD r .dead=_;rw[aH,if_neg (λh=>sZ h.1.symm),aH,if_pos ⟨rfl,by rw[hI.len];exact dw⟩]
     have br:∀z,z≠d->z≠r->(ah Ts [(r,V.bP 0 n (.pair (.int k) (.slice e te)) (i+1,x.2)),(d,.d none n te (x.2[i.toNat]))]).getD z .dead=Ts.getD z .dead:=by
      intro z h1 h2;show ((Ts.set r _).set d _).getD z .dead=_;rw[aH,if_neg (λh=>h1 h.1),aH,if_neg (λh=>h2 h.1)]
     have wZ:(a.put (some d) c).tmps.getD d undef=c:=by
      show (a.tmps.setIfInBounds d _).getD d undef=_;rw[ed,if_pos ⟨rfl,by rw[hI.size];exact qf⟩]
     have nT:∀z,z≠d->(a.put (some d) c).tmps.getD z undef=a.tmps.getD z undef:=λz hz=>kJ (by simpa using Ne.symm hz);have X0:∀z,(Ts.getD z .dead).on r=true->(∃t',Ts.getD z .dead = .same r t')\/∃fK i' t',Ts.getD z .dead = .ptr r [.idx fK i'] t':=by
      intro z ag;have hz:=apN aC z;unfold LB at hz;rw[ag,Bool.not_true,Bool.false_or]at hz;generalize Ts.getD z .dead=v at hz ag;cases v with
      | same r' t' =>
       have:r'=r:=by simpa[V.on,V.root]using ag
       exact .inl ⟨t',by rw[this]⟩
      | ptr r' p t' =>
       have:r'=r:=by simpa[V.on,V.root]using ag
       subst this
       match p,hz with
       | [.idx fK i'],_=>exact .inr ⟨fK,i',t',rfl⟩
      | _=>cases hz
     have Kf:∀k' q',L k' = .own r q'->(∀i' rest,i'<te.sz->q'≠[0]++(i.toNat*te.sz+i')::rest)->aU (lJ r [0] (i.toNat*te.sz) te.sz d) w L (λ_=>.free) k' = .own r q':=by
      intro k' q' hk hq;rw[c8 hI (by rw[hk];simp),hk];exact arJ hq
     refine Step.value (L':=aU (lJ r [0] (i.toNat*te.sz) te.sz d) w L (λ_=>.free)) aB Kw ?_;refine Inv.gY (X:=λz=>z=r\/z=d\/(Ts.getD z .dead).on r=true) (nl:=λ_=>.free) hI (arI (.inl rfl) (.inr (.inl rfl)) (Ne.symm sZ)) (Wd.refl hI _) (λ_ _ _ _ _ h=>by cases h) (by simp[Act.put,hI.size]) (by rw[cH,hI.len]) hI.dR ?_ ?_ ?_ ?_ ?_
     ·intro k' z q bW h;by_cases h1:z=r
      ·subst h1;rw[bE];rfl
      ·by_cases h9:z=d
       ·subst h9;rw[bU];simp[V.aM,iS,oZ]
       ·rw[br z h9 h1];unfold aU at h;split at h
        ·obtain⟨s0,q0,e0,f0⟩:=eZ h;rcases ue f0 with⟨_,_,_,_,_,j3,_⟩|⟨_,j3,_⟩|⟨_,_,j3,j4⟩
         ·exact absurd j3 h9
         ·exact absurd j3 h1
         ·subst j3;exact hI.owner k' _ _ e0
        ·cases h
     ·intro z r' bW ag aZ;have bW:=not_or.1 bW;have fk:=not_or.1 bW.2;rcases aZ with rfl|rfl|aZ
      ·exact absurd ag fk.2
      ·exact V.kG hid
      ·rcases X0 r' aZ with⟨_,he⟩|⟨_,_,_,he⟩<;>rw[he]<;>rfl
     ·intro z bW;have bW:=not_or.1 bW;have fk:=not_or.1 bW.2;exact⟨br z fk.1 bW.1,nT z fk.1⟩
     ·intro z r' bW ag;by_cases h1:z=r
      ·subst h1;rw[bE]at ag;simp[V.on,V.root]at ag
      ·by_cases h9:z=d
       ·subst h9;rw[bU]at ag;simp[V.on,V.root]at ag
       ·rw[br z h9 h1]at ag;exact hI.roots z r' ag
     ·intro z bW;by_cases h1:z=r
      ·subst h1;rw[bE,nT _ (Ne.symm sZ)];simp only[aD,fM];refine .inr ⟨g0,cap,cur,h2,Kf _ _ h3 (λi' rest _ h=>by have:=congrArg List.length h;simp at this),h4,h5,h6,h7,λj hj X6=>?_⟩;have X6:i+1<=(j:Int):=X6;refine Own.move (λk' hk=>?_) (λk' dd rest iP hk=>⟨?_,rfl⟩) (h8 j hj (Int.le_trans hle (by omega)))
       ·rcases hk with hk|⟨_,_,hk,_⟩
        ·exact⟨.inl (eD hI hk),rfl⟩
        ·cases hk
       ·refine Kf _ _ hk (λi' fJ tc he=>?_);simp only[List.cons_append,List.nil_append,List.cons.injEq,true_and]at he;have mb:(i.toNat+1)*te.sz<=j*te.sz:=Nat.mul_le_mul_right _ (by omega);rw[Nat.add_mul,Nat.one_mul]at mb;omega
      ·by_cases h9:z=d
       ·subst h9;rw[bU,wZ];refine⟨by simp,_,hf,?_⟩;refine Own.move (λk' hk=>?_) (λk' dd rest iP hk=>⟨?_,rfl⟩) mq
        ·rcases hk with hk|⟨_,_,hk,_⟩
         ·exact⟨.inl (eD hI hk),rfl⟩
         ·cases hk
        ·rw[c8 hI (by rw[hk];simp),hk];simp only[eR,node,Nat.zero_add,List.nil_append];exact arH iP
       ·rw[br z h9 h1,nT z h9];have ag:(Ts.getD z .dead).on r=true:=by
         rcases bW with h|h|h
         ·exact absurd h h1
         ·exact absurd h h9
         ·exact h
        have qq:=hI.aY z;rcases X0 z ag with⟨t',he⟩|⟨fK,i',t',he⟩
        ·rw[he]at qq ⊢;obtain⟨j1,n1,k1,x1,j2⟩:=qq;rw[hr]at j2;cases j2;exact⟨j1.trans (nT r (Ne.symm sZ)).symm,n,k,_,bE⟩
        ·rw[he]at qq ⊢;obtain⟨g2,j1,j2⟩:=qq;exact⟨g2,j1,Kf _ _ j2 (λi' rest _ h=>by have:=congrArg List.length h;simp[node]at this)⟩
    ·exact h.elim
   ·exact h.elim
  ·exact h.elim
 ·exact h.elim
end
def sH:Nat->Ty->Bool
 | m,.pair a b=>(a.depth==0||m.testBit 0)&&sH (m / 2) b
 | m,t=>t.depth==0||m.testBit 0
def n5(m:Nat)(ta:Ty)(x:ta.den):V:=cond (sH m ta) (.box none ta.depth (.agg ta) x) (.bP 1 m (.agg ta) x)
def DE(C:Ctx)(vs:List Nat)(N:Nat)(kids:List Nat)(X:TypeId)(r i off m0:Nat)(ta:Ty)(x0:ta.den)(x:Operand):M (List (Nat×V)):=
 match x with
 | .tmp s=>.get s λv=>match v with
  | .d none k t1 y=>match comp i ta x0 with
   | some (o,⟨t2,_⟩)=>if o=off/\t2=t1/\t1.depth≠0/\t1.depth<=k/\C.ty X=some t1/\vs.contains s=false/\s≠r/\r<N/\m0.testBit i=false/\ta.depth≠0 then
     (iZ i ta x0 (λt' x'=>fo [] t' x' t1 y)).bind λx2=>iI false r s kids (.ret [(r,n5 (m0 ||| 2 ^ i) ta x2),(s,.dead)])
    else .fail
   | none=>.fail
  | _=>.fail
 | _=>.fail
def Lj(C:Ctx)(vs:List Nat)(N:Nat)(kids:List Nat)(X:TypeId)(r:Nat)(p:List St)(u:V)(x:Operand)(m:M (List (Nat×V))):M (List (Nat×V)):=
 match p with
 | [.a7 i off]=>match u with
  | .box none 0 (.agg ta) x0=>DE C vs N kids X r i off 0 ta x0 x
  | .bP 1 m0 (.agg ta) x0=>DE C vs N kids X r i off m0 ta x0 x
  | _=>m
 | _=>m
section
variable{P:Program}{C:Ctx}{w w' w0:World}{S S':Nat->Prop}{L L' L0:Nat->aj}{s N:Nat}{vs:List Nat}{T T':List V}{tm tm':Array Value}{a:Act}
theorem cd.move[af](H1:∀k,L k = .au->L' k = .au/\w'.heap[k]?=w.heap[k]?):{t:Ty}->{m:Nat}->{x:t.den}->{o:Nat}->{cs:List Value} ->
  (∀k d rest,d<t.sz->L k = .own r ((o+d)::rest)->L' k = .own r ((o+d)::rest)/\w'.heap[k]?=w.heap[k]?)->cd w L r m t x o cs->cd w' L' r m t x o cs:=by
 have HS:∀k,SL L none k->SL L' none k/\w'.heap[k]?=w.heap[k]?:=by
  rintro k (hk|⟨_,_,hk,_⟩)
  ·exact⟨.inl (H1 k hk).1,(H1 k hk).2⟩
  ·cases hk
 intro t;induction t with
 | pair a b _ ih =>
  intro m x o cs H2 h;obtain⟨c0,c1,h1,h2,h3⟩:=h;refine⟨c0,c1,h1,Own.move HS (λk d rest hd hk=>H2 k d rest (by simp only[Ty.sz];omega) hk) h2,ih (λk d rest hd hk=>?_) h3⟩;have:=H2 k (a.sz+d) rest (by simp only[Ty.sz];omega) (by rw[hk,Nat.add_assoc])
  rwa [<-Nat.add_assoc]at this
 | _=>intro m x o cs H2 h;simp only[cd]at h ⊢;exact Own.move HS H2 h
theorem cd.of0[af]:{t:Ty}->{x:t.den}->{o:Nat}->{cs:List Value}->Own w L (SL L none) r 0 t x [] o cs->cd w L r 0 t x o cs:=by
 intro t;induction t with
 | pair a b _ ih =>
  intro x o cs h;simp only[Own]at h;obtain⟨c0,c1,h1,h2,h3⟩:=h;exact⟨c0,c1,h1,by simpa using h2,ih h3⟩
 | _=>intro x o cs h;simp only[cd];simpa using h
theorem cd.full[af]:{t:Ty}->{m:Nat}->{x:t.den}->{o:Nat}->{cs:List Value}->{D:Nat}->t.depth<=D->sH m t=true->cd w L r m t x o cs->Own w L (SL L none) r D t x [] o cs:=by
 have one:∀{t:Ty} {m:Nat} {x:t.den} {o:Nat} {cs:List Value} {D:Nat},t.depth<=D->(t.depth==0||m.testBit 0)=true->Own w L (SL L none) r (cond (m.testBit 0) t.depth 0) t x [] o cs->Own w L (SL L none) r D t x [] o cs:=by
  intro t m x o cs D hD hf h;cases hb:m.testBit 0 with
  | true=>rw[hb]at h;exact Own.cap (Nat.le_refl _) hD h
  | false =>
   rw[hb,Bool.or_false]at hf;exact Own.flat (by simpa using hf) h
 intro t;induction t with
 | pair a b _ ih =>
  intro m x o cs D hD hf h;obtain⟨c0,c1,h1,h2,h3⟩:=h;simp only[sH,Bool.and_eq_true]at hf;simp only[Ty.depth]at hD;simp only[Own];exact⟨c0,c1,h1,one (by omega) hf.1 h2,ih (by omega) hf.2 h3⟩
 | _=>intro m x o cs D hD hf h;simp only[cd]at h;exact one hD hf h
theorem apQ(m i:Nat):(m ||| 2 ^ (i+1)).testBit 0=m.testBit 0/\(m ||| 2 ^ (i+1)) / 2=m / 2 ||| 2 ^ i:=by
 refine⟨?_,?_⟩
 ·rw[Nat.testBit_or,Nat.testBit_two_pow];simp
 ·rw[Nat.or_div_two,Nat.pow_succ,Nat.mul_div_cancel _ (by omega)]
theorem aaY(m:Nat):(m ||| 2 ^ 0).testBit 0=true/\(m ||| 2 ^ 0) / 2=m / 2:=by
 refine⟨?_,?_⟩
 ·rw[Nat.testBit_or,Nat.testBit_two_pow];simp
 ·rw[Nat.or_div_two];simp
theorem aaA{t1 t':Ty}{x1:t1.den}{y:t'.den}{z:t1.den}(h:(fo [] t1 x1 t' y).ai T z log):∃e:t'=t1,z=e▸y:=by
 simp only[fo]at h;split at h
 ·rename_i e;exact⟨e,h.1⟩
 ·exact h.elim
theorem cd.mod[af](H1:∀k,L k = .au->L' k = .au/\w'.heap[k]?=w.heap[k]?):{t:Ty}->{i m:Nat}->{x x':t.den}->{o:Nat}->{cs bl:List Value}->{t1:Ty}->{y x1:t1.den}->{o1:Nat}->{log:List Nat} ->
  comp i t x=some (o1,⟨t1,x1⟩)->(iZ i t x (λt' x'=>fo [] t' x' t1 y)).ai T x' log ->
  (∀k d rest,d<t.sz->¬(o1<=d/\d<o1+t1.sz)->L k = .own r ((o+d)::rest)->L' k = .own r ((o+d)::rest)/\w'.heap[k]?=w.heap[k]?) ->
  bl.length=cs.length->(∀j,j<o1\/o1+t1.sz<=j->bl[j]?=cs[j]?)->Own w' L' (SL L' none) r t1.depth t1 y [] (o+o1) ((bl.drop o1).take t1.sz) ->
  cd w L r m t x o cs->cd w' L' r (m ||| 2 ^ i) t x' o bl:=by
 have HS:∀k,SL L none k->SL L' none k/\w'.heap[k]?=w.heap[k]?:=by
  rintro k (hk|⟨_,_,hk,_⟩)
  ·exact⟨.inl (H1 k hk).1,(H1 k hk).2⟩
  ·cases hk
 intro t;induction t with
 | pair a b _ ih =>
  intro i m x x' o cs bl t1 y x1 o1 log hc hm H2 hl fP hy h;have hlen:=cd.len h;obtain⟨c0,c1,rfl,h2,h3⟩:=h;have kl:=Own.len h2;cases i with
  | zero =>
   simp only[comp,Option.some.injEq,Prod.mk.injEq]at hc;obtain⟨rfl,hc⟩:=hc;cases hc;simp only[iZ]at hm;obtain⟨z,l1,l2,rfl,hz,h5,_⟩:=M.aq hm;obtain⟨e,rfl⟩:=aaA hz;subst h5;obtain⟨k1,k2⟩:=aaY m;refine⟨bl.take a.sz,c1,?_,?_,?_⟩
   ·apply List.ext_getElem?;intro j;by_cases hj:j<a.sz
    ·rw[List.getElem?_append_left (by rw[List.length_take];simp only[List.length_append]at hl;omega),List.getElem?_take_of_lt hj]
    ·have hll:(bl.take a.sz).length=a.sz:=by rw[List.length_take];simp only[List.length_append]at hl;omega
     rw[List.getElem?_append_right (by omega),hll,fP j (.inr (by omega)),List.getElem?_append_right (by omega),kl]
   ·rw[k1];simpa using hy
   ·rw[k2];refine cd.move H1 (λk d rest hd hk=>?_) h3;have:=H2 k (a.sz+d) rest (by simp only[Ty.sz];omega) (by omega) (by rw[hk,Nat.add_assoc])
    rwa [<-Nat.add_assoc]at this
  | succ i =>
   simp only[comp,Option.map_eq_some_iff]at hc;obtain⟨⟨o2,t2,x2⟩,hc,he⟩:=hc;simp only[Prod.mk.injEq]at he;obtain⟨rfl,he⟩:=he;cases he;simp only[iZ]at hm;obtain⟨z,l1,l2,rfl,hz,h5,_⟩:=M.aq hm;subst h5;obtain⟨k1,k2⟩:=apQ m i;have X5:bl.length=a.sz+b.sz:=by rw[hl];simpa[Ty.sz]using hlen
   refine⟨c0,bl.drop a.sz,?_,?_,?_⟩
   ·apply List.ext_getElem?;intro j;by_cases hj:j<a.sz
    ·rw[List.getElem?_append_left (by omega),fP j (.inl (by omega)),List.getElem?_append_left (by omega)]
    ·rw[List.getElem?_append_right (by omega),List.getElem?_drop,kl,show a.sz+(j - a.sz)=j by omega]
   ·rw[k1];exact Own.move HS (λk d rest hd hk=>H2 k d rest (by simp only[Ty.sz];omega) (by omega) hk) h2
   ·rw[k2];refine ih hc hz (λk d rest hd hn hk=>?_) ?_ (λj hj=>?_) ?_ h3
    ·have:=H2 k (a.sz+d) rest (by simp only[Ty.sz];omega) (by omega) (by rw[hk,Nat.add_assoc])
     rwa [<-Nat.add_assoc]at this
    ·simp only[List.length_append]at hl;rw[List.length_drop];omega
    ·rw[List.getElem?_drop,fP _ (by omega),List.getElem?_append_right (by omega),kl,show a.sz+j - a.sz=j by omega]
    ·rw[List.drop_drop,<-Nat.add_assoc]at *
     exact hy
 | _ =>
  intro i m x x' o cs bl t1 y x1 o1 log hc hm H2 hl fP hy h;cases i with
  | zero =>
   simp only[comp,Option.some.injEq,Prod.mk.injEq]at hc;obtain⟨rfl,hc⟩:=hc;cases hc;simp only[iZ]at hm;obtain⟨e,rfl⟩:=aaA hm;have hlen:=cd.len h;simp only[cd];rw[(aaY m).1];rw[List.drop_zero,List.take_of_length_le (by omega)]at hy;exact hy
  | succ i=>simp[comp]at hc
theorem aas{m:Nat}{ta:Ty}{x:ta.den}:(n5 m ta x).aM=true/\(n5 m ta x).root=none:=by
 unfold n5;cases sH m ta<;>exact⟨rfl,rfl⟩
theorem abL[af](hI:Inv w0 L0 N vs T a w L)(hC:bD P C){o:Oper}{X:TypeId}{t off m0:Nat}{ta:Ty}{x0:ta.den}(ho:o.op = .store X (.tmp t) x)(aB:o.dst=none)
  (cZ:∃g,a.eval (.tmp t) = .pointer (some ⟨g,off,none⟩)/\L g = .own r [])
  (dM:∃g cur e,a.tmps.getD r undef = .pointer (some ⟨g,0,none⟩)/\L g = .own r []/\w.heap[g]?=some (.cells cur e (0,0))/\cur.size=ta.sz/\cd w L r m0 ta x0 0 cur.toList)
  (bC:(T.getD r .dead).dG=false) (h:(DE C vs N kids X r i off m0 ta x0 x).ai T ups log):Step P o w0 L0 N vs (ah T ups) a w:=by
 unfold DE at h;split at h
 ·rename_i s;obtain⟨aG,rfl,h⟩:=h;generalize hv:T.getD s .dead=v at h;dsimp only at h;split at h
  ·rename_i k t1 y;split at h
   ·rename_i o1 t2 x1 XL;split at h
    ·rename_i hc;obtain⟨rfl,rfl,oZ,XQ,hX,bf,bu,dw,XF,kr⟩:=hc;obtain⟨x2,l1,l2,rfl,wR,h⟩:=M.aq h;obtain⟨cQ,log2,h⟩:=jV h;obtain⟨rfl,_⟩:=h;have Yz:s∉vs:=λhm=>by rw[List.contains_iff_mem.2 hm]at bf;cases bf
     obtain⟨g,hp,hg⟩:=cZ;obtain⟨g',cur,e,c1,c2,c3,c4,c5⟩:=dM;obtain rfl:=hI.inj g g' r _ hg c2;have iU:=hI.aY s;rw[hv]at iU;obtain⟨_,cs,hf,bQ⟩:=iU;have ee:=Own.one bQ;have hlen:=Own.len bQ;obtain⟨qd,_⟩:=cd.Ws c5 XL;have bq:o1+t2.sz<=cur.size:=by rw[c4];exact qd
     have aP:(execOp a.eval o).run P w = .ok .skip (w.setRow g (putCells cur o1 cs)):=by
      have wC:Form t2 cs (a.eval (.tmp s)):=hf;simp[execOp,ho,hp,tT (hC X _ hX) c3 wC ee hlen bq]
     have b9:s<N:=apr hI (by rw[hv];simp);have nS:∀z,z≠s->(T.getD z .dead).on r=true->∃p' t',T.getD z .dead = .ptr r p' t'/\shallow p'=true:=by
      intro z iz ag;have hb:(T.getD z .dead).eI r=false:=cQ z iz;unfold V.eI at hb;rw[ag,Bool.true_and]at hb;generalize T.getD z .dead=v at hb ag;cases v with
      | ptr r2 p2 t2 =>
       have:r2=r:=by simpa[V.on,V.root]using ag
       subst this;exact⟨p2,t2,rfl,by simpa using hb⟩
      | _=>simp at hb
     have bI:(ah T [(r,n5 (m0 ||| 2 ^ i) ta x2),(s,.dead)]).getD s .dead = .dead:=by
      show ((T.set r _).set s _).getD s .dead=_;rw[aH,if_pos ⟨rfl,by simp[hI.len,b9]⟩]
     have bE:(ah T [(r,n5 (m0 ||| 2 ^ i) ta x2),(s,.dead)]).getD r .dead=n5 (m0 ||| 2 ^ i) ta x2:=by
      show ((T.set r _).set s _).getD r .dead=_;rw[aH,if_neg (λh=>bu h.1.symm),aH,if_pos ⟨rfl,by rw[hI.len];exact dw⟩]
     have br:∀z,z≠r->z≠s->(ah T [(r,n5 (m0 ||| 2 ^ i) ta x2),(s,.dead)]).getD z .dead=T.getD z .dead:=by
      intro z h1 h2;show ((T.set r _).set s _).getD z .dead=_;rw[aH,if_neg (λh=>h2 h.1),aH,if_neg (λh=>h1 h.1)]
     have c7:some s≠some r:=by simpa using bu
     have lp:∀k,k≠g->(w.setRow g (putCells cur o1 cs)).heap[k]?=w.heap[k]?:=λk hk=>setRow_other w g k _ hk;have kf:fL (dQ r [] o1 t2.sz t2.depth (some s)) (λz=>z=r\/z=s\/(T.getD z .dead).on r=true):=abH c7 (.inl rfl) (λs' h=>by cases h;exact .inr (.inl rfl));have Kg:∀kk z,L kk = .own r z->¬kV [] o1 t2.sz z->aU (dQ r [] o1 t2.sz t2.depth (some s)) w L (λ_=>.free) kk = .own r z:=by
      intro kk z hk hu;rw[c8 hI (by rw[hk];simp),hk];simp only[eR,dQ];rw[if_pos trivial,if_neg];intro h;simp only[Bool.and_eq_true]at h;exact hu (ra.1 h.2)
     have gr:∀{q},kV [] o1 t2.sz q->q≠[]:=by
      rintro q ⟨d,rest,_,rfl⟩ h;simp at h
     have gS:aU (dQ r [] o1 t2.sz t2.depth (some s)) w L (λ_=>.free) g = .own r []:=Kg g [] hg (λh=>gr h rfl);intro K Q hK;unfold Oper.wp;rw[aP,Oper.upon_skip,aB];refine hK a _ (aU (dQ r [] o1 t2.sz t2.depth (some s)) w L (λ_=>.free)) ?_;refine Inv.gY (X:=λz=>z=r\/z=s\/(T.getD z .dead).on r=true) hI kf ?_ (λ_ _ _ _ _ h=>by cases h) hI.size (by rw[cH,hI.len]) hI.dR ?_ ?_ ?_ ?_ ?_
     ·refine⟨rfl,rfl,rfl,by simp[World.setRow],Nat.le_refl _,λkk hk hx=>lp kk ?_,λ_ _=>rfl,λ_ _ _ _ h=>by cases h⟩
      rintro rfl
      exact hx r _ hg (.inl rfl)
     ·intro kk z q sQ h;by_cases h1:z=r
      ·subst h1;rw[bE];exact aas.1
      ·unfold aU at h;split at h
       ·obtain⟨s0,q0,e0,f0⟩:=eZ h;rcases qZ c7 f0 with⟨_,rfl,_⟩|⟨_,rfl,_⟩|⟨h2,h3,rfl,rfl⟩
        ·exact absurd rfl h1
        ·exact absurd rfl h1
        ·have h3:z≠s:=λe=>h3 (by rw[e]);rw[br z h1 h3];exact hI.owner kk z q e0
       ·cases h
     ·intro z r' bW ag aZ;have bW:=not_or.1 bW;have fk:=not_or.1 bW.2;rcases aZ with rfl|rfl|aZ
      ·exact absurd ag fk.2
      ·exact absurd (hI.roots z r' ag) Yz
      ·by_cases h2:r'=s
       ·subst h2;exact absurd (hI.roots z r' ag) Yz
       ·obtain⟨p',t',he,_⟩:=nS r' h2 aZ;rw[he];rfl
     ·intro z bW;have bW:=not_or.1 bW;have fk:=not_or.1 bW.2;exact⟨br z bW.1 fk.1,rfl⟩
     ·intro z r' bW ag;by_cases h1:z=r
      ·subst h1;rw[bE]at ag;simp[V.on,aas.2]at ag
      ·by_cases h2:z=s
       ·subst h2;rw[bI]at ag;simp[V.on,V.root]at ag
       ·rw[br z h1 h2]at ag;exact hI.roots z r' ag
     ·intro z bW;by_cases h1:z=r
      ·subst h1;rw[bE];have mn:cd (w.setRow g (putCells cur o1 cs)) (aU (dQ z [] o1 t2.sz t2.depth (some s)) w L (λ_=>.free)) z (m0 ||| 2 ^ i) ta x2 0 (putCells cur o1 cs).toList:=by
        refine cd.mod (λkk hk=>⟨eD hI hk,lp kk (by rintro rfl;rw[hg]at hk;cases hk)⟩) XL wR (λkk d rest hd hn hk=>?_) ?_ (λj hj=>?_) ?_ c5
        ·refine⟨Kg kk _ hk (λhu=>?_),lp kk (by rintro rfl;rw[hg]at hk;injection hk with _ hk;cases hk)⟩;obtain⟨d',fJ,oY,he⟩:=hu;simp only[List.nil_append,List.cons.injEq]at he;omega
        ·have:=DX (cur:=cur) (o:=o1) (cs:=cs) (by omega);simpa using this
        ·have:=DW (cur:=cur) (o:=o1) (cs:=cs) (by omega) j (by omega);simpa using this
        ·have qc:=DV (cur:=cur) (o:=o1) (cs:=cs) (by omega);rw[hlen]at qc;rw[qc];refine Own.fp XQ (λkk hk=>?_) (λkk d rest hd hk=>?_) bQ
         ·rcases hk with hk|⟨_,_,hk,_⟩
          ·exact⟨.inl (eD hI hk),lp kk (by rintro rfl;rw[hg]at hk;cases hk)⟩
          ·cases hk
         ·have hh:aU (dQ z [] o1 t2.sz t2.depth (some s)) w L (λ_=>.free) kk=if rest.length<t2.depth then .own z ((o1+d)::rest)else .au:=by
           rw[c8 hI (by rw[hk];simp),hk];simp only[eR,dQ,List.nil_append,Nat.zero_add];rw[if_neg bu,if_pos trivial,if_pos hd]
          refine⟨lp kk (by rintro rfl;rw[hg]at hk;injection hk with hk _;exact bu hk.symm),λhl=>?_,λhl=>.inl ?_⟩
          ·rw[hh,if_pos hl];simp
          ·show aU _ _ _ _ kk=_;rw[hh,if_neg (by omega)]
       have XT:=setRow_heap w g cur (putCells cur o1 cs) e (0,0) c3;have Yw:=DX (cur:=cur) (o:=o1) (cs:=cs) (by omega);unfold n5;cases hfu:sH (m0 ||| 2 ^ i) ta with
       | true =>
        refine⟨by simp,g,putCells cur o1 cs,e,c1,gS,XT,by rw[Yw];exact c4,?_⟩;simp only[Own];exact cd.full (Nat.le_refl _) hfu mn
       | false=>exact⟨g,putCells cur o1 cs,e,c1,gS,XT,by rw[Yw];exact c4,mn⟩
      ·by_cases h2:z=s
       ·subst h2;rw[bI];trivial
       ·have ag:(T.getD z .dead).on r=true:=by
         rcases bW with h|h|h
         ·exact absurd h h1
         ·exact absurd h h2
         ·exact h
        rw[br z h1 h2];obtain⟨p',t',he,eC⟩:=nS z h2 ag;have qq:=hI.aY z;rw[he]at qq ⊢;obtain⟨g2,j1,j2⟩:=qq;refine⟨g2,j1,?_⟩;rw[qV eC]at j2 ⊢;exact Kg g2 [] j2 (λh=>gr h rfl)
    ·exact h.elim
   ·exact h.elim
  ·exact h.elim
 ·exact h.elim
theorem arl[af](hI:Inv w0 L0 N vs T a w L)(hC:bD P C){t:Nat}(ho:o.op = .store X (.tmp t) x)(aB:o.dst=none)
  (ht:addrOf t (T.getD t .dead)=some (r,p)) (cZ:∀r p,addrOf t (T.getD t .dead)=some (r,p)->∃g,a.eval (.tmp t) = .pointer (some ⟨g,(node [] 0 p).2,none⟩)/\L g = .own r (node [] 0 p).1)
  (hr:T.getD r .dead=u) (h:(Lj C vs N kids X r p u x m).ai T ups log) (hm:∀log,m.ai T ups log->Step P o w0 L0 N vs (ah T ups) a w):Step P o w0 L0 N vs (ah T ups) a w:=by
 unfold Lj at h;split at h
 ·rename_i i off;have J8:=cZ r _ ht;simp only[node,Nat.zero_add]at J8;have bd:=hI.aY r;rw[hr]at bd;split at h
  ·rename_i ta x0;obtain⟨_,g,cur,e,h1,h2,h3,h4,h5⟩:=bd;simp only[Own]at h5;exact abL (ta:=ta) (x0:=x0) hI hC ho aB J8 ⟨g,cur,e,h1,h2,h3,h4,cd.of0 (t:=ta) h5⟩ (by rw[hr];rfl) h
  ·rename_i m0 ta x0;exact abL hI hC ho aB J8 bd (by rw[hr];rfl) h
  ·exact hm _ h
 ·exact hm _ h
end
def xC(r:Nat)(v:V):Bool := !v.eI r||(match v with
 | .ptr _ _ _=>true
 | .view _ [] _=>true
 | _=>false)
def K6{α:Type}(r:Nat):List Nat->M α->M α
 | [],m=>m
 | k::l,m=>.get k λv=>.bn (xC r v) (K6 r l m)
def Mo(C:Ctx)(N:Nat)(kids:List Nat)(X:TypeId)(r:Nat)(p:List St)(u:V)(x:Operand)(m:M (List (Nat×V))):M (List (Nat×V)):=
 (dI p u).bind λz =>
  if z.2.t.depth=0/\u.dG=true/\C.ty X=some z.2.t/\(u.root != some r)=true/\r<N/\r<100000 then
   (cK C X x).bind λv=>match v with
   | .d none _ t' y=>if h:t'=z.2.t then (gf p u z.2.t (h▸y)).bind λu'=>K6 r kids (.ask (vS r (jD false (r::kids))) (.ret [(r,u')]))else .fail
   | _=>.fail
  else m
section
variable{P:Program}{C:Ctx}{w w' w0:World}{S S':Nat->Prop}{L L' L0:Nat->aj}{s N:Nat}{vs:List Nat}{T T':List V}{tm tm':Array Value}{a:Act}
theorem ZZ{α:Type}{m:M α}{x:α}:{l:List Nat}->{log:List Nat}->(K6 r l m).ai T x log->(∀k∈l,xC r (T.getD k .dead)=true)/\∃aG,m.ai T x aG
 | [],log,h=>⟨by simp,log,h⟩
 | k::l,log,h=>by
  obtain⟨aG,rfl,hc,h⟩:=h;obtain⟨h1,h2⟩:=ZZ (l:=l) h;refine⟨λk' aI=>?_,h2⟩;rcases List.mem_cons.1 aI with rfl|aI
  ·exact hc
  ·exact h1 k' aI
theorem arq[af](hI:Inv w0 L0 N vs T a w L)(hC:bD P C){m:M (List (Nat×V))}(ho:o.op = .store X (.tmp t) x)(aB:o.dst=none)
  (ht:addrOf t (T.getD t .dead)=some (r,p)) (cZ:∀r p,addrOf t (T.getD t .dead)=some (r,p)->∃g,a.eval (.tmp t) = .pointer (some ⟨g,(node [] 0 p).2,none⟩)/\L g = .own r (node [] 0 p).1)
  (hr:T.getD r .dead=u) (h:(Mo C N kids X r p u x m).ai T ups log) (hm:∀log,m.ai T ups log->Step P o w0 L0 N vs (ah T ups) a w):Step P o w0 L0 N vs (ah T ups) a w:=by
 obtain⟨⟨l,n',t',x'⟩,l1,l2,rfl,hz,h⟩:=M.aq h;dsimp only at h;split at h
 ·rename_i hc;obtain⟨hd,nW,hX,mC,dw,Ks⟩:=hc;clear hm;obtain⟨v,l3,l4,rfl,hv,h⟩:=M.aq h;split at h
  ·rename_i k tv y;split at h
   ·rename_i qs;subst qs;obtain⟨u',l5,l6,rfl,wR,h⟩:=M.aq h;obtain⟨Ke,log2,h⟩:=ZZ h;obtain⟨⟨hq,_⟩,fQ,rfl,h⟩:=h;obtain⟨rfl,_⟩:=h;have aC:∀z,z≠r->xC r (T.getD z .dead)=true:=by
     intro z hz;by_cases hm:z∈kids
     ·exact Ke z hm
     ·have:=I3 Ks hq z (xq (by simp[hz,hm]));rw[xr]at this;have this:(T.getD z .dead).eI r=false:=this;unfold xC;rw[this];rfl
    obtain⟨g,qg,hg⟩:=cZ r p ht;have bd:=hI.aY r;rw[hr]at bd;obtain⟨⟨g',cur,e,k1,k2,k3,k4⟩,_,_,ix,mh⟩:=lC hz bd;obtain rfl:=hI.inj g g' r _ hg k1;have ek:∃cs s0,Form tv cs (a.eval x)/\Own w L (SL L none) s0 k tv y [] 0 cs:=by
     rcases kH hI hv with⟨s,rfl,_,hs⟩|⟨_,hs⟩
     ·obtain⟨_,cs,hf,bQ⟩:=hs;exact⟨cs,s,hf,bQ⟩
     ·obtain⟨_,cs,hf,bQ⟩:=hs L T a.tmps 0 w;exact⟨cs,0,hf,bQ⟩
    obtain⟨cs,s0,hf,bQ⟩:=ek;have ee:=Own.one bQ;have hlen:=Own.len bQ;have aP:(execOp a.eval o).run P w = .ok .skip (w.setRow g (putCells cur (node [] 0 p).2 cs)):=by
     simp[execOp,ho,qg,tT (hC X _ hX) k2 hf ee hlen k3]
    have bE:(ah T [(r,u')]).getD r .dead=u':=by
     show (T.set r u').getD r .dead=u';rw[aH,if_pos ⟨rfl,by rw[hI.len];exact dw⟩]
    have br:∀z,z≠r->(ah T [(r,u')]).getD z .dead=T.getD z .dead:=by
     intro z hz;show (T.set r u').getD z .dead=_;rw[aH,if_neg (λh=>hz h.1)]
    intro K Q hK;unfold Oper.wp;rw[aP,Oper.upon_skip,aB];refine hK a _ _ (Inv.store (m:=n') (src:=none) hI hr hz wR (by simpa using mC) hg k2 k3 hlen (by simp) (by rw[cH,hI.len]) bE ?_ (λz hz _ _=>br z hz) (Own.flat hd bQ));intro z hz _ ag;refine .inr ⟨br z hz,?_⟩;have hk:=aC z hz;unfold xC V.eI at hk;rw[ag,Bool.true_and]at hk;generalize T.getD z .dead=vz at hk ag;cases vz with
    | ptr r2 p2 t2=>exact .inl rfl
    | view r2 p2 t2 =>
     cases p2 with
     | nil=>exact .inl (by simpa[ca]using nW)
     | cons _ _=>simp at hk
    | _=>simp at hk
   ·exact h.elim
  ·exact h.elim
 ·exact hm _ h
end
def qy(N:Nat):List Nat->M (List (Nat×V))->M (List (Nat×V))
 | [],m=>m
 | s::l,m=>.get s λv=>match v with
  | .d none n t x =>
   if n≠0/\t.depth≠0/\s<N then
    iI true s s [] (((qy N l m).eY [(s,.d none 0 t x)]).bind λups=>.ret ((s,.d none 0 t x)::ups))
   else qy N l m
  | _=>qy N l m
def tE(lev N:Nat):List Nat->M (List (Nat×V))->M (List (Nat×V))
 | [],m=>m
 | s::l,m=>.get s λv=>cond (v.qA&&v.root.isNone&&decide (lev<v.lvl)&&decide (s<N))
   (iI true s s [] (((tE lev N l m).eY [(s,fO lev v)]).bind λups=>.ret ((s,fO lev v)::ups)))
   (tE lev N l m)
section
variable{P:Program}{C:Ctx}{w w' w0:World}{L L' L0:Nat->aj}{s N:Nat}{vs:List Nat}{a:Act}
theorem xf[af]:{l:List Nat}->{T:List V}->{L:Nat->aj}->{ups:List (Nat×V)}->{log:List Nat}->Inv w0 L0 N vs T a w L->(qy N l m).ai T ups log ->
  ∃T1 L1 bH log2,Inv w0 L0 N vs T1 a w L1/\m.ai T1 bH log2/\ah T ups=ah T1 bH
 | [],T,L,ups,log,hI,h=>⟨T,L,ups,log,hI,h,rfl⟩
 | s::l,T,L,ups,log,hI,h=>by
  simp only[qy]at h;obtain⟨aG,rfl,h⟩:=h;dsimp only at h;split at h
  ·rename_i n t x hv;split at h
   ·rename_i hc;obtain⟨hn,hd,b9⟩:=hc;obtain⟨cQ,log2,h⟩:=jV h;obtain⟨bH,l3,l4,rfl,h1,h2⟩:=M.aq h;obtain⟨rfl,_⟩:=h2;have bd:s<T.length:=by rw[hI.len];exact b9
    have nP:∀z,(T.set s (.d none 0 t x)).getD z .dead=(eO [(s,.d none 0 t x)] z).getD (T.getD z .dead):=λz=>by
     simp only[eO];rw[aH];by_cases h1:z=s
     ·subst h1;simp[bd]
     ·have e1:(s==z)=false:=by simpa using Ne.symm h1
      rw[e1];simp[h1]
    obtain⟨fQ,h1⟩:=pk (T':=T.set s (.d none 0 t x)) (by simp) (λz hz=>by
     simp only[List.map_cons,List.map_nil,List.mem_cons,List.not_mem_nil,or_false]at hz;rw[hz];exact bd) nP _ h1
    obtain⟨L1,bw⟩:=Inv.freeze (T':=T.set s (.d none 0 t x)) hI (X:=λz=>z==s) (lev:=λ_=>0) (λz r hr=>by
      have hr:r=s:=by simpa using hr
      subst hr;by_cases hz:z=r
      ·subst hz;rw[hv];rfl
      ·simpa using cQ z hz) (λz hz=>by
      have hz:z=s:=by simpa using hz
      subst hz;rw[hv];rfl) (λz _=>Nat.zero_le _) (by simp[hI.len]) (λz=>by
      rw[aH];by_cases hz:z=s
      ·subst hz;rw[if_pos ⟨rfl,bd⟩,hv];simp[fO]
      ·have:(z==s)=false:=by simpa using hz
       rw[if_neg (λh=>hz h.1),this];rfl)
    obtain⟨T1,L2,jJ,jC,k1,k2,k3⟩:=xf bw h1;exact⟨T1,L2,jJ,jC,k1,k2,k3⟩
   ·exact xf hI h
  ·exact xf hI h
theorem Dx[af]{lev:Nat}:{l:List Nat}->{T:List V}->{L:Nat->aj}->{ups:List (Nat×V)}->{log:List Nat}->Inv w0 L0 N vs T a w L->(tE lev N l m).ai T ups log ->
  ∃T1 L1 bH log2,Inv w0 L0 N vs T1 a w L1/\m.ai T1 bH log2/\ah T ups=ah T1 bH
 | [],T,L,ups,log,hI,h=>⟨T,L,ups,log,hI,h,rfl⟩
 | s::l,T,L,ups,log,hI,h=>by
  simp only[tE]at h;obtain⟨aG,rfl,h⟩:=h;dsimp only at h;cases hc:((T.getD s .dead).qA&&(T.getD s .dead).root.isNone&&decide (lev<(T.getD s .dead).lvl)&&decide (s<N))with
  | false =>
   rw[hc,cond_false]at h;exact Dx hI h
  | true =>
   rw[hc,cond_true]at h;simp only[Bool.and_eq_true,decide_eq_true_eq]at hc;obtain⟨⟨⟨hn,w5⟩,hd⟩,b9⟩:=hc;obtain⟨cQ,log2,h⟩:=jV h;obtain⟨bH,l3,l4,rfl,h1,h2⟩:=M.aq h;obtain⟨rfl,_⟩:=h2;have bd:s<T.length:=by rw[hI.len];exact b9
   have nP:∀z,(T.set s (fO lev (T.getD s .dead))).getD z .dead=(eO [(s,fO lev (T.getD s .dead))] z).getD (T.getD z .dead):=λz=>by
    simp only[eO];rw[aH];by_cases h1:z=s
    ·subst h1;simp[bd]
    ·have e1:(s==z)=false:=by simpa using Ne.symm h1
     rw[e1];simp[h1]
   obtain⟨fQ,h1⟩:=pk (T':=T.set s (fO lev (T.getD s .dead))) (by simp) (λz hz=>by
    simp only[List.map_cons,List.map_nil,List.mem_cons,List.not_mem_nil,or_false]at hz;rw[hz];exact bd) nP _ h1
   have mC:(T.getD s .dead).on s=false:=by
    unfold V.on;rw[Option.isNone_iff_eq_none.1 w5];rfl
   obtain⟨L1,bw⟩:=Inv.freeze (T':=T.set s (fO lev (T.getD s .dead))) hI (X:=λz=>z==s) (lev:=λ_=>lev) (λz r hr=>by
     have hr:r=s:=by simpa using hr
     subst hr;by_cases hz:z=r
     ·subst hz;exact mC
     ·simpa using cQ z hz) (λz hz=>by
     have hz:z=s:=by simpa using hz
     subst hz;exact hn) (λz hz=>by
     have hz:z=s:=by simpa using hz
     subst hz;exact Nat.le_of_lt hd) (by simp[hI.len]) (λz=>by
     rw[aH];by_cases hz:z=s
     ·subst hz;rw[if_pos ⟨rfl,bd⟩];simp
     ·have:(z==s)=false:=by simpa using hz
      rw[if_neg (λh=>hz h.1),this];rfl)
   obtain⟨T1,L2,jJ,jC,k1,k2,k3⟩:=Dx bw h1;exact⟨T1,L2,jJ,jC,k1,k2,k3⟩
end
def sA(s:Nat):V->M (Nat×D)
 | .box none k t' y=>.ret (s,⟨k,t',y⟩)
 | .ptr r [] _=>.get r λu=>match u with
  | .box none k t' y=>.ret (r,⟨k,t',y⟩)
  | _=>.fail
 | _=>.fail
def LP(t:Ty)(n:Nat)(x:Operand):M (t.den×Nat):=
 match x with
 | .tmp s=>.get s λv=>(sA s v).bind λz=>if h:z.2.t=t then (if z.2.n=n then .ret (h▸z.2.x,z.1)else .fail)else .fail
 | _=>.fail
def sv(C:Ctx):Nat->(ps:List (Ty×Mode))->List Operand->M (lQ ps)
 | _,[],[]=>.ret ⟨(),[],[]⟩
 | i,(t,.ro)::ps,x::xs=>(pQ C t x).bind λy=>(sv C (i+1) ps xs).bind λr=>.ret ⟨(y.1,r.x),y.2++r.ls,r.mu⟩
 | i,(t,.ptr n)::ps,x::xs=>(LP t n x).bind λy=>(sv C (i+1) ps xs).bind λr=>.ret ⟨(y.1,r.x),r.ls,(y.2,i)::r.mu⟩
 | _,_,_=>.fail
def xw:(ps:List (Ty×Mode))->(cI ps).den->Option V
 | [],_=>none
 | (t,.ptr n)::_,x=>some (.box none n t x.1)
 | (_,.mut _)::_,_=>none
 | (_,.bV _)::_,_=>none
 | (_,.ro)::ps,x=>xw ps x
def p8:List (Ty×Mode)->Bool
 | []=>true
 | (t,.ptr n)::ps=>decide (t.depth<=n)&&p8 ps
 | _::ps=>p8 ps
def cA(r d:Nat):Nat->V->Bool:=λz v=>v.on r&&z != r&&z != d
def Jd(C:Ctx)(bj:cX)(vs:List Nat)(N d:Nat)(f:FuncId)(args:List Operand):M (List (Nat×V)):=
 match bj f with
 | none=>.fail
 | some F=>(sv C 0 F.ps args).bind λA=>match A.mu with
  | [(r0,_)]=>cond (A.ls.contains r0 || !decide (r0<N) || !(A.ls.isEmpty||p8 F.ps)) .fail (.cM (.pair (cV F.rs) (cI F.ps)) (F.an A.x) λr=>match mO vs A.ls F.rs r.1,xw F.ps r.2 with
   | some v,some u'=>(allM 0 N).bind λTs=>.bn (ny (cA r0 d) 0 Ts) (.ret (((r0,u')::ch (cA r0 d) 0 Ts)++[(d,v)]))
   | _,_=>.fail)
  | _=>.fail
def IT:List (Ty×Mode)->Bool
 | []=>false
 | (_,.ptr _)::_=>true
 | _::ps=>IT ps
def Jf(C:Ctx)(bj:cX)(vs:List Nat)(N d:Nat)(f:FuncId)(args:List Operand):M (List (Nat×V)):=
 match bj f with
 | none=>.fail
 | some F=>cond (IT F.ps) (Jd C bj vs N d f args) (Je C bj vs N d f args)
section
variable{P:Program}{C:Ctx}{w w' w0:World}{S S':Nat->Prop}{L L' L0:Nat->aj}{s N:Nat}{vs:List Nat}{T T':List V}{tm tm':Array Value}{a:Act}
theorem V7[af](hI:Inv w0 L0 N vs T a w L){s:Nat}{z:D}(h:(sA s (T.getD s .dead)).ai T (r,z) log):
  T.getD r .dead = .box none z.n z.t z.x/\a.tmps.getD s undef=a.tmps.getD r undef:=by
 have hs:=hI.aY s;generalize hv:T.getD s .dead=v at h hs;unfold sA at h;split at h
 ·obtain⟨h,_⟩:=h;injection h with h1 h2;subst h1 h2;exact⟨hv,rfl⟩
 ·rename_i r' t';obtain⟨aG,rfl,h⟩:=h;have hr:=hI.aY r';generalize hu:T.getD r' .dead=u at h hr;dsimp only at h;split at h
  ·obtain⟨h,_⟩:=h;injection h with h1 h2;subst h1 h2;obtain⟨g,e1,e2⟩:=hs;obtain⟨_,g',cur,e,e3,e4,_⟩:=hr;obtain rfl:=hI.inj g g' _ _ e2 e4;exact⟨hu,by rw[e1,e3];rfl⟩
  ·exact h.elim
 ·exact h.elim
theorem ap0[af](hI:Inv w0 L0 N vs T a w L){t:Ty}{y:t.den}(h:(LP t n x).ai T (y,r) log):
  T.getD r .dead = .box none n t y/\a.eval x=a.tmps.getD r undef:=by
 unfold LP at h;split at h
 ·rename_i s;obtain⟨aG,rfl,h⟩:=h;have hb:=M.aq (m:=sA s (T.getD s .dead)) h;clear h;obtain⟨⟨r',z⟩,l1,l2,rfl,h1,h⟩:=hb;obtain⟨k1,k2⟩:=V7 hI h1;obtain⟨n',t',y'⟩:=z;dsimp only at h k1;split at h
  ·rename_i ht;subst ht;split at h
   ·rename_i hk;subst hk;obtain⟨h,_⟩:=h;injection h with h1 h2;subst h1 h2;exact⟨k1,k2⟩
   ·exact h.elim
  ·exact h.elim
 ·exact h.elim
theorem I1[af](hI:Inv w0 L0 N vs T a w L):{ps:List (Ty×Mode)}->{i:Nat}->{xs:List Operand}->{A:lQ ps}->{log:List Nat}->(sv C i ps xs).ai T A log ->
  (∀r∈A.ls,(T.getD r .dead).deep=true)/\(∀r j,(r,j)∈A.mu->i<=j/\∃t n y,ps[j - i]?=some (t,.ptr n)/\T.getD r .dead = .box none n t y/\(xs.map a.eval)[j - i]?=some (a.tmps.getD r undef)) /\
  (∀j t m,ps[j]?=some (t,m)->m.back=true->∃r,(r,i+j)∈A.mu) /\
  ∀L1:Nat->aj,(∀k,L k = .au->L1 k = .au)->(∀k r q,r∈A.ls->L k = .own r q->L1 k = .au)->(∀k r j q,(r,j)∈A.mu->L k = .own r q->L1 k = .own j q)->dX w L1 i ps A.x (xs.map a.eval)
 | [],i,[],A,log,h=>by
  obtain⟨rfl,_⟩:=h;exact⟨by simp,by simp,by simp,λ_ _ _ _=>rfl⟩
 | (t,.ro)::ps,i,x::xs,A,log,h=>by
  simp only[sv]at h;obtain⟨⟨y,ls⟩,l1,l2,rfl,h1,h⟩:=M.aq h;obtain⟨A',l3,l4,rfl,h2,h⟩:=M.aq h;obtain⟨rfl,_⟩:=h;obtain⟨cells,k1,k2,k3⟩:=vN hI h1;obtain⟨j1,j2,j4,j3⟩:=I1 hI h2;refine⟨λr hr=>?_,λr j hm=>?_,λj t' n hj bo=>?_,λL1 H1 H2 H3=>?_⟩
  ·rcases List.mem_append.1 hr with hr|hr
   ·exact k2 r hr
   ·exact j1 r hr
  ·obtain⟨hi,t',n',y',e1,e2,e3⟩:=j2 r j hm;have:j - i=(j - (i+1))+1:=by omega
   exact⟨by omega,t',n',y',by rw[this];simpa using e1,e2,by rw[this];simpa using e3⟩
  ·cases j with
   | zero =>
    simp only[List.getElem?_cons_zero,Option.some.injEq,Prod.mk.injEq]at hj;rw[<-hj.2]at bo;cases bo
   | succ j =>
    obtain⟨r,hr⟩:=j4 j t' n (by simpa using hj) bo;exact⟨r,by rw[show i+(j+1)=i+1+j by omega];exact hr⟩
  ·exact⟨a.eval x,_,cells,rfl,k1,Own.dP (k3 _ H1 (λk r q hr hk=>H2 k r q (List.mem_append_left _ hr) hk)),j3 L1 H1 (λk r q hr hk=>H2 k r q (List.mem_append_right _ hr) hk) H3⟩
 | (t,.ptr n)::ps,i,x::xs,A,log,h=>by
  simp only[sv]at h;obtain⟨⟨y,r0⟩,l1,l2,rfl,h1,h⟩:=M.aq h;obtain⟨A',l3,l4,rfl,h2,h⟩:=M.aq h;obtain⟨rfl,_⟩:=h;obtain⟨k1,k4⟩:=ap0 hI h1;obtain⟨j1,j2,j4,j3⟩:=I1 hI h2;refine⟨j1,λr j hm=>?_,λj t' n' hj bo=>?_,λL1 H1 H2 H3=>?_⟩
  ·rcases List.mem_cons.1 hm with hm|hm
   ·injection hm with e1 e2;subst e1 e2;exact⟨Nat.le_refl _,t,n,y,by simp,k1,by simp[k4]⟩
   ·obtain⟨hi,t',n',y',e1,e2,e3⟩:=j2 r j hm;have:j - i=(j - (i+1))+1:=by omega
    exact⟨by omega,t',n',y',by rw[this];simpa using e1,e2,by rw[this];simpa using e3⟩
  ·cases j with
   | zero=>exact⟨r0,by simp⟩
   | succ j =>
    obtain⟨r,hr⟩:=j4 j t' n' (by simpa using hj) bo;exact⟨r,by rw[show i+(j+1)=i+1+j by omega];exact List.mem_cons_of_mem _ hr⟩
  ·have hs:=hI.aY r0;rw[k1]at hs;obtain⟨_,g,cur,e,hf,hL,hg,hz,ho⟩:=hs;refine⟨a.eval x,_,rfl,⟨g,cur,e,by rw[k4];exact hf,H3 g r0 i _ (by simp) hL,hg,hz,?_⟩,j3 L1 H1 H2 (λk r j q hm hk=>H3 k r j q (List.mem_cons_of_mem _ hm) hk)⟩;refine Own.move (λk hk=>⟨?_,rfl⟩) (λk d rest _ hk=>⟨H3 k r0 i _ (by simp) hk,rfl⟩) ho;rcases hk with hk|⟨_,_,hk,_⟩
   ·exact H1 k hk
   ·cases hk
 | [],_,_::_,_,_,h=>h.elim
 | (_,.ro)::_,_,[],_,_,h=>h.elim
 | (_,.mut _)::_,_,[],_,_,h=>h.elim
 | (_,.mut _)::_,_,_::_,_,_,h=>h.elim
 | (_,.ptr _)::_,_,[],_,_,h=>h.elim
 | (_,.bV _)::_,_,[],_,_,h=>h.elim
 | (_,.bV _)::_,_,_::_,_,_,h=>h.elim
theorem aaF:{ps:List (Ty×Mode)}->{i:Nat}->{x:(cI ps).den}->{cs:List Value}->{v:V}->fV w L0 i ps x cs->xw ps x=some v ->
  ∃j t n y c,ps[j]?=some (t,.ptr n)/\v = .box none n t y/\cs[j]?=some c/\uw w L0 (λk=>L0 k = .au) (i+j) n t y c
 | [],_,_,_,_,_,hv=>by cases hv
 | (t,.mut n)::ps,i,x,cs,v,h,hv=>by cases hv
 | (t,.bV n)::ps,i,x,cs,v,h,hv=>by cases hv
 | (t,.ptr n)::ps,i,x,cs,v,h,hv=>by
  simp only[fV]at h;obtain⟨c,bl,rfl,h1,_⟩:=h;simp only[xw,Option.some.injEq]at hv;exact⟨0,t,n,x.1,c,rfl,hv.symm,rfl,h1⟩
 | (t,.ro)::ps,i,x,cs,v,h,hv=>by
  simp only[fV]at h;obtain⟨c,bl,rfl,h⟩:=h;simp only[xw]at hv;obtain⟨j,t',n,y,c',h1,h2,h3,h4⟩:=aaF h hv;exact⟨j+1,t',n,y,c',by simpa using h1,h2,by simpa using h3,by rw[show i+(j+1)=i+1+j by omega];exact h4⟩
theorem we:{ps:List (Ty×Mode)}->p8 ps=true->∀(j:Nat) (t:Ty) (n:Nat),ps[j]?=some (t,.ptr n)->t.depth<=n
 | [],_,j,t,n,hj=>by simp at hj
 | (t0,.ptr n0)::ps,h,j,t,n,hj=>by
  simp only[p8,Bool.and_eq_true,decide_eq_true_eq]at h;cases j with
  | zero =>
   simp only[List.getElem?_cons_zero,Option.some.injEq,Prod.mk.injEq,Mode.ptr.injEq]at hj;obtain⟨rfl,rfl⟩:=hj;exact h.1
  | succ j=>exact we h.2 j t n (by simpa using hj)
 | (t0,.mut n0)::ps,h,j,t,n,hj=>by
  cases j with
  | zero=>simp at hj
  | succ j=>exact we (ps:=ps) h j t n (by simpa using hj)
 | (t0,.ro)::ps,h,j,t,n,hj=>by
  cases j with
  | zero=>simp at hj
  | succ j=>exact we (ps:=ps) h j t n (by simpa using hj)
 | (t0,.bV n0)::ps,h,j,t,n,hj=>by
  cases j with
  | zero=>simp at hj
  | succ j=>exact we (ps:=ps) h j t n (by simpa using hj)
theorem akN[af]{ls:List Nat}{ps:List (Ty×Mode)}{rs:List (Ty×Nat)}{m d:Nat}(hI:Inv w0 L0 N vs T a w L)(Kd:i≠m)(bc:Left w w' (λk=>cO (some (r,i)) ls (L k)) L' ps rs):
  (∀k q',L' k = .own i q'->dJ (some (r,i)) m d L L' k = .own r q') /\
  ∀{n:Nat} {t:Ty} {x:t.den} {q:List Nat} {o:Nat} {cs:List Value},(t.depth<=n\/ls=[]) ->
   Own w' L' (λk=>L' k = .au) i n t x q o cs->Own w' (dJ (some (r,i)) m d L L') (SL (dJ (some (r,i)) m d L L') none) r n t x q o cs:=by
 have bz:∀k q',L' k = .own i q'->dJ (some (r,i)) m d L L' k = .own r q':=by
  intro k q' hk;have hp:gH (some (r,i)) (L k):=by
   apply Classical.byContradiction;intro hp;have ax:k<w.heap.size:=hI.lt (λe=>hp (.inl e));have h9:=(bc.aT k ax (kN hp)).1;rw[hk]at h9;rcases kN (ls:=ls) hp with h|h<;>rw[h]at h9<;>cases h9
  rw[jU hp,hk];simp[nA,Kd]
 refine⟨bz,λ{n t x q o cs} hl h=>?_⟩;rcases hl with hl|hl
 ·exact Own.move (S:=λ_=>False) (λk hk=>hk.elim) (λk dd rest _ hk=>⟨bz k _ hk,rfl⟩) (Own.full hl h)
 ·subst hl;refine Own.move (λk hk=>⟨.inl ?_,rfl⟩) (λk dd rest _ hk=>⟨bz k _ hk,rfl⟩) h;by_cases hp:gH (some (r,i)) (L k)
  ·rw[jU hp,hk];rfl
  ·have ax:k<w.heap.size:=hI.lt (λe=>hp (.inl e));have h9:=(bc.aT k ax (kN hp)).1;rw[hk]at h9;rw[oH hp];cases iq:L k with
   | au=>rfl
   | own s q' =>
    rw[iq]at h9;unfold cO at h9;dsimp only at h9;split at h9
    ·cases h9
    ·simp at h9
   | other=>rw[iq]at h9;cases h9
   | free=>exact absurd (.inl iq) hp
theorem aq7[af](hI:Inv w0 L0 N vs T a w L)(ej:fC P bj){d:Nat}  
  (ho:o.op = .call { callee:=.value (.func f),args,argTypes:=cJ }) (aB:o.dst=some d) (hd:d<N) (hid:(T.getD d .dead).idle=true)
  (h:(Jd C bj vs N d f args.toList).ai T ups log):Step P o w0 L0 N vs (ah T ups) a w:=by
 unfold Jd at h;split at h
 ·exact h.elim
 ·rename_i F hF;obtain⟨⟨fn,iR,gq,nG⟩,aC⟩:=ej f F hF;have hb:=M.aq h;clear h;obtain⟨A,l1,l2,rfl,h1,h⟩:=hb;obtain⟨eB,gp,qj,il⟩:=I1 hI h1;have aP:=Go.Conc.run_call_body (P:=P) (a:=a) (w:=w) ho iR gq nG;have mj:∀r∈A.ls,r≠d:=λr hr=>di hid (V.fq (eB r hr));rcases fi:A.mu with _|⟨⟨r0,i⟩,_|⟨p2,rest⟩⟩
  ·rw[fi]at h;exact h.elim
  ·rw[fi]at h;dsimp only at h;cases hc:(A.ls.contains r0 || !decide (r0<N) || !(A.ls.isEmpty||p8 F.ps))with
   | true=>rw[hc]at h;exact h.elim
   | false =>
    rw[hc]at h;obtain⟨r,fj,h⟩:=h;dsimp only at h;simp only[Bool.or_eq_false_iff,Bool.not_eq_false',decide_eq_true_eq]at hc;obtain⟨⟨eA,dw⟩,dL⟩:=hc;have jx:r0∉A.ls:=λhm=>by rw[List.contains_iff_mem.2 hm]at eA;cases eA
    split at h
    ·rename_i v u' hv qu;obtain⟨Ts,l3,l4,rfl,dS,ju,nX⟩:=M.aq h;obtain⟨rfl,_⟩:=nX;have bI:Ts=T:=by rw[lT dS (by rw[Nat.zero_add,hI.len])];rfl
     subst bI;obtain⟨_,t,n,y,h2,h5,h6⟩:=gp r0 i (by rw[fi];simp);simp only[Nat.sub_zero]at h2 h6;have td:i<F.ps.length:=(List.getElem?_eq_some_iff.1 h2).1;have w4:r0≠d:=di hid (by rw[h5];rfl);have jw:∀(j:Nat) (t:Ty) (m:Mode),F.ps[j]?=some (t,m)->m.back=true->j=i:=by
      intro j t m hj hm;obtain⟨r',aZ⟩:=qj j t m hj hm;rw[fi]at aZ;simp only[List.mem_singleton,Prod.mk.injEq]at aZ;omega
     have nN:jQ w (λk=>cO (some (r0,i)) A.ls (L k)) F.ps:=by
      refine⟨λk hk=>by rw[hI.free k hk];rfl,λk k' s q h h'=>?_,λk s q h=>?_,af.aT hI.fr.ij λk hk h0=>⟨?_,(hI.fr.aT k hk h0).2⟩⟩
      ·obtain⟨r1,e1,e2⟩:=lK h;obtain⟨r2,e3,e4⟩:=lK h';rw[e1]at e3;injection e3 with e3;injection e3 with e3 _;subst e3;exact hI.inj k k' _ _ e2 e4
      ·obtain⟨r1,e1,e2⟩:=lK h;injection e1 with e1;injection e1 with e1 e3;subst e1 e3;exact⟨t,.ptr n,h2,rfl⟩
      ·rw[(hI.fr.aT k hk h0).1];rcases h0 with h0|h0<;>rw[h0]<;>simp[cO]
     have dM:=il (λk=>cO (some (r0,i)) A.ls (L k)) (λk hk=>by rw[hk];rfl) (λk r q hr hk=>by
      rw[hk];unfold cO;dsimp only;rw[if_neg (λe:r=r0=>jx (by rw[<-e];exact hr)),if_pos (by simpa using hr)]) (λk r j q hm hk=>by
      rw[hk];rw[fi]at hm;simp only[List.mem_singleton,Prod.mk.injEq]at hm;obtain⟨rfl,rfl⟩:=hm;simp[cO])
     intro K Q hK;unfold Oper.wp;rw[aP,Oper.upon_enter];refine Calls.mono (aC A.x r fj w _ (args.map a.eval) nN (by simpa using dM)) ?_
     rintro e w' ⟨cs,L',rfl,bc,cm,km⟩
     dsimp only;rw[aB];have km:fV w' L' 0 F.ps r.2 (args.toList.map a.eval):=by simpa using km
     refine hK _ _ (dJ (some (r0,i)) F.ps.length d L L') ?_;have ik:ah Ts (((r0,u')::ch (cA r0 d) 0 Ts)++[(d,v)])=(ah Ts ((r0,u')::ch (cA r0 d) 0 Ts)).set d v:=by
      rw[lE];rfl
     have nO:(ah Ts ((r0,u')::ch (cA r0 d) 0 Ts)).length=N:=by rw[cH,hI.len]
     have bU:(ah Ts (((r0,u')::ch (cA r0 d) 0 Ts)++[(d,v)])).getD d .dead=v:=by
      rw[ik,aH,if_pos ⟨rfl,by rw[nO];exact hd⟩]
     have br:∀s,s≠d->(ah Ts (((r0,u')::ch (cA r0 d) 0 Ts)++[(d,v)])).getD s .dead=(ah Ts ((r0,u')::ch (cA r0 d) 0 Ts)).getD s .dead:=by
      intro s hs;rw[ik,aH,if_neg (λe=>hs e.1)]
     have eL:∀s v,(s,v)∈((r0,u')::ch (cA r0 d) 0 Ts)->(s=r0/\v=u')\/(v = .dead/\s≠r0/\(Ts.getD s .dead).on r0=true):=by
      intro s v hm;rcases List.mem_cons.1 hm with hm|hm
      ·injection hm with h1 h2;exact .inl ⟨h1,h2⟩
      ·obtain⟨h1,_,_,h2⟩:=(pZ s v).1 hm;simp only[Nat.sub_zero,cA,Bool.and_eq_true,bne_iff_ne]at h2;exact .inr ⟨h1,h2.1.2,h2.1.1⟩
     have bE:(ah Ts ((r0,u')::ch (cA r0 d) 0 Ts)).getD r0 .dead=u':=by
      refine iK (by rw[hI.len];exact dw) (by simp) (λv hm=>?_);rcases eL r0 v hm with⟨_,h⟩|⟨_,h,_⟩
      ·exact h
      ·exact absurd rfl h
     have oV:∀s,s≠d->s≠r0->(Ts.getD s .dead).on r0=true->(ah Ts ((r0,u')::ch (cA r0 d) 0 Ts)).getD s .dead = .dead/\(Ts.getD s .dead).aM=false:=by
      intro s bL hs ag;have iy:s<N:=by
       rcases Nat.lt_or_ge s N with h|h
       ·exact h
       ·rw[eJ (by rw[hI.len];exact h)]at ag;simp[V.on,V.root]at ag
      have hg:cA r0 d s (Ts.getD s .dead)=true:=by
       unfold cA;rw[ag];simp[hs,bL]
      refine⟨iK (by rw[hI.len];exact iy) ?_ (λv hm=>?_),?_⟩
      ·rw[List.mem_map];exact⟨(s,.dead),List.mem_cons_of_mem _ ((pZ s .dead).2 ⟨rfl,Nat.zero_le _,by rw[Nat.zero_add,hI.len];exact iy,by rw[Nat.sub_zero];exact hg⟩),rfl⟩
      ·rcases eL s v hm with⟨h,_⟩|⟨h,_⟩
       ·exact absurd h hs
       ·exact h
      ·exact CB ju s (by rw[hI.len];exact iy) (by rw[Nat.zero_add];exact hg)
     have oU:∀s,s≠r0->(Ts.getD s .dead).on r0=false->(ah Ts ((r0,u')::ch (cA r0 d) 0 Ts)).getD s .dead=Ts.getD s .dead:=by
      intro s hs ag;refine fg _ _ _ (λhm=>?_);obtain⟨u,hu,he⟩:=List.mem_map.1 hm;rcases eL s u.2 (by rw[<-he];exact hu)with⟨h,_⟩|⟨_,_,h⟩
      ·exact hs h
      ·rw[ag]at h;cases h
     have wP:∀r∈A.ls,((ah Ts (((r0,u')::ch (cA r0 d) 0 Ts)++[(d,v)])).getD r .dead).deep=true:=by
      intro r hr;have gw:r≠r0:=λe=>jx (e▸hr);have ho:=V.fq (eB r hr);rw[br r (mj r hr)];cases ag:(Ts.getD r .dead).on r0 with
      | false=>rw[oU r gw ag];exact eB r hr
      | true =>
       have h:=(oV r (mj r hr) gw ag).2;rw[h]at ho;cases ho
     obtain⟨j,t',n',y',c',m1,m2,m3,g,cur,e,m4,m5,m6,m7,m8⟩:=aaF km qu;have cR:=jw j t' _ m1 (by simp);subst cR;rw[h2]at m1;injection m1 with m1;injection m1 with m1 lv;injection lv with lv;subst m1 lv;rw[h6]at m3;injection m3 with m3;subst m3;rw[Nat.zero_add]at m5 m8;have Da:j≠F.ps.length:=by omega
     obtain⟨b1,b2⟩:=akN (d:=d) hI Da bc;obtain⟨k1,k2,k3⟩:=xJ (T':=ah Ts (((r0,u')::ch (cA r0 d) 0 Ts)++[(d,v)])) (d:=d) hI bc rfl wP cm hv;have al9:t.depth<=n\/A.ls=[]:=by
      simp only[Bool.or_eq_true,List.isEmpty_iff]at dL;rcases dL with h|h
      ·exact .inr h
      ·exact .inl (we h j t n h2)
     refine Inv.Jh hI hd hid rfl (λr i h=>by injection h with h;injection h with _ h;subst h;exact td) bc (by rw[cH,hI.len]) (λj' t n hj hm=>by rw[jw j' t n hj hm];rfl) ?_ ?_ ?_ bU k1 k2 (λr i h=>by injection h with h;injection h with h _;subst h;exact jx) k3
     ·intro r i h;injection h with h;injection h with h h';subst h h';rw[br r0 w4,bE,m2];exact⟨by rw[h5];rfl,.inr rfl,rfl,by simp,g,cur,e,m4,b1 _ _ m5,m6,m7,b2 al9 m8⟩
     ·intro s r i h bL bu ag;injection h with h;injection h with h h';subst h h';rw[br s bL];exact .inl (oV s bL bu ag)
     ·intro s bL hs;obtain⟨e1,e2⟩:=hs r0 j rfl;rw[br s bL];exact oU s e1 e2
    ·exact h.elim
  ·rw[fi]at h;exact h.elim
theorem aq9[af](hI:Inv w0 L0 N vs T a w L)(ej:fC P bj)       
  (ho:o.op = .call { callee:=.value (.func f),args,argTypes:=cJ }) (aB:o.dst=some d) (hd:d<N) (hid:(T.getD d .dead).idle=true)
  (h:(Jf C bj vs N d f args.toList).ai T ups log):Step P o w0 L0 N vs (ah T ups) a w:=by
 unfold Jf at h;split at h
 ·exact h.elim
 ·generalize IT _=b at h;cases b with
  | true=>exact aq7 hI ej ho aB hd hid h
  | false=>exact aq8 hI ej ho aB hd hid h
end
def JC(t:Ty)(n:Nat)(x:Operand):M (t.den×Nat):=
 match x with
 | .tmp s=>.get s λv=>match v with
  | .view r [] _=>.get r λu=>match u with
   | .d none k t' y=>if h:t'=t then (if (t.depth<=k/\t.depth<=n\/k=n/\n≠0)/\t.depth≠0 then .ret (h▸y,r)else .fail)else .fail
   | _=>.fail
  | .d none k t' y=>if h:t'=t then (if (t.depth<=k/\t.depth<=n\/k=n/\n≠0)/\t.depth≠0 then .ret (h▸y,s)else .fail)else .fail
  | _=>.fail
 | _=>.fail
def su(C:Ctx):Nat->(ps:List (Ty×Mode))->List Operand->M (lQ ps)
 | _,[],[]=>.ret ⟨(),[],[]⟩
 | i,(t,.ro)::ps,x::xs=>(pQ C t x).bind λy=>(su C (i+1) ps xs).bind λr=>.ret ⟨(y.1,r.x),y.2++r.ls,r.mu⟩
 | i,(t,.bV n)::ps,x::xs=>(JC t n x).bind λy=>(su C (i+1) ps xs).bind λr=>.ret ⟨(y.1,r.x),r.ls,(y.2,i)::r.mu⟩
 | _,_,_=>.fail
def Jc(C:Ctx)(bj:cX)(vs:List Nat)(N d:Nat)(f:FuncId)(args:List Operand):M (List (Nat×V)):=
 match bj f with
 | none=>.fail
 | some F=>(su C 0 F.ps args).bind λA=>match A.mu with
  | [(r0,_)]=>cond (A.ls.contains r0 || !decide (r0<N)) .fail (.cM (.pair (cV F.rs) (cI F.ps)) (F.an A.x) λr=>match mO vs A.ls F.rs r.1 with
   | some v=>cond (vs.contains r0) ((allM 0 N).bind λTs=>.bn (ny (cA r0 d) 0 Ts) (.ret (((r0,.dead)::ch (cA r0 d) 0 Ts)++[(d,v)]))) (.ret [(r0,.dead),(d,v)])
   | none=>.fail)
  | _=>.fail
def IS:List (Ty×Mode)->Bool
 | []=>false
 | (_,.bV _)::_=>true
 | _::ps=>IS ps
def Jg(C:Ctx)(bj:cX)(vs:List Nat)(N d:Nat)(f:FuncId)(args:List Operand):M (List (Nat×V)):=
 match bj f with
 | none=>.fail
 | some F=>cond (IS F.ps) (Jc C bj vs N d f args) (Jf C bj vs N d f args)
section
variable{P:Program}{C:Ctx}{w w' w0:World}{S S':Nat->Prop}{L L' L0:Nat->aj}{s N:Nat}{vs:List Nat}{T T':List V}{tm tm':Array Value}{a:Act}
theorem ak3[af](hI:Inv w0 L0 N vs T a w L){t:Ty}{y:t.den}(h:(JC t n x).ai T (y,r) log):
  ∃k,T.getD r .dead = .d none k t y/\(t.depth<=k/\t.depth<=n\/k=n/\n≠0)/\t.depth≠0/\a.eval x=a.tmps.getD r undef:=by
 unfold JC at h;split at h
 ·rename_i s;obtain⟨aG,rfl,h⟩:=h;have hs:=hI.aY s;generalize hv:T.getD s .dead=v at h hs;dsimp only at h;split at h
  ·rename_i r' t2;obtain⟨log2,rfl,h⟩:=h;dsimp only at h;split at h
   ·rename_i n' t' y' hu;split at h
    ·rename_i ht;subst ht;split at h
     ·rename_i hc;obtain⟨hk,hd⟩:=hc;obtain⟨h,_⟩:=h;injection h with h1 h2;subst h1 h2;refine⟨n',hu,hk,hd,?_⟩;obtain⟨_,h1⟩:=hs;rcases h1 with⟨_,h2,_⟩|⟨_,_,_,h2,_⟩
      ·exact h2
      ·rw[hu]at h2;simp[V.dG]at h2
     ·exact h.elim
    ·exact h.elim
   ·exact h.elim
  ·rename_i n' t' y';split at h
   ·rename_i ht;subst ht;split at h
    ·rename_i hc;obtain⟨hk,hd⟩:=hc;obtain⟨h,_⟩:=h;injection h with h1 h2;subst h1 h2;exact⟨n',hv,hk,hd,rfl⟩
    ·exact h.elim
   ·exact h.elim
  ·exact h.elim
 ·exact h.elim
theorem IY[af](hI:Inv w0 L0 N vs T a w L):{ps:List (Ty×Mode)}->{i:Nat}->{xs:List Operand}->{A:lQ ps}->{log:List Nat}->(su C i ps xs).ai T A log ->
  (∀r∈A.ls,(T.getD r .dead).deep=true)/\(∀r j,(r,j)∈A.mu->i<=j/\∃t n k y,ps[j - i]?=some (t,.bV n)/\T.getD r .dead = .d none k t y/\(t.depth<=k/\t.depth<=n\/k=n/\n≠0)/\t.depth≠0/\(xs.map a.eval)[j - i]?=some (a.tmps.getD r undef)) /\
  (∀(j:Nat) (t:Ty) (m:Mode),ps[j]?=some (t,m)->m.back=false) /\
  ∀L1:Nat->aj,(∀k,L k = .au->L1 k = .au)->(∀k r q,r∈A.ls->L k = .own r q->L1 k = .au)->(∀k r j q,(r,j)∈A.mu->L k = .own r q->L1 k = .own j q)->dX w L1 i ps A.x (xs.map a.eval)
 | [],i,[],A,log,h=>by
  obtain⟨rfl,_⟩:=h;exact⟨by simp,by simp,by simp,λ_ _ _ _=>rfl⟩
 | (t,.ro)::ps,i,x::xs,A,log,h=>by
  simp only[su]at h;obtain⟨⟨y,ls⟩,l1,l2,rfl,h1,h⟩:=M.aq h;obtain⟨A',l3,l4,rfl,h2,h⟩:=M.aq h;obtain⟨rfl,_⟩:=h;obtain⟨cells,k1,k2,k3⟩:=vN hI h1;obtain⟨j1,j2,j4,j3⟩:=IY hI h2;refine⟨λr hr=>?_,λr j hm=>?_,λj t' m hj=>?_,λL1 H1 H2 H3=>?_⟩
  ·rcases List.mem_append.1 hr with hr|hr
   ·exact k2 r hr
   ·exact j1 r hr
  ·obtain⟨hi,t',n',k',y',e1,e2,e3,e5,e6⟩:=j2 r j hm;have:j - i=(j - (i+1))+1:=by omega
   exact⟨by omega,t',n',k',y',by rw[this];simpa using e1,e2,e3,e5,by rw[this];simpa using e6⟩
  ·cases j with
   | zero =>
    simp only[List.getElem?_cons_zero,Option.some.injEq,Prod.mk.injEq]at hj;rw[<-hj.2];rfl
   | succ j=>exact j4 j t' m (by simpa using hj)
  ·exact⟨a.eval x,_,cells,rfl,k1,Own.dP (k3 _ H1 (λk r q hr hk=>H2 k r q (List.mem_append_left _ hr) hk)),j3 L1 H1 (λk r q hr hk=>H2 k r q (List.mem_append_right _ hr) hk) H3⟩
 | (t,.bV n)::ps,i,x::xs,A,log,h=>by
  simp only[su]at h;obtain⟨⟨y,r0⟩,l1,l2,rfl,h1,h⟩:=M.aq h;obtain⟨A',l3,l4,rfl,h2,h⟩:=M.aq h;obtain⟨rfl,_⟩:=h;obtain⟨k0,k1,k2,k4,k5⟩:=ak3 hI h1;obtain⟨j1,j2,j4,j3⟩:=IY hI h2;refine⟨j1,λr j hm=>?_,λj t' m hj=>?_,λL1 H1 H2 H3=>?_⟩
  ·rcases List.mem_cons.1 hm with hm|hm
   ·injection hm with e1 e2;subst e1 e2;exact⟨Nat.le_refl _,t,n,k0,y,by simp,k1,k2,k4,by simp[k5]⟩
   ·obtain⟨hi,t',n',k',y',e1,e2,e3,e5,e6⟩:=j2 r j hm;have:j - i=(j - (i+1))+1:=by omega
    exact⟨by omega,t',n',k',y',by rw[this];simpa using e1,e2,e3,e5,by rw[this];simpa using e6⟩
  ·cases j with
   | zero =>
    simp only[List.getElem?_cons_zero,Option.some.injEq,Prod.mk.injEq]at hj;rw[<-hj.2];rfl
   | succ j=>exact j4 j t' m (by simpa using hj)
  ·have hs:=hI.aY r0;rw[k1]at hs;obtain⟨_,cells,hf,ho⟩:=hs;refine⟨a.eval x,_,cells,rfl,by rw[k5];exact hf,?_,j3 L1 H1 H2 (λk r j q hm hk=>H3 k r j q (List.mem_cons_of_mem _ hm) hk)⟩;refine Own.move (λk hk=>⟨?_,rfl⟩) (λk d rest _ hk=>⟨H3 k r0 i _ (by simp) hk,rfl⟩) (k2.elim (λk2=>Own.cap k2.1 k2.2 ho) (λk2=>k2.1▸ho));rcases hk with hk|⟨_,_,hk,_⟩
   ·exact H1 k hk
   ·cases hk
 | [],_,_::_,_,_,h=>h.elim
 | (_,.ro)::_,_,[],_,_,h=>h.elim
 | (_,.mut _)::_,_,[],_,_,h=>h.elim
 | (_,.mut _)::_,_,_::_,_,_,h=>h.elim
 | (_,.ptr _)::_,_,[],_,_,h=>h.elim
 | (_,.ptr _)::_,_,_::_,_,_,h=>h.elim
 | (_,.bV _)::_,_,[],_,_,h=>h.elim
theorem Wx{g:Nat->V->Bool}:{i:Nat}->{l:List V}->(∀z,∀u∈l,g z u=false)->ch g i l=[]
 | _,[],_=>rfl
 | i,v::l,h=>by
  unfold ch;rw[h i v (List.mem_cons_self ..),cond_false];exact Wx λz u hu=>h z u (List.mem_cons_of_mem _ hu)
theorem Ww{g:Nat->V->Bool}:{i:Nat}->{l:List V}->(∀z,∀u∈l,g z u=false)->ny g i l=true
 | _,[],_=>rfl
 | i,v::l,h=>by
  unfold ny;rw[h i v (List.mem_cons_self ..)];exact Ww λz u hu=>h z u (List.mem_cons_of_mem _ hu)
theorem aq6[af](hI:Inv w0 L0 N vs T a w L)(ej:fC P bj){d:Nat}  
  (ho:o.op = .call { callee:=.value (.func f),args,argTypes:=cJ }) (aB:o.dst=some d) (hd:d<N) (hid:(T.getD d .dead).idle=true)
  (h:(Jc C bj vs N d f args.toList).ai T ups log):Step P o w0 L0 N vs (ah T ups) a w:=by
 unfold Jc at h;split at h
 ·exact h.elim
 ·rename_i F hF;obtain⟨⟨fn,iR,gq,nG⟩,aC⟩:=ej f F hF;have hb:=M.aq h;clear h;obtain⟨A,l1,l2,rfl,h1,h⟩:=hb;obtain⟨eB,gp,sT,il⟩:=IY hI h1;have aP:=Go.Conc.run_call_body (P:=P) (a:=a) (w:=w) ho iR gq nG;have mj:∀r∈A.ls,r≠d:=λr hr=>di hid (V.fq (eB r hr));rcases fi:A.mu with _|⟨⟨r0,i⟩,_|⟨p2,rest⟩⟩
  ·rw[fi]at h;exact h.elim
  ·rw[fi]at h;dsimp only at h;cases hc:(A.ls.contains r0 || !decide (r0<N))with
   | true=>rw[hc]at h;exact h.elim
   | false =>
    rw[hc]at h;obtain⟨r,fj,h⟩:=h;dsimp only at h;simp only[Bool.or_eq_false_iff,Bool.not_eq_false',decide_eq_true_eq]at hc;obtain⟨eA,dw⟩:=hc;have jx:r0∉A.ls:=λhm=>by rw[List.contains_iff_mem.2 hm]at eA;cases eA
    split at h
    ·rename_i v hv;have main:∀Ts,Ts=T->ny (cA r0 d) 0 Ts=true->Step P o w0 L0 N vs (ah Ts (((r0,V.dead)::ch (cA r0 d) 0 Ts)++[(d,v)])) a w:=by
      intro Ts bI ju;subst bI;obtain⟨_,t,n,k0,y,h2,h5,axB,hk3,h6⟩:=gp r0 i (by rw[fi];simp);simp only[Nat.sub_zero]at h2 h6;have td:i<F.ps.length:=(List.getElem?_eq_some_iff.1 h2).1;have Ys:(Ts.getD r0 .dead).aM=true:=by
       rw[h5];simp only[V.aM,Bool.and_eq_true,bne_iff_ne];omega
      have w4:r0≠d:=di hid Ys;have nN:jQ w (λk=>cO (some (r0,i)) A.ls (L k)) F.ps:=by
       refine⟨λk hk=>by rw[hI.free k hk];rfl,λk k' s q h h'=>?_,λk s q h=>?_,af.aT hI.fr.ij λk hk h0=>⟨?_,(hI.fr.aT k hk h0).2⟩⟩
       ·obtain⟨r1,e1,e2⟩:=lK h;obtain⟨r2,e3,e4⟩:=lK h';rw[e1]at e3;injection e3 with e3;injection e3 with e3 _;subst e3;exact hI.inj k k' _ _ e2 e4
       ·obtain⟨r1,e1,e2⟩:=lK h;injection e1 with e1;injection e1 with e1 e3;subst e1 e3;exact⟨t,.bV n,h2,by simp only[Mode.owned,Bool.and_eq_true,bne_iff_ne];omega⟩
       ·rw[(hI.fr.aT k hk h0).1];rcases h0 with h0|h0<;>rw[h0]<;>simp[cO]
      have dM:=il (λk=>cO (some (r0,i)) A.ls (L k)) (λk hk=>by rw[hk];rfl) (λk r q hr hk=>by
       rw[hk];unfold cO;dsimp only;rw[if_neg (λe:r=r0=>jx (by rw[<-e];exact hr)),if_pos (by simpa using hr)]) (λk r j q hm hk=>by
       rw[hk];rw[fi]at hm;simp only[List.mem_singleton,Prod.mk.injEq]at hm;obtain⟨rfl,rfl⟩:=hm;simp[cO])
      intro K Q hK;unfold Oper.wp;rw[aP,Oper.upon_enter];refine Calls.mono (aC A.x r fj w _ (args.map a.eval) nN (by simpa using dM)) ?_
      rintro e w' ⟨cs,L',rfl,bc,cm,km⟩
      dsimp only;rw[aB];refine hK _ _ (dJ (some (r0,i)) F.ps.length d L L') ?_;have ik:ah Ts (((r0,V.dead)::ch (cA r0 d) 0 Ts)++[(d,v)])=(ah Ts ((r0,V.dead)::ch (cA r0 d) 0 Ts)).set d v:=by
       rw[lE];rfl
      have nO:(ah Ts ((r0,V.dead)::ch (cA r0 d) 0 Ts)).length=N:=by rw[cH,hI.len]
      have bU:(ah Ts (((r0,V.dead)::ch (cA r0 d) 0 Ts)++[(d,v)])).getD d .dead=v:=by
       rw[ik,aH,if_pos ⟨rfl,by rw[nO];exact hd⟩]
      have br:∀s,s≠d->(ah Ts (((r0,V.dead)::ch (cA r0 d) 0 Ts)++[(d,v)])).getD s .dead=(ah Ts ((r0,V.dead)::ch (cA r0 d) 0 Ts)).getD s .dead:=by
       intro s hs;rw[ik,aH,if_neg (λe=>hs e.1)]
      have eL:∀s v,(s,v)∈((r0,V.dead)::ch (cA r0 d) 0 Ts)->(s=r0/\v = .dead)\/(v = .dead/\s≠r0/\(Ts.getD s .dead).on r0=true):=by
       intro s v hm;rcases List.mem_cons.1 hm with hm|hm
       ·injection hm with h1 h2;exact .inl ⟨h1,h2⟩
       ·obtain⟨h1,_,_,h2⟩:=(pZ s v).1 hm;simp only[Nat.sub_zero,cA,Bool.and_eq_true,bne_iff_ne]at h2;exact .inr ⟨h1,h2.1.2,h2.1.1⟩
      have bE:(ah Ts ((r0,V.dead)::ch (cA r0 d) 0 Ts)).getD r0 .dead = .dead:=by
       refine iK (by rw[hI.len];exact dw) (by simp) (λv hm=>?_);rcases eL r0 v hm with⟨_,h⟩|⟨_,h,_⟩
       ·exact h
       ·exact absurd rfl h
      have oV:∀s,s≠d->s≠r0->(Ts.getD s .dead).on r0=true->(ah Ts ((r0,V.dead)::ch (cA r0 d) 0 Ts)).getD s .dead = .dead/\(Ts.getD s .dead).aM=false:=by
       intro s bL hs ag;have iy:s<N:=by
        rcases Nat.lt_or_ge s N with h|h
        ·exact h
        ·rw[eJ (by rw[hI.len];exact h)]at ag;simp[V.on,V.root]at ag
       have hg:cA r0 d s (Ts.getD s .dead)=true:=by
        unfold cA;rw[ag];simp[hs,bL]
       refine⟨iK (by rw[hI.len];exact iy) ?_ (λv hm=>?_),?_⟩
       ·rw[List.mem_map];exact⟨(s,.dead),List.mem_cons_of_mem _ ((pZ s .dead).2 ⟨rfl,Nat.zero_le _,by rw[Nat.zero_add,hI.len];exact iy,by rw[Nat.sub_zero];exact hg⟩),rfl⟩
       ·rcases eL s v hm with⟨h,_⟩|⟨h,_⟩
        ·exact absurd h hs
        ·exact h
       ·exact CB ju s (by rw[hI.len];exact iy) (by rw[Nat.zero_add];exact hg)
      have oU:∀s,s≠r0->(Ts.getD s .dead).on r0=false->(ah Ts ((r0,V.dead)::ch (cA r0 d) 0 Ts)).getD s .dead=Ts.getD s .dead:=by
       intro s hs ag;refine fg _ _ _ (λhm=>?_);obtain⟨u,hu,he⟩:=List.mem_map.1 hm;rcases eL s u.2 (by rw[<-he];exact hu)with⟨h,_⟩|⟨_,_,h⟩
       ·exact hs h
       ·rw[ag]at h;cases h
      have wP:∀r∈A.ls,((ah Ts (((r0,V.dead)::ch (cA r0 d) 0 Ts)++[(d,v)])).getD r .dead).deep=true:=by
       intro r hr;have gw:r≠r0:=λe=>jx (e▸hr);have ho:=V.fq (eB r hr);rw[br r (mj r hr)];cases ag:(Ts.getD r .dead).on r0 with
       | false=>rw[oU r gw ag];exact eB r hr
       | true =>
        have h:=(oV r (mj r hr) gw ag).2;rw[h]at ho;cases ho
      obtain⟨k1,k2,k3⟩:=xJ (T':=ah Ts (((r0,V.dead)::ch (cA r0 d) 0 Ts)++[(d,v)])) (d:=d) hI bc rfl wP cm hv;refine Inv.Jh hI hd hid rfl (λr i h=>by injection h with h;injection h with _ h;subst h;exact td) bc (by rw[cH,hI.len]) (λj' t n hj hm=>by rw[sT j' t n hj]at hm;cases hm) ?_ ?_ ?_ bU k1 k2 (λr i h=>by injection h with h;injection h with h _;subst h;exact jx) k3
      ·intro r i h;injection h with h;injection h with h h';subst h h';rw[br r0 w4,bE];exact⟨Ys,.inl sT,rfl,trivial⟩
      ·intro s r i h bL bu ag;injection h with h;injection h with h h';subst h h';rw[br s bL];exact .inl (oV s bL bu ag)
      ·intro s bL hs;obtain⟨e1,e2⟩:=hs r0 i rfl;rw[br s bL];exact oU s e1 e2
     cases bf:vs.contains r0 with
     | true =>
      rw[bf,cond_true]at h;obtain⟨Ts,l3,l4,rfl,dS,ju,nX⟩:=M.aq h;obtain⟨rfl,_⟩:=nX;have bI:Ts=T:=by rw[lT dS (by rw[Nat.zero_add,hI.len])];rfl
      have:=main Ts bI ju
      rwa [bI]at this ⊢
     | false =>
      rw[bf,cond_false]at h;obtain⟨rfl,_⟩:=h;have cB:∀z,∀u∈T,cA r0 d z u=false:=by
       intro z u hu;obtain⟨s,hs,rfl⟩:=List.getElem_of_mem hu;cases ag:(T[s]).on r0 with
       | false=>unfold cA;rw[ag];rfl
       | true =>
        have:=hI.roots s r0 (by rw[List.getD_eq_getElem?_getD,List.getElem?_eq_getElem hs];exact ag);rw[List.contains_iff_mem.2 this]at bf;cases bf
      have h1:=main T rfl (Ww cB)
      rwa [Wx cB]at h1
    ·exact h.elim
  ·rw[fi]at h;exact h.elim
theorem ara[af](hI:Inv w0 L0 N vs T a w L)(ej:fC P bj)       
  (ho:o.op = .call { callee:=.value (.func f),args,argTypes:=cJ }) (aB:o.dst=some d) (hd:d<N) (hid:(T.getD d .dead).idle=true)
  (h:(Jg C bj vs N d f args.toList).ai T ups log):Step P o w0 L0 N vs (ah T ups) a w:=by
 unfold Jg at h;split at h
 ·exact h.elim
 ·generalize IS _=b at h;cases b with
  | true=>exact aq6 hI ej ho aB hd hid h
  | false=>exact aq9 hI ej ho aB hd hid h
end
end Go.Proofs.YtbhogmdpmkpinaaGreat.P.Am
