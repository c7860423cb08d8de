/- A part of the proof: Am48,Am49,Am57,Am58,Am60,Am54,Am55,Am59. No conditions. -/
import Derived.Test.YthfgcmoipebheaaGreatPG5
set_option linter.unusedVariables false
set_option linter.unusedSimpArgs false
namespace Go.Proofs.YthfgcmoipebheaaGreat.P.Am
variable{d i n r sz t:Nat}{kids log q:List Nat}{o:Oper}{ups:List (Nat×V)}{x:Operand}{m:M (List (Nat×V))}{args:Array Operand}{cA:Array TypeId}{bd:dp}{f:FuncId}{X:TypeId}{p:List St}{u:V}
structure ab6 where
 i:Nat
 r:Nat
 p:List St
 u:V
 n':Nat
 t:Ty
def GY(t:Ty)(n:Nat)(x:Operand):M (t.den×Nat×List St×V×Nat):=
 match x with
 | .tmp s=>.get s λv=>match v with
  | .view r p tv=>.get r λu=>(dn p u).bind λz =>
   if h:z.2.t=t then (if tv=t/\t.depth<=z.2.n/\t.depth<=n/\t.depth≠0/\z.1=none then .ret (h▸z.2.x,r,p,u,z.2.n)else .fail)else .fail
  | _=>.fail
 | _=>.fail
structure wV (ps:List (Ty×Mode)) where
 x:(cX ps).den
 ls:List Nat
 mu:List ab6
def kU(C:Ctx):Nat->(ps:List (Ty×Mode))->List Operand->M (wV ps)
 | _,[],[]=>.ret ⟨(),[],[]⟩
 | i,(t,.ro)::ps,x::xs=>(oV C t x).bind λy=>(kU C (i+1) ps xs).bind λr=>.ret ⟨(y.1,r.x),y.2++r.ls,r.mu⟩
 | i,(t,.mut n)::ps,x::xs=>(GY t n x).bind λy=>(kU C (i+1) ps xs).bind λr=>.ret ⟨(y.1,r.x),r.ls,⟨i,y.2.1,y.2.2.1,y.2.2.2.1,y.2.2.2.2,t⟩::r.mu⟩
 | _,_,_=>.fail
def b7(g:Nat->V->Bool):Nat->List V->List (Nat×V)
 | _,[]=>[]
 | i,v::l=>cond (g i v) ((i,.dead)::b7 g (i+1) l) (b7 g (i+1) l)
def mg(g:Nat->V->Bool):Nat->List V->Bool
 | _,[]=>true
 | i,v::l=>(!(g i v) || !v.aJ)&&mg g (i+1) l
def gT(r d:Nat)(u:V):Nat->V->Bool:=λz v=>v.on r&&z != r&&z != d && !pP u v
def He(C:Ctx)(bd:dp)(vs:List Nat)(N d:Nat)(f:FuncId)(args:List Operand):M (List (Nat×V)):=
 match bd f with
 | none=>.fail
 | some F=>(kU C 0 F.ps args).bind λA=>match A.mu,F.rs with
  | [m],[(t0,n0)]=>cond (A.ls.contains m.r || !decide (m.r<N) || !decide (t0.depth=0) || !decide (n0<1000)) .fail (.cD (.pair (cL F.rs) (cu F.ps)) (F.ao A.x) λres=>match lO vs [] F.rs res.1,su F.ps res.2 with
   | some (.d none n1 t1 x1),some (.d none _ t' y')=>if h:t'=m.t then
     (if t1.depth=0 then (fH m.p m.u m.t (h▸y')).bind λu2=>(allM 0 N).bind λTs=>.bj (mg (gT m.r d m.u) 0 Ts) (.ret (((m.r,u2)::b7 (gT m.r d m.u) 0 Ts)++[(d,.d none n1 t1 x1)]))else .fail)else .fail
   | _,_=>.fail)
  | _,_=>.fail
def Xa:List (Ty×Mode)->List Operand->Option Operand
 | (_,.ro)::ps,_::xs=>Xa ps xs
 | (_,.mut _)::_,x::_=>some x
 | _,_=>none
def Hi(C:Ctx)(bd:dp)(vs:List Nat)(N d:Nat)(f:FuncId)(args:List Operand):M (List (Nat×V)):=
 match bd f with
 | none=>.fail
 | some F=>match Xa F.ps args with
  | some (.tmp s)=>.get s λv=>match v with
   | .view r p _=>.get r λu=>cond (u.dj&&p.isEmpty) (uB C bd vs N d f args) (He C bd vs N d f args)
   | _=>uB C bd vs N d f args
  | _=>uB C bd vs N d f args
section
variable{P:Program}{C:Ctx}{w w' w0:World}{S S':Nat->Prop}{L L' L0:Nat->aj}{s N:Nat}{vs:List Nat}{T T':List V}{tm tm':Array Value}{a:Act}
theorem o7{g:Nat->V->Bool}:{i:Nat}->{l:List V}->(s:Nat)->(v:V)->((s,v)∈b7 g i l↔v = .dead/\i<=s/\s<i+l.length/\g s (l.getD (s - i) .dead)=true)
 | i,[],s,v=>by
  simp only[b7,List.not_mem_nil,false_iff]
  rintro⟨_,h1,h2,_⟩
  simp at h2;omega
 | i,x::l,s,v=>by
  have ih:=o7 (g:=g) (i:=i+1) (l:=l) s v;have e:∀h:i+1<=s,(x::l).getD (s - i) .dead=l.getD (s - (i+1)) .dead:=λh=>by
   rw[show s - i=(s - (i+1))+1 by omega];rfl
  unfold b7;cases hg:g i x with
  | true =>
   rw[cond_true,List.mem_cons,ih];constructor
   ·rintro (h|⟨h1,h2,h3,h4⟩)
    ·injection h with h1 h2;subst h1;refine⟨h2,Nat.le_refl _,by simp,by rw[Nat.sub_self];exact hg⟩
    ·exact⟨h1,by omega,by simp only[List.length_cons];omega,by rw[e h2];exact h4⟩
   ·rintro⟨h1,h2,h3,h4⟩
    by_cases hs:s=i
    ·left;rw[hs,h1]
    ·right;simp only[List.length_cons]at h3;refine⟨h1,by omega,by omega,by rw[<-e (by omega)];exact h4⟩
  | false =>
   rw[cond_false,ih];constructor
   ·rintro⟨h1,h2,h3,h4⟩
    exact⟨h1,by omega,by simp only[List.length_cons];omega,by rw[e h2];exact h4⟩
   ·rintro⟨h1,h2,h3,h4⟩
    by_cases hs:s=i
    ·subst hs;rw[Nat.sub_self]at h4;change g s x=true at h4;rw[hg]at h4;cases h4
    ·simp only[List.length_cons]at h3;refine⟨h1,by omega,by omega,by rw[<-e (by omega)];exact h4⟩
theorem By{g:Nat->V->Bool}:{i:Nat}->{l:List V}->mg g i l=true->∀s,s<l.length->g (i+s) (l.getD s .dead)=true->(l.getD s .dead).aJ=false
 | _,[],_,s,h,_=>by simp at h
 | i,x::l,hk,s,h,hg=>by
  simp only[mg,Bool.and_eq_true,Bool.or_eq_true,Bool.not_eq_true']at hk;cases s with
  | zero =>
   change g (i+0) x=true at hg;rw[Nat.add_zero]at hg;change x.aJ=false;rcases hk.1 with h1|h1
   ·rw[hg]at h1;cases h1
   ·exact h1
  | succ s =>
   simp only[List.length_cons]at h;exact By (g:=g) (i:=i+1) hk.2 s (by omega) (by rw[show i+1+s=i+(s+1)by omega];exact hg)
theorem Form.inj{t:Ty}{c1 c2:List Value}{c:Value}(h1:Form t c1 c)(h2:Form t c2 c):c1=c2:=by
 cases t with
 | agg t =>
  have h1:c = .agg c1.toArray:=h1;have h2:c = .agg c2.toArray:=h2;rw[h1]at h2;injection h2 with h2;simpa using congrArg Array.toList h2
 | _=>exact (show c1=[c]from h1).trans (show c2=[c]from h2).symm
theorem afz[ae](hI:Inv w0 L0 N vs T a w L){t:Ty}{y:t.den}{n':Nat}(h:(GY t n x).ai T (y,r,p,u,n') log):
  T.getD r .dead=u/\t.depth<=n'/\t.depth<=n/\t.depth≠0/\(∃log,(dn p u).ai T (none,⟨n',t,y⟩) log) /\
   ∃g cur e,L g = .own r (node [] 0 p).1/\w.heap[g]?=some (.cells cur e (0,0))/\Form t ((cur.toList.drop (node [] 0 p).2).take t.sz) (a.eval x)/\Own w L (SL L none) r n' t y (node [] 0 p).1 (node [] 0 p).2 ((cur.toList.drop (node [] 0 p).2).take t.sz):=by
 unfold GY at h;split at h
 ·rename_i s;obtain⟨aC,rfl,h⟩:=h;have hs:=hI.aV s;generalize hv:T.getD s .dead=v at h hs;dsimp only at h;split at h
  ·rename_i r' p' tv;obtain⟨log2,rfl,h⟩:=h;dsimp only at h;obtain⟨⟨l,k,t',x'⟩,l1,l2,rfl,h1,h⟩:=M.al h;dsimp only at h;split at h
   ·rename_i ht;subst ht;split at h
    ·rename_i hc;obtain⟨rfl,c1,c2,c3,rfl⟩:=hc;obtain⟨h,_⟩:=h;injection h with e1 e2;injection e2 with e2 e3;injection e3 with e3 e4;injection e4 with e4 e5;subst e1 e2 e3 e4 e5;have bb:=hI.aV r;obtain⟨⟨g,cur,e,k1,k2,k3,k4⟩,_,_,_,lh⟩:=kF h1 bb;refine⟨rfl,c1,c2,c3,⟨_,h1⟩,g,cur,e,k1,k2,?_,k4⟩;obtain⟨_,h2⟩:=hs;rcases h2 with⟨h2,_,l0,n0,x0,h3,_⟩|⟨g',cur',e',_,j1,j2,j3,j4⟩
     ·rw[h3]at lh;rcases lh with h|h
      ·simp[V.dj]at h
      ·exact absurd h2 h
     ·obtain rfl:=hI.inj g g' r _ k1 j1;rw[k2]at j2;injection j2 with j2;injection j2 with j2 _ _;subst j2;exact j4
    ·exact h.elim
   ·exact h.elim
  ·exact h.elim
 ·exact h.elim
theorem G0[ae](hI:Inv w0 L0 N vs T a w L):{ps:List (Ty×Mode)}->{i:Nat}->{xs:List Operand}->{A:wV ps}->{log:List Nat}->(kU C i ps xs).ai T A log ->
  (∀r∈A.ls,(T.getD r .dead).deep=true) /\
  (∀m∈A.mu,i<=m.i/\∃n y,ps[m.i - i]?=some (m.t,.mut n)/\m.t.depth<=n/\m.t.depth<=m.n'/\m.t.depth≠0/\T.getD m.r .dead=m.u/\(∃log,(dn m.p m.u).ai T (none,⟨m.n',m.t,y⟩) log) /\
   ∃g cur e c,L g = .own m.r (node [] 0 m.p).1/\w.heap[g]?=some (.cells cur e (0,0))/\(xs.map a.eval)[m.i - i]?=some c/\Form m.t ((cur.toList.drop (node [] 0 m.p).2).take m.t.sz) c) /\
  (∀j t n,ps[j]?=some (t,.mut n)->∃m∈A.mu,m.i=i+j) /\
  ∀L1:Nat->aj,(∀k,L k = .an->L1 k = .an)->(∀k r q,r∈A.ls->L k = .own r q->L1 k = .an) ->
   (∀k m z rest,m∈A.mu->L k = .own m.r ((node [] 0 m.p).1++((node [] 0 m.p).2+z)::rest)->z<m.t.sz->L1 k = .own m.i (z::rest))->dH w L1 i ps A.x (xs.map a.eval)
 | [],i,[],A,log,h=>by
  obtain⟨rfl,_⟩:=h;exact⟨by simp,by simp,by simp,λ_ _ _ _=>rfl⟩
 | (t,.ro)::ps,i,x::xs,A,log,h=>by
  simp only[kU]at h;obtain⟨⟨y,ls⟩,l1,l2,rfl,h1,h⟩:=M.al h;obtain⟨A',l3,l4,rfl,h2,h⟩:=M.al h;obtain⟨rfl,_⟩:=h;obtain⟨cells,k1,k2,k3⟩:=uv hI h1;obtain⟨j1,j2,j4,j3⟩:=G0 hI h2;refine⟨λr hr=>?_,λm hm=>?_,λj t' n hj=>?_,λL1 H1 H2 H3=>?_⟩
  ·rcases List.mem_append.1 hr with hr|hr
   ·exact k2 r hr
   ·exact j1 r hr
  ·obtain⟨hi,n',y',e1,e2,e3,e4,e5,e6,g,cur,e,c,f1,f2,f3,f4⟩:=j2 m hm;have:m.i - i=(m.i - (i+1))+1:=by omega
   exact⟨by omega,n',y',by rw[this];simpa using e1,e2,e3,e4,e5,e6,g,cur,e,c,f1,f2,by rw[this];simpa using f3,f4⟩
  ·cases j with
   | zero=>simp at hj
   | succ j =>
    obtain⟨m,hm,he⟩:=j4 j t' n (by simpa using hj);exact⟨m,hm,by omega⟩
  ·exact⟨a.eval x,_,cells,rfl,k1,Own.dw (k3 _ H1 (λk r q hr hk=>H2 k r q (List.mem_append_left _ hr) hk)),j3 L1 H1 (λk r q hr hk=>H2 k r q (List.mem_append_right _ hr) hk) H3⟩
 | (t,.mut n)::ps,i,x::xs,A,log,h=>by
  simp only[kU]at h;obtain⟨⟨y,r0,p0,u0,n0⟩,l1,l2,rfl,h1,h⟩:=M.al h;obtain⟨A',l3,l4,rfl,h2,h⟩:=M.al h;obtain⟨rfl,_⟩:=h;obtain⟨k1,k2,k3,k4,k5,g,cur,e,k6,k7,k8,k9⟩:=afz hI h1;obtain⟨j1,j2,j4,j3⟩:=G0 hI h2;refine⟨j1,λm hm=>?_,λj t' n' hj=>?_,λL1 H1 H2 H3=>?_⟩
  ·rcases List.mem_cons.1 hm with hm|hm
   ·subst hm;exact⟨Nat.le_refl _,n,y,by simp,k3,k2,k4,k1,k5,g,cur,e,a.eval x,k6,k7,by simp,k8⟩
   ·obtain⟨hi,n',y',e1,e2,e3,e4,e5,e6,g,cur,e,c,f1,f2,f3,f4⟩:=j2 m hm;have:m.i - i=(m.i - (i+1))+1:=by omega
    exact⟨by omega,n',y',by rw[this];simpa using e1,e2,e3,e4,e5,e6,g,cur,e,c,f1,f2,by rw[this];simpa using f3,f4⟩
  ·cases j with
   | zero=>exact⟨_,List.mem_cons_self ..,rfl⟩
   | succ j =>
    obtain⟨m,hm,he⟩:=j4 j t' n' (by simpa using hj);exact⟨m,List.mem_cons_of_mem _ hm,by omega⟩
  ·refine⟨a.eval x,_,_,rfl,k8,?_,j3 L1 H1 H2 (λk m z rest hm hk hz=>H3 k m z rest (List.mem_cons_of_mem _ hm) hk hz)⟩;refine Own.cap k2 k3 (Own.move (λk hk=>⟨?_,rfl⟩) (λk d rest hd hk=>⟨?_,rfl⟩) k9)
   ·rcases hk with hk|⟨_,_,hk,_⟩
    ·exact H1 k hk
    ·cases hk
   ·have:=H3 k ⟨i,r0,p0,u0,n0,t⟩ d rest (List.mem_cons_self ..) hk hd;simpa using this
 | [],_,_::_,_,_,h=>h.elim
 | (_,.ro)::_,_,[],_,_,h=>h.elim
 | (_,.mut _)::_,_,[],_,_,h=>h.elim
 | (_,.ptr _)::_,_,[],_,_,h=>h.elim
 | (_,.ptr _)::_,_,_::_,_,_,h=>h.elim
 | (_,.bP _)::_,_,[],_,_,h=>h.elim
 | (_,.bP _)::_,_,_::_,_,_,h=>h.elim
theorem GZ{C:Ctx}:{ps:List (Ty×Mode)}->{i:Nat}->{xs:List Operand}->{A:wV ps}->{log:List Nat}->(kU C i ps xs).ai T A log->∀(j:Nat) (t:Ty) (n:Nat),ps[j]?≠some (t,.ptr n)
 | [],_,_,_,_,_,j,t,n=>by simp
 | (t0,.ro)::ps,i,x::xs,A,log,h,j,t,n=>by
  simp only[kU]at h;obtain⟨_,_,_,_,_,h⟩:=M.al h;obtain⟨_,_,_,_,h2,_⟩:=M.al h;cases j with
  | zero=>simp
  | succ j=>simpa using GZ h2 j t n
 | (t0,.mut n0)::ps,i,x::xs,A,log,h,j,t,n=>by
  simp only[kU]at h;obtain⟨_,_,_,_,_,h⟩:=M.al h;obtain⟨_,_,_,_,h2,_⟩:=M.al h;cases j with
  | zero=>simp
  | succ j=>simpa using GZ h2 j t n
 | (_,.ro)::_,_,[],_,_,h,_,_,_=>h.elim
 | (_,.mut _)::_,_,[],_,_,h,_,_,_=>h.elim
 | (_,.ptr _)::_,_,[],_,_,h,_,_,_=>h.elim
 | (_,.ptr _)::_,_,_::_,_,_,h,_,_,_=>h.elim
 | (_,.bP _)::_,_,[],_,_,h,_,_,_=>h.elim
 | (_,.bP _)::_,_,_::_,_,_,h,_,_,_=>h.elim
theorem afA[ae]{C:Ctx}{ps:List (Ty×Mode)}{xs:List Operand}{A:wV ps}(h:(kU C i ps xs).ai T A log){j:Nat}{t:Ty}{m:Mode}(hj:ps[j]?=some (t,m))(hm:m.back=true):∃n,m = .mut n:=by
 match m,hj,hm with
 | .ro,_,hm=>cases hm
 | .bP _,_,hm=>cases hm
 | .mut n,_,_=>exact⟨n,rfl⟩
 | .ptr n,hj,_=>exact absurd hj (GZ h j t n)
theorem alG[ae](hI:Inv w0 L0 N vs T a w L)(dN:fO P bd){d:Nat}  
  (ho:o.op = .call { callee:=.value (.func f),args,argTypes:=cA }) (aw:o.dst=some d) (hd:d<N) (hid:(T.getD d .dead).idle=true)
  (h:(He C bd vs N d f args.toList).ai T ups log):Step P o w0 L0 N vs (ag T ups) a w:=by
 unfold He at h;split at h
 ·exact h.elim
 ·rename_i F hF;obtain⟨⟨fn,gZ,fT,mq⟩,aI⟩:=dN f F hF;have hb:=M.al h;clear h;obtain⟨A,l1,l2,rfl,h1,h⟩:=hb;obtain⟨dT,fS,px,gz⟩:=G0 hI h1;have aM:=Go.Conc.run_call_body (P:=P) (a:=a) (w:=w) ho gZ fT mq;obtain⟨xb,Frs,aph⟩:=F;dsimp only at h gz px fS aI A;split at h
  ·rename_i m t0 n0 hA;cases hc:(A.ls.contains m.r || !decide (m.r<N) || !decide (t0.depth=0) || !decide (n0<1000))with
   | true=>rw[hc]at h;exact h.elim
   | false =>
    rw[hc]at h;simp only[Bool.or_eq_false_iff,Bool.not_eq_false',decide_eq_true_eq]at hc;obtain⟨⟨⟨dS,c7⟩,II⟩,hG⟩:=hc;have iN:m.r∉A.ls:=λhm=>by rw[List.contains_iff_mem.2 hm]at dS;cases dS
    obtain⟨res,eK,h⟩:=h;dsimp only at h;split at h
    ·rename_i n1 t1 x1 n2 t' y' hv pG;split at h
     ·rename_i IK;subst IK;split at h
      ·rename_i ht1;obtain⟨u2,l3,l4,rfl,gE,h⟩:=M.al h;obtain⟨Ts,l5,l6,rfl,dC,iK,mU⟩:=M.al h;obtain⟨rfl,_⟩:=mU;have bH:Ts=T:=by rw[kS dC (by rw[Nat.zero_add,hI.len])];rfl
       subst bH;obtain⟨_,n,y,h2,h3,h4,h5,h6,⟨apO,hz⟩,g0,cur,e,c,k1,k2,k3,k4⟩:=fS m (by rw[hA];simp);simp only[Nat.sub_zero]at h2 k3;have rY:m.i<xb.length:=(List.getElem?_eq_some_iff.1 h2).1;have iM:∀(j:Nat) (t:Ty) (n:Nat),xb[j]?=some (t,Mode.mut n)->j=m.i:=by
        intro j t n hj;obtain⟨m',bV,he⟩:=px j t n hj;rw[hA]at bV;rw[List.mem_singleton.1 bV]at he;omega
       have bb:=hI.aV m.r;rw[h6]at bb;obtain⟨_,_,_,gG,_⟩:=kF hz bb;have bz:m.r≠d:=cW hid (by rw[h6];exact gG);have mC:jm w (λk=>jV m.r (node [] 0 m.p).1 (node [] 0 m.p).2 m.t.sz m.i A.ls (L k)) xb:=by
        refine⟨λk hk=>by rw[hI.free k hk];rfl,λk k' s q h h'=>?_,λk s q h=>?_,ae.aR hI.fr.gy λk hk h0=>⟨?_,(hI.fr.aR k hk h0).2⟩⟩
        ·obtain⟨y1,r1,e1,e2,e3⟩:=Ks h;obtain⟨y2,r2,e4,e5,e6⟩:=Ks h';rw[e2]at e5;injection e5 with e5 e7;subst e5 e7;exact hI.inj k k' _ _ e3 e6
        ·obtain⟨y1,r1,rfl,e2,e3⟩:=Ks h;exact⟨m.t,.mut n,h2,by simp only[Mode.owned,Bool.and_eq_true,bne_iff_ne];omega⟩
        ·rw[(hI.fr.aR k hk h0).1];rcases h0 with h0|h0<;>rw[h0]<;>simp[jV]
       have dt:=gz (λk=>jV m.r (node [] 0 m.p).1 (node [] 0 m.p).2 m.t.sz m.i A.ls (L k)) (λk hk=>by rw[hk];rfl) (λk r q hr hk=>by
        rw[hk];unfold jV;dsimp only;rw[if_neg (λe0:r=m.r=>iN (by rw[<-e0];exact hr)),if_pos (by simpa using hr)]) (λk m' z rest bV hk bT=>by
        rw[hA]at bV;obtain rfl:=List.mem_singleton.1 bV;rw[hk];exact amn bT)
       intro K Q hK;unfold Oper.wp;rw[aM,Oper.upon_enter];refine Calls.mono (aI A.x res eK w _ (args.map a.eval) mC (by simpa using dt)) ?_
       rintro e' w' ⟨cs,L',rfl,a7,b8,jC⟩
       dsimp only;rw[aw];have iG:ag Ts (((m.r,u2)::b7 (gT m.r d m.u) 0 Ts)++[(d,V.d none n1 t1 x1)])=(ag Ts ((m.r,u2)::b7 (gT m.r d m.u) 0 Ts)).set d (V.d none n1 t1 x1):=by
        rw[kH];rfl
       have mD:(ag Ts ((m.r,u2)::b7 (gT m.r d m.u) 0 Ts)).length=N:=by rw[ct,hI.len]
       have bn:∀s,s≠d->(ag Ts (((m.r,u2)::b7 (gT m.r d m.u) 0 Ts)++[(d,V.d none n1 t1 x1)])).getD s .dead=(ag Ts ((m.r,u2)::b7 (gT m.r d m.u) 0 Ts)).getD s .dead:=by
        intro s hs;rw[iG,aF,if_neg (λe=>hs e.1)]
       have ee:∀s v,(s,v)∈((m.r,u2)::b7 (gT m.r d m.u) 0 Ts)->(s=m.r/\v=u2)\/(v = .dead/\s≠m.r/\gT m.r d m.u s (Ts.getD s .dead)=true):=by
        intro s v bV;rcases List.mem_cons.1 bV with bV|bV
        ·injection bV with h1 h2;exact .inl ⟨h1,h2⟩
        ·obtain⟨h1,_,_,h2⟩:=(o7 s v).1 bV;simp only[Nat.sub_zero]at h2;refine .inr ⟨h1,?_,h2⟩
         rintro rfl
         simp[gT]at h2
       have bB:(ag Ts ((m.r,u2)::b7 (gT m.r d m.u) 0 Ts)).getD m.r .dead=u2:=by
        refine gS (by rw[hI.len];exact c7) (by simp) (λv bV=>?_);rcases ee m.r v bV with⟨_,h⟩|⟨_,h,_⟩
        ·exact h
        ·exact absurd rfl h
       have pv:∀s,s≠d->s≠m.r->(Ts.getD s .dead).on m.r=true->gT m.r d m.u s (Ts.getD s .dead) = !pP m.u (Ts.getD s .dead):=by
        intro s h1 h2 h3;unfold gT;rw[h3];simp[h1,h2]
       refine hK _ _ _ (Inv.afL (d:=d) (c:=oq cs) (V0:=V.d none n1 t1 x1) hI hd hid h6 hz gE h3 h4 k1 k2 a7 ?_ ?_ (by rw[ct,hI.len]) ?_ ?_ (λr=>rfl) ?_ ?_ ?_)
       ·intro k s q hk;rcases a7.owner k s q hk with⟨_,t,n,h,h9⟩|⟨t,md,h,hmd⟩
        ·simp only[List.mem_singleton,Prod.mk.injEq]at h;rcases h9 with h9|h9
         ·exact absurd (by rw[h.1];exact II) h9.2
         ·omega
        ·obtain⟨n,rfl⟩:=afA h1 h hmd;exact iM s t n h
       ·have aho:fC w' L' 0 xb res.2 (args.toList.map a.eval):=by simpa using jC
        obtain⟨j,t',n',y9,c',cells,m1,m2,m3,m4,m5⟩:=JB aho pG;have cH:=iM j t' n' m1;subst cH;rw[h2]at m1;injection m1 with m1;injection m1 with m1 kA;injection kA with kA;subst kA;cases m2;rw[k3]at m3;injection m3 with m3;subst m3;rw[Nat.zero_add]at m5;have:cells=(cur.toList.drop (node [] 0 m.p).2).take m.t.sz:=Form.inj m4 k4;rw[<-this];exact m5
       ·rw[bn m.r bz,bB]
       ·rw[iG,aF,if_pos ⟨rfl,by rw[mD];exact hd⟩]
       ·intro L2 tm';have Cb:=b8;have Cb:=(jn.low (rs:=[(t0,n0)]) (decide_eq_true hG)).1 Cb;simp only[iz]at Cb;obtain⟨c',bf,cells,rfl,r1,r2,rfl⟩:=Cb;have cI:some (V.d none n0 t0 res.1.1)=some (V.d none n1 t1 x1):=by
         simp only[lO]at hv
         rwa [if_neg (by omega),if_pos (by rw[II];exact Nat.zero_le _)]at hv
        cases cI;exact⟨by simp,cells,r1,Own.flat II r2⟩
       ·intro z hY du af;rw[bn z hY];have og:z<N:=by
         rcases Nat.lt_or_ge z N with h|h
         ·exact h
         ·rw[dZ (by rw[hI.len];exact h)]at af;simp[V.on,V.root]at af
        have B3:=pv z hY du af;cases hk:pP m.u (Ts.getD z .dead)with
        | true =>
         refine .inr ⟨eI _ _ _ (λbV=>?_),rfl⟩;obtain⟨uu,hu,he⟩:=List.mem_map.1 bV;rcases ee z uu.2 (by rw[<-he];exact hu)with⟨h,_⟩|⟨_,_,h⟩
         ·exact du h
         ·rw[B3,hk]at h;cases h
        | false =>
         rw[hk]at B3;refine .inl ⟨gS (by rw[hI.len];exact og) ?_ (λv bV=>?_),?_⟩
         ·rw[List.mem_map];exact⟨(z,.dead),List.mem_cons_of_mem _ ((o7 z .dead).2 ⟨rfl,Nat.zero_le _,by rw[Nat.zero_add,hI.len];exact og,by rw[Nat.sub_zero];exact B3⟩),rfl⟩
         ·rcases ee z v bV with⟨h,_⟩|⟨h,_⟩
          ·exact absurd h du
          ·exact h
         ·exact By iK z (by rw[hI.len];exact og) (by rw[Nat.zero_add];exact B3)
       ·intro z hY du af;rw[bn z hY];refine eI _ _ _ (λbV=>?_);obtain⟨uu,hu,he⟩:=List.mem_map.1 bV;rcases ee z uu.2 (by rw[<-he];exact hu)with⟨h,_⟩|⟨_,_,h⟩
        ·exact du h
        ·unfold gT at h;rw[af]at h;simp at h
      ·exact h.elim
     ·exact h.elim
    ·exact h.elim
  ·exact h.elim
theorem alK[ae](hI:Inv w0 L0 N vs T a w L)(dN:fO P bd)       
  (ho:o.op = .call { callee:=.value (.func f),args,argTypes:=cA }) (aw:o.dst=some d) (hd:d<N) (hid:(T.getD d .dead).idle=true)
  (h:(Hi C bd vs N d f args.toList).ai T ups log):Step P o w0 L0 N vs (ag T ups) a w:=by
 unfold Hi at h;split at h
 ·exact h.elim
 ·split at h
  ·rename_i s _;obtain⟨eA,rfl,h⟩:=h;generalize T.getD s .dead=v at h;dsimp only at h;split at h
   ·obtain⟨log2,rfl,h⟩:=h;dsimp only at h;generalize (V.dj _&&List.isEmpty _)=b at h;cases b with
    | true=>exact Km hI dN ho aw hd hid h
    | false=>exact alG hI dN ho aw hd hid h
   ·exact Km hI dN ho aw hd hid h
  ·exact Km hI dN ho aw hd hid h
end
def mV:List St->Nat
 | []=>0
 | .aZ _ _::p=>mV p
 | .idx _ _::p=>mV p+1
theorem CI:{p:List St}->{q:List Nat}->{o:Nat}->(node q o p).1.length=q.length+mV p
 | [],_,_=>rfl
 | .aZ _ _::p,_,_=>CI (p:=p)
 | .idx sz i::p,q,o=>by
  have:=CI (p:=p) (q:=q++[o]) (o:=i.toNat*sz);simp only[node,mV];rw[this];simp only[List.length_append,List.length_singleton];omega
def v8(n r:Nat)(v:V):Bool := !v.dY r||(match v with
 | .ptr _ _ _=>true
 | .view _ p _=>decide (mV p<n)
 | _=>false)
def Ja{α:Type}(n r:Nat):List Nat->M α->M α
 | [],m=>m
 | k::l,m=>.get k λv=>.bj (v8 n r v) (Ja n r l m)
def Kn(C:Ctx)(N:Nat)(kids:List Nat)(X:TypeId)(r:Nat)(p:List St)(u:V)(x:Operand)(m:M (List (Nat×V))):M (List (Nat×V)):=
 (dn p u).bind λz =>
  if z.2.t.depth=0/\u.eY=true/\shallow p=false/\C.ty X=some z.2.t/\(u.root != some r)=true/\r<N/\r<100000 then
   (cC C X x).bind λv=>match v with
   | .d none _ t' y=>if h:t'=z.2.t then (fH p u z.2.t (h▸y)).bind λu'=>Ja (mV p) r kids (.ask (uA r (iU false (r::kids))) (.ret [(r,u')]))else .fail
   | _=>.fail
  else m
section
variable{P:Program}{C:Ctx}{w w' w0:World}{S S':Nat->Prop}{L L' L0:Nat->aj}{s N:Nat}{vs:List Nat}{T T':List V}{tm tm':Array Value}{a:Act}
theorem Wt{α:Type}{m:M α}{x:α}:{l:List Nat}->{log:List Nat}->(Ja n r l m).ai T x log->(∀k∈l,v8 n r (T.getD k .dead)=true)/\∃aC,m.ai T x aC
 | [],log,h=>⟨by simp,log,h⟩
 | k::l,log,h=>by
  obtain⟨aC,rfl,hc,h⟩:=h;obtain⟨h1,h2⟩:=Wt (l:=l) h;refine⟨λk' aG=>?_,h2⟩;rcases List.mem_cons.1 aG with rfl|aG
  ·exact hc
  ·exact h1 k' aG
theorem alZ[ae](hI:Inv w0 L0 N vs T a w L)(hC:bA P C){u:V}{m:M (List (Nat×V))}(ho:o.op = .store X (.tmp t) x)(aw:o.dst=none)
  (ht:addrOf t (T.getD t .dead)=some (r,p)) (cN:∀r p,addrOf t (T.getD t .dead)=some (r,p)->∃g,a.eval (.tmp t) = .pointer (some ⟨g,(node [] 0 p).2,none⟩)/\L g = .own r (node [] 0 p).1)
  (hr:T.getD r .dead=u) (h:(Kn C N kids X r p u x m).ai T ups log) (hm:∀log,m.ai T ups log->Step P o w0 L0 N vs (ag T ups) a w):Step P o w0 L0 N vs (ag T ups) a w:=by
 obtain⟨⟨l,n',t',x'⟩,l1,l2,rfl,hz,h⟩:=M.al h;dsimp only at h;split at h
 ·rename_i hc;obtain⟨hd,Cc,UR,hX,lC,c7,IC⟩:=hc;clear hm;obtain⟨v,l3,l4,rfl,hv,h⟩:=M.al h;split at h
  ·rename_i k tv y;split at h
   ·rename_i pE;subst pE;obtain⟨u',l5,l6,rfl,vi,h⟩:=M.al h;obtain⟨Im,log2,h⟩:=Wt h;obtain⟨⟨hq,_⟩,fq,rfl,h⟩:=h;obtain⟨rfl,_⟩:=h;have aI:∀z,z≠r->v8 (mV p) r (T.getD z .dead)=true:=by
     intro z hz;by_cases hm:z∈kids
     ·exact Im z hm
     ·have:=G6 IC hq z (vQ (by simp[hz,hm]));rw[vR]at this;have this:(T.getD z .dead).dY r=false:=this;unfold v8;rw[this];rfl
    obtain⟨g,pt,hg⟩:=cN r p ht;have bb:=hI.aV r;rw[hr]at bb;obtain⟨⟨g',cur,e,k1,k2,k3,k4⟩,_,_,gG,lh⟩:=kF hz bb;obtain rfl:=hI.inj g g' r _ hg k1;have mT:u.dj=false:=by cases u<;>simp[V.eY,V.dj]at Cc ⊢
    have dO:∃cs s0,Form tv cs (a.eval x)/\Own w L (SL L none) s0 k tv y [] 0 cs:=by
     rcases jO hI hv with⟨s,rfl,_,hs⟩|⟨_,hs⟩
     ·obtain⟨_,cs,hf,bO⟩:=hs;exact⟨cs,s,hf,bO⟩
     ·obtain⟨_,cs,hf,bO⟩:=hs L T a.tmps 0 w;exact⟨cs,0,hf,bO⟩
    obtain⟨cs,s0,hf,bO⟩:=dO;have dL:=Own.one bO;have hlen:=Own.len bO;have aM:(execOp a.eval o).run P w = .ok .skip (w.setRow g (putCells cur (node [] 0 p).2 cs)):=by
     simp[execOp,ho,pt,sF (hC X _ hX) k2 hf dL hlen k3]
    have bB:(ag T [(r,u')]).getD r .dead=u':=by
     show (T.set r u').getD r .dead=u';rw[aF,if_pos ⟨rfl,by rw[hI.len];exact c7⟩]
    have bn:∀z,z≠r->(ag T [(r,u')]).getD z .dead=T.getD z .dead:=by
     intro z hz;show (T.set r u').getD z .dead=_;rw[aF,if_neg (λh=>hz h.1)]
    intro K Q hK;unfold Oper.wp;rw[aM,Oper.upon_skip,aw];refine hK a _ _ (Inv.store (m:=n') (src:=none) hI hr hz vi (by simpa using lC) hg k2 k3 hlen (by simp) (by rw[ct,hI.len]) bB ?_ (λz hz _ _=>bn z hz) (Own.flat hd bO));intro z hz _ af;refine .inr ⟨bn z hz,?_⟩;have hk:=aI z hz;unfold v8 V.dY at hk;rw[af,Bool.true_and]at hk;generalize T.getD z .dead=vz at hk af;cases vz with
    | ptr r2 p2 t2=>exact .inl rfl
    | view r2 p2 t2 =>
     have:r2=r:=by simpa[V.on,V.root]using af
     subst this;refine .inr ⟨rfl,UR,mT,p2,t2,rfl,λhe=>?_⟩;have hk:mV p2<mV p:=by simpa using hk
     have:=congrArg List.length he;rw[CI,CI]at this;omega
    | _=>simp at hk
   ·exact h.elim
  ·exact h.elim
 ·exact hm _ h
end
def kL(r:Nat)(q:List Nat)(o sz s:Nat):Nat->List Nat->aj:=λz q2 =>
 if z=r then match cut q q2 with
  | some (y::rest)=>if o<=y/\y<o+sz then .own s ((y - o)::rest)else .own r q2
  | _=>.own r q2
 else if z=s then .other else .own z q2
def JM(r:Nat)(v:V):Bool := !v.on r||(match v with
 | .same _ _=>true
 | .ptr _ [.idx _ _] _=>true
 | _=>false)
def CK(r:Nat):List V->Bool
 | []=>true
 | v::l=>JM r v&&CK r l
def CG(r:Nat):List V->Bool
 | []=>true
 | v::l => !v.on r&&CG r l
def S7(C:Ctx)(N:Nat)(X:TypeId)(d r sz:Nat)(i:Int)(n:Nat):(ty:Ty)->ty.den->M (List (Nat×V))
 | .pair (.int k) (.slice e te),x=>if C.ty X=some te/\te.depth≠0/\n≠0/\sz=te.sz/\d<N/\r<N/\d≠r then
   .get d λvd=>.bj (vd.idle&&decide (x.1<=i)) (.cD te (ab x.2 i) λy=>(allM 0 N).bind λTs=>.bj (CK r Ts) (.ret [(r,.bN 0 n (.pair (.int k) (.slice e te)) (i+1,x.2)),(d,.d none n te y)]))
  else .fail
 | _,_=>.fail
def HC(C:Ctx)(N:Nat)(X:TypeId)(d t:Nat):M (List (Nat×V)):=
 .get t λv=>match v with
 | .ptr r [.idx sz i] _=>.get r λu=>match u with
  | .bN 0 n ty x=>S7 C N X d r sz i n ty x
  | _=>.fail
 | _=>.fail
def uG(vs:List Nat)(N d:Nat)(fl:Bool)(x:Operand)(m:M (List (Nat×V))):M (List (Nat×V)):=
 match x with
 | .tmp s=>.get s λv=>match v with
  | .bN 0 _ (.pair (.int _) t) _=>.get d λvd=>.bj (vd.idle&&decide (d<N)&&vs.contains s) (.ret [(d,.same s t)])
  | .d none (n+1) (.slice e t) xs=>cond fl (if d<N/\s<N/\d≠s then .get d λvd=>.bj (vd.idle&&vs.contains s) ((allM 0 N).bind λTs=>.bj (CG s Ts) (.ret [(s,.bN 0 n (.pair (.int .i64) (.slice e t)) ((0:Int),xs)),(d,.same s (.slice e t))]))else .fail) m
  | _=>m
 | _=>m
def S6(C:Ctx)(X:TypeId)(d:Nat):(ty:Ty)->ty.den->M (List (Nat×V))
 | .pair (.int _) (.slice e te),x=>if C.ty X=some (.slice e te)then .ret [(d,.d none 0 (.int .i64) (x.2.length:Int))]else .fail
 | _,_=>.fail
def HB(C:Ctx)(d:Nat)(l:List Operand)(cA:List TypeId)(m:M (List (Nat×V))):M (List (Nat×V)):=
 match l,cA with
 | [.tmp t],[X]=>.get t λv=>match v with
  | .same r _=>.get r λu=>match u with
   | .bN 0 _ ty x=>S6 C X d ty x
   | _=>m
  | _=>m
 | _,_=>m
def S5(C:Ctx)(vs:List Nat)(X:TypeId)(d r:Nat)(i:Int):(ty:Ty)->ty.den->M (List (Nat×V))
 | .pair (.int _) (.slice _ te),x=>if ow C X=some te then .cD te (ab x.2 i) λ_=>.bj (vs.contains r) (.ret [(d,.ptr r [.idx te.sz i] te)])else .fail
 | _,_=>.fail
def HA(C:Ctx)(vs:List Nat)(X:TypeId)(d t:Nat)(y:Operand)(m:M (List (Nat×V))):M (List (Nat×V)):=
 .get t λv=>match v with
 | .same r _=>.get r λu=>match u with
  | .bN 0 _ ty x=>(cC C 0 y).bind λz=>match z with
   | .d _ _ (.int _) i=>S5 C vs X d r i ty x
   | _=>.fail
  | _=>m
 | _=>m
section
variable{P:Program}{C:Ctx}{w w' w0:World}{S S':Nat->Prop}{L L' L0:Nat->aj}{s N:Nat}{vs:List Nat}{T T':List V}{tm tm':Array Value}{a:Act}
theorem sS[ae]{s:Nat}{o:Nat}{z:Nat}{q2:List Nat}{z':Nat}{q3:List Nat}(h:kL r q o sz s z q2 = .own z' q3):
  (z=r/\∃i rest,i<sz/\q2=q++(o+i)::rest/\z'=s/\q3=i::rest)\/(z=r/\z'=r/\q3=q2/\∀i rest,i<sz->q2≠q++(o+i)::rest)\/(z≠r/\z≠s/\z'=z/\q3=q2):=by
 unfold kL at h;split at h
 ·rename_i hz;split at h
  ·rename_i y rest hc;split at h
   ·rename_i hy;injection h with h1 h2;refine .inl ⟨hz,y - o,rest,by omega,?_,h1.symm,h2.symm⟩;rw[nM hc];congr 2;omega
   ·rename_i hy;injection h with h1 h2;refine .inr (.inl ⟨hz,h1.symm,h2.symm,λi fc hi he=>?_⟩);rw[he,me]at hc;simp only[Option.some.injEq,List.cons.injEq]at hc;omega
  ·rename_i cj;injection h with h1 h2;refine .inr (.inl ⟨hz,h1.symm,h2.symm,λi fc _ he=>?_⟩);exact cj (o+i) fc (by rw[he,me])
 ·rename_i hz;split at h
  ·cases h
  ·rename_i hs;injection h with h1 h2;exact .inr (.inr ⟨hz,hs,h1.symm,h2.symm⟩)
theorem amj[ae]{s:Nat}{o:Nat}{X:Nat->Prop}(hr:X r)(hs:X s)(hM:r≠s):fi (kL r q o sz s) X:=by
 refine⟨λz q2 hX=>?_,λz q2 z' q3 hX h=>?_,λz q2 z2 q3 z' q4 h1 h2=>?_,λz q2=>?_⟩
 ·unfold kL;rw[if_neg (λe:z=r=>hX (e▸hr)),if_neg (λe:z=s=>hX (e▸hs))]
 ·rcases sS h with⟨_,_,_,_,_,rfl,_⟩|⟨_,rfl,_⟩|⟨_,_,rfl,_⟩
  ·exact hs
  ·exact hr
  ·exact hX
 ·rcases sS h1 with⟨rfl,i,rest,_,rfl,rfl,rfl⟩|⟨rfl,rfl,rfl,hn⟩|⟨g1,g2,rfl,rfl⟩
  ·rcases sS h2 with⟨rfl,i',fc,_,rfl,_,he⟩|⟨rfl,he,_⟩|⟨_,g2,he,_⟩
   ·injection he with mv he;exact⟨rfl,by rw[he,mv]⟩
   ·exact absurd he.symm hM
   ·exact absurd he.symm g2
  ·rcases sS h2 with⟨_,i',fc,_,_,he,_⟩|⟨rfl,_,he,_⟩|⟨g1,_,he,_⟩
   ·exact absurd he hM
   ·exact⟨rfl,he⟩
   ·exact absurd he.symm g1
  ·rcases sS h2 with⟨_,i',fc,_,_,he,_⟩|⟨_,he,_⟩|⟨_,_,h3,h4⟩
   ·exact absurd he g2
   ·exact absurd he g1
   ·exact⟨h3,h4⟩
 ·unfold kL
  repeat' split
  all_goals simp
theorem ami[ae]{s:Nat}{o:Nat}{rest:List Nat}(hi:i<sz):kL r q o sz s r (q++(o+i)::rest) = .own s (i::rest):=by
 unfold kL;rw[if_pos rfl,me];dsimp only;rw[if_pos ⟨by omega,by omega⟩,show o+i - o=i by omega]
theorem amk[ae]{s:Nat}{o:Nat}{q2:List Nat}(h:∀i rest,i<sz->q2≠q++(o+i)::rest):kL r q o sz s r q2 = .own r q2:=by
 unfold kL;rw[if_pos rfl];split
 ·rename_i y rest hc;split
  ·rename_i hy;exact absurd (nM hc) (by
    have:=h (y - o) rest (by omega)
    rwa [show o+(y - o)=y by omega]at this)
  ·rfl
 ·rfl
theorem akq{l:List V}(h:CK r l=true)(z:Nat):JM r (l.getD z .dead)=true:=by
 induction l generalizing z with
 | nil=>rfl
 | cons v l ih =>
  simp only[CK,Bool.and_eq_true]at h;cases z with
  | zero=>exact h.1
  | succ z=>exact ih h.2 z
theorem akg{l:List V}(h:CG r l=true)(z:Nat):(l.getD z .dead).on r=false:=by
 induction l generalizing z with
 | nil=>rfl
 | cons v l ih =>
  simp only[CG,Bool.and_eq_true,Bool.not_eq_true']at h;cases z with
  | zero=>exact h.1
  | succ z=>exact ih h.2 z
theorem aj3[ae](hI:Inv w0 L0 N vs T a w L){z:Nat}(h:T.getD z .dead ≠ .dead):z<N:=by
 rcases Nat.lt_or_ge z N with h1|h1
 ·exact h1
 ·exact absurd (dZ (by rw[hI.len];exact h1)) h
theorem alc[ae](hI:Inv w0 L0 N vs T a w L){x:Operand}{s:Nat}{k:IntKind}{t:Ty}{y:(Ty.pair (.int k) t).den}(ho:pO o (.tmp s))(hid:(T.getD d .dead).idle=true)(hs:T.getD s .dead = .bN 0 n (.pair (.int k) t) y)(hv:s∈vs):
  aK P o vs T a w L d (.same s t):=by
 have bK:s≠d:=cW hid (by rw[hs];rfl);refine⟨a.tmps.getD s undef,w,L,sE ho,dQ.refl hI d,λk q hk h=>(by rw[hI.free k hk]at h;cases h),λr hr=>?_,?_,n,k,y,?_⟩
 ·have:s=r:=by simpa[V.on,V.root]using hr
  exact this▸hv
 ·rw[dK,if_neg (λh=>bK h.1)]
 ·rw[aF,if_neg (λh=>bK h.1),hs]
theorem alT[ae](hI:Inv w0 L0 N vs T a w L){x:Operand}{fl:Bool}(ho:pO o x)(aw:o.dst=some d)
  (h:(uG vs N d fl x m).ai T ups log) (hm:∀log,m.ai T ups log->Step P o w0 L0 N vs (ag T ups) a w):Step P o w0 L0 N vs (ag T ups) a w:=by
 unfold uG at h;split at h
 ·rename_i s;obtain⟨aC,rfl,h⟩:=h;generalize hv:T.getD s .dead=v at h;dsimp only at h;split at h
  ·rename_i n k t y;obtain⟨l2,rfl,hc,h⟩:=h;simp only[Bool.and_eq_true,decide_eq_true_eq]at hc;obtain⟨rfl,_⟩:=h;intro K Q hK;exact aK.inv hI hc.1.2 hc.1.1 aw (alc (x:=.tmp s) hI ho hc.1.1 hv (List.contains_iff_mem.1 hc.2)) hK
  ·rename_i n e t xs;cases fl with
   | false=>exact hm _ h
   | true =>
    rw[cond_true]at h;split at h
    ·rename_i hc;obtain⟨pr,bX,gY⟩:=hc;obtain⟨l2,rfl,hid,h⟩:=h;obtain⟨Ts,l3,l4,rfl,dC,cj,h⟩:=M.al h;obtain⟨rfl,_⟩:=h;have bH:Ts=T:=by rw[kS dC (by rw[Nat.zero_add,hI.len])];rfl
     subst bH;simp only[Bool.and_eq_true]at hid;have Ur:=hid.1;have bc:s∈vs:=List.contains_iff_mem.1 hid.2;have hR:=hI.aV s;rw[hv]at hR;obtain⟨_,cs,hf,bO⟩:=hR;have bQ:(ag Ts [(s,V.bN 0 n (.pair (.int .i64) (.slice e t)) ((0:Int),xs)),(d,.same s (.slice e t))]).getD d .dead = .same s (.slice e t):=by
      show ((Ts.set s _).set d _).getD d .dead=_;rw[aF,if_pos ⟨rfl,by simp[hI.len,pr]⟩]
     have bH:(ag Ts [(s,V.bN 0 n (.pair (.int .i64) (.slice e t)) ((0:Int),xs)),(d,.same s (.slice e t))]).getD s .dead = .bN 0 n (.pair (.int .i64) (.slice e t)) ((0:Int),xs):=by
      show ((Ts.set s _).set d _).getD s .dead=_;rw[aF,if_neg (λh=>gY h.1.symm),aF,if_pos ⟨rfl,by rw[hI.len];exact bX⟩]
     have bn:∀z,z≠d->z≠s->(ag Ts [(s,V.bN 0 n (.pair (.int .i64) (.slice e t)) ((0:Int),xs)),(d,.same s (.slice e t))]).getD z .dead=Ts.getD z .dead:=by
      intro z h1 h2;show ((Ts.set s _).set d _).getD z .dead=_;rw[aF,if_neg (λh=>h1 h.1),aF,if_neg (λh=>h2 h.1)]
     refine Step.value (L':=L) aw (sE ho) ?_;have vq:(a.put (some d) (a.eval (.tmp s))).tmps.getD d undef=a.tmps.getD s undef:=by
      show (a.tmps.setIfInBounds d _).getD d undef=_;rw[dK,if_pos ⟨rfl,by rw[hI.size];exact pr⟩];rfl
     have mM:∀z,z≠d->(a.put (some d) (a.eval (.tmp s))).tmps.getD z undef=a.tmps.getD z undef:=λz hz=>jQ (by simpa using Ne.symm hz);refine Inv.upd (λz=>z=s\/z=d) hI (by simp[Act.put,hI.size]) (by rw[ct,hI.len]) hI.dB hI.fr hI.free hI.inj ?_ (λ_ _ _ _=>⟨rfl,rfl⟩) ?_ ?_ ?_ ?_
     ·intro k z q hk;by_cases h1:z=d
      ·subst h1;have:=hI.owner k z q hk;rw[V.jN Ur]at this;cases this
      ·by_cases h2:z=s
       ·subst h2;rw[bH];rfl
       ·rw[bn z h1 h2];exact hI.owner k z q hk
     ·intro z hz;have hz:=not_or.1 hz;exact⟨bn z hz.2 hz.1,mM z hz.2⟩
     ·intro z r af;by_cases h1:z=d
      ·subst h1;rw[bQ]at af;have:s=r:=by simpa[V.on,V.root]using af
       exact this▸bc
      ·by_cases h2:z=s
       ·subst h2;rw[bH]at af;simp[V.on,V.root]at af
       ·rw[bn z h1 h2]at af;exact hI.roots z r af
     ·intro z r hz af br;have h1:r≠d:=cW Ur br;have h2:r≠s:=λe=>by
       subst e;have:=akg cj z;rw[this]at af;cases af
      exact⟨bn r h1 h2,mM r h1⟩
     ·intro z hz;rcases hz with rfl|rfl
      ·rw[bH,mM _ (Ne.symm gY)];simp only[az,fj];have BY:cs=[a.tmps.getD z undef]:=hf;simp only[Own]at bO;rcases bO with⟨h1,h2⟩|⟨g,cap,cur,h1,h2,h3,h4,h5,h6,h7⟩
       ·rw[h1]at BY;exact .inl ⟨(List.cons.inj BY).1.symm,h2⟩
       ·rw[h1]at BY;refine .inr ⟨g,cap,cur,(List.cons.inj BY).1.symm,by simpa using h2,h3,h4,h5,h6,λj hj _=>?_⟩;simpa using h7 j hj
      ·rw[bQ,vq];exact⟨(mM s (Ne.symm gY)).symm,n,.i64,_,bH⟩
    ·exact h.elim
  ·exact hm _ h
 ·exact hm _ h
theorem XX[ae](hI:Inv w0 L0 N vs T a w L){tt:Ty}{ty:Ty}{x:ty.den}(ht:T.getD t .dead = .same r tt)(hr:T.getD r .dead = .bN 0 n ty x):a.tmps.getD t undef=a.tmps.getD r undef:=by
 have:=hI.aV t;rw[ht]at this;exact this.1
theorem alR[ae](hI:Inv w0 L0 N vs T a w L)(hC:bA P C)(ho:o.op = .call { callee:=.builtin .len,args,argTypes:=cA })(aw:o.dst=some d)(hd:d<N)(hid:(T.getD d .dead).idle=true)
  (h:(HB C d args.toList cA.toList m).ai T ups log) (hm:∀log,m.ai T ups log->Step P o w0 L0 N vs (ag T ups) a w):Step P o w0 L0 N vs (ag T ups) a w:=by
 obtain⟨args⟩:=args;obtain⟨cA⟩:=cA;dsimp only at h;unfold HB at h;split at h
 ·rename_i t X;obtain⟨aC,rfl,h⟩:=h;generalize ht:T.getD t .dead=v at h;dsimp only at h;split at h
  ·rename_i r tt;obtain⟨log2,rfl,h⟩:=h;generalize hr:T.getD r .dead=u at h;dsimp only at h;split at h
   ·rename_i n ty x;unfold S6 at h;split at h
    ·rename_i k e te x;split at h
     ·rename_i hX;obtain⟨rfl,_⟩:=h;have h1:=XX hI ht hr;have hs:=hI.aV r;rw[hr]at hs;simp only[az,fj]at hs;have hlen:∃A c,a.eval (.tmp t) = .slice A (x.2:List te.den).length c:=by
       rcases hs with⟨h2,h3⟩|⟨g,cap,cur,h2,_⟩
       ·refine⟨none,0,?_⟩;show a.tmps.getD t undef=_;rw[h1,h2,h3];rfl
       ·exact⟨_,_,h1.trans h2⟩
      obtain⟨A,c,hlen⟩:=hlen;intro K Q hK;refine aK.inv hI hd hid aw (aK.still hI (c:=.int .i64 (x.2.length:Int)) ?_ (λ_=>rfl) az.mkInt) hK;have hu:=(hC X _ hX).bW;have hc:(Builtin.len_ #[X] o.type #[a.eval (.tmp t)]).run P w = .ok (.int .i64 (x.2.length:Int)) w:=by
       rw[hlen];simp[Builtin.len_,run_underlying hu.1,goInt]
      simp[execOp,ho,resolve,invoke,builtin,hc]
     ·exact h.elim
    ·exact h.elim
   ·exact hm _ h
  ·exact hm _ h
 ·exact hm _ h
theorem alQ[ae](hI:Inv w0 L0 N vs T a w L)(hC:bA P C){y:Operand}(ho:o.op = .indexAddr X (.tmp t) y)(aw:o.dst=some d)(hd:d<N)(hid:(T.getD d .dead).idle=true)
  (h:(HA C vs X d t y m).ai T ups log) (hm:∀log,m.ai T ups log->Step P o w0 L0 N vs (ag T ups) a w):Step P o w0 L0 N vs (ag T ups) a w:=by
 unfold HA at h;obtain⟨aC,rfl,h⟩:=h;generalize ht:T.getD t .dead=v at h;dsimp only at h;split at h
 ·rename_i r tt;obtain⟨log2,rfl,h⟩:=h;generalize hr:T.getD r .dead=u at h;dsimp only at h;split at h
  ·rename_i n ty x;obtain⟨z,l1,l2,rfl,hz,h⟩:=M.al h;split at h
   ·rename_i ll nn ki i;have hy:=gq hI hz;unfold S5 at h;split at h
    ·rename_i k e te x _;split at h
     ·rename_i fY;obtain⟨y0,iR,bc,rfl,_⟩:=h;obtain⟨hi,jy,rfl⟩:=kY iR;have h1:=XX hI ht hr;have hs:=hI.aV r;rw[hr]at hs;simp only[az,fj]at hs;rcases hs with⟨_,h3⟩|⟨g,cap,cur,h2,h3,_⟩
      ·rw[h3]at hi;exact absurd hi (by simp)
      ·have fm:a.eval (.tmp t)=_:=h1.trans h2;have aM:(execOp a.eval o).run P w = .ok (.value (.pointer (some ⟨g,0+i.toNat*te.sz,none⟩))) w:=by
        simp[execOp,ho,fm,hy,XU hC fY jy hi]
       intro K Q hK;refine aK.inv hI hd hid aw (aK.ptr hI (g:=g) ?_ h3 (λr' aX=>?_)) hK
       ·rw[aM];simp[node]
       ·have:r=r':=by simpa[V.on,V.root]using aX
        exact this▸List.contains_iff_mem.1 bc
     ·exact h.elim
    ·exact h.elim
   ·exact h.elim
  ·exact hm _ h
 ·exact hm _ h
theorem alS[ae](hI:Inv w0 L0 N vs T a w L)(hC:bA P C){X:TypeId}(ho:o.op = .load X (.tmp t))(aw:o.dst=some d)
  (h:(HC C N X d t).ai T ups log):Step P o w0 L0 N vs (ag T ups) a w:=by
 unfold HC at h;obtain⟨aC,rfl,h⟩:=h;generalize ht:T.getD t .dead=v at h;dsimp only at h;split at h
 ·rename_i r sz i tt;obtain⟨log2,rfl,h⟩:=h;generalize hr:T.getD r .dead=u at h;dsimp only at h;split at h
  ·rename_i n ty x;unfold S7 at h;split at h
   ·rename_i k e te x;split at h
    ·rename_i hc;obtain⟨hX,nY,hG,rfl,pr,c7,BV⟩:=hc;obtain⟨l3,rfl,jz,y,hy,h⟩:=h;obtain⟨Ts,l4,l5,rfl,dC,aI,h⟩:=M.al h;obtain⟨rfl,_⟩:=h;have bH:Ts=T:=by rw[kS dC (by rw[Nat.zero_add,hI.len])];rfl
     subst bH;simp only[Bool.and_eq_true,decide_eq_true_eq]at jz;obtain⟨hid,hle⟩:=jz;obtain⟨hi,jy,rfl⟩:=kY hy;have a6:=hI.aV t;rw[ht]at a6;obtain⟨g0,hp,u5⟩:=a6;have hs:=hI.aV r;rw[hr]at hs;have dM:=hs;simp only[az,fj]at hs;rcases hs with⟨_,h3⟩|⟨g,cap,cur,h2,h3,h4,h5,h6,h7,h8⟩
     ·rw[h3]at hi;exact absurd hi (by simp)
     obtain rfl:=hI.inj g0 g r _ u5 (by simpa[node]using h3);have hle:x.1<=i:=hle;have agP:=h8 i.toNat hi (Int.le_trans hle (Int.le_of_eq (Int.toNat_of_nonneg jy).symm));have ag9:lU w L (SL L none) r n te (x.2[i.toNat]) (node [] 0 [St.idx te.sz i]).1 (node [] 0 [St.idx te.sz i]).2:=by
      refine⟨g0,cur,e,u5,h4,?_,agP⟩;simp only[node];rw[h7,<-Nat.succ_mul];exact Nat.mul_le_mul_right _ (Nat.lt_of_lt_of_le hi h5)
     obtain⟨c,eH,e2,aM,hh,bl,hf,lq⟩:=Vd hI hC hX ag9 u5;have cm:a.eval (.tmp t)=_:=hp;have IF:(execOp a.eval o).run P w = .ok (.value c) w:=by simp[execOp,ho,cm,Instr.loadAt,Instr.sureAddr,aM]
     have bQ:(ag Ts [(r,V.bN 0 n (.pair (.int k) (.slice e te)) (i+1,x.2)),(d,.d none n te (x.2[i.toNat]))]).getD d .dead = .d none n te (x.2[i.toNat]):=by
      show ((Ts.set r _).set d _).getD d .dead=_;rw[aF,if_pos ⟨rfl,by simp[hI.len,pr]⟩]
     have bB:(ag Ts [(r,V.bN 0 n (.pair (.int k) (.slice e te)) (i+1,x.2)),(d,.d none n te (x.2[i.toNat]))]).getD r .dead = .bN 0 n (.pair (.int k) (.slice e te)) (i+1,x.2):=by
      show ((Ts.set r _).set d _).getD r .dead=_;rw[aF,if_neg (λh=>BV h.1.symm),aF,if_pos ⟨rfl,by rw[hI.len];exact c7⟩]
     have bn:∀z,z≠d->z≠r->(ag Ts [(r,V.bN 0 n (.pair (.int k) (.slice e te)) (i+1,x.2)),(d,.d none n te (x.2[i.toNat]))]).getD z .dead=Ts.getD z .dead:=by
      intro z h1 h2;show ((Ts.set r _).set d _).getD z .dead=_;rw[aF,if_neg (λh=>h1 h.1),aF,if_neg (λh=>h2 h.1)]
     have vq:(a.put (some d) c).tmps.getD d undef=c:=by
      show (a.tmps.setIfInBounds d _).getD d undef=_;rw[dK,if_pos ⟨rfl,by rw[hI.size];exact pr⟩]
     have mM:∀z,z≠d->(a.put (some d) c).tmps.getD z undef=a.tmps.getD z undef:=λz hz=>jQ (by simpa using Ne.symm hz);have Ux:∀z,(Ts.getD z .dead).on r=true->(∃t',Ts.getD z .dead = .same r t')\/∃ff i' t',Ts.getD z .dead = .ptr r [.idx ff i'] t':=by
      intro z af;have hz:=akq aI z;unfold JM at hz;rw[af,Bool.not_true,Bool.false_or]at hz;generalize Ts.getD z .dead=v at hz af;cases v with
      | same r' t' =>
       have:r'=r:=by simpa[V.on,V.root]using af
       exact .inl ⟨t',by rw[this]⟩
      | ptr r' p t' =>
       have:r'=r:=by simpa[V.on,V.root]using af
       subst this
       match p,hz with
       | [.idx ff i'],_=>exact .inr ⟨ff,i',t',rfl⟩
      | _=>cases hz
     have Io:∀k' q',L k' = .own r q'->(∀i' rest,i'<te.sz->q'≠[0]++(i.toNat*te.sz+i')::rest)->aS (kL r [0] (i.toNat*te.sz) te.sz d) w L (λ_=>.free) k' = .own r q':=by
      intro k' q' hk hq;rw[cP hI (by rw[hk];simp),hk];exact amk hq
     refine Step.value (L':=aS (kL r [0] (i.toNat*te.sz) te.sz d) w L (λ_=>.free)) aw IF ?_;refine Inv.gr (X:=λz=>z=r\/z=d\/(Ts.getD z .dead).on r=true) (nl:=λ_=>.free) hI (amj (.inl rfl) (.inr (.inl rfl)) (Ne.symm BV)) (Wd.refl hI _) (λ_ _ _ _ _ h=>by cases h) (by simp[Act.put,hI.size]) (by rw[ct,hI.len]) hI.dB ?_ ?_ ?_ ?_ ?_
     ·intro k' z q bT h;by_cases h1:z=r
      ·subst h1;rw[bB];rfl
      ·by_cases h9:z=d
       ·subst h9;rw[bQ];simp[V.aJ,hG,nY]
       ·rw[bn z h9 h1];unfold aS at h;split at h
        ·obtain⟨s0,q0,e0,f0⟩:=eD h;rcases sS f0 with⟨_,_,_,_,_,j3,_⟩|⟨_,j3,_⟩|⟨_,_,j3,j4⟩
         ·exact absurd j3 h9
         ·exact absurd j3 h1
         ·subst j3;exact hI.owner k' _ _ e0
        ·cases h
     ·intro z r' bT af aX;have bT:=not_or.1 bT;have dV:=not_or.1 bT.2;rcases aX with rfl|rfl|aX
      ·exact absurd af dV.2
      ·exact V.jN hid
      ·rcases Ux r' aX with⟨_,he⟩|⟨_,_,_,he⟩<;>rw[he]<;>rfl
     ·intro z bT;have bT:=not_or.1 bT;have dV:=not_or.1 bT.2;exact⟨bn z dV.1 bT.1,mM z dV.1⟩
     ·intro z r' bT af;by_cases h1:z=r
      ·subst h1;rw[bB]at af;simp[V.on,V.root]at af
      ·by_cases h9:z=d
       ·subst h9;rw[bQ]at af;simp[V.on,V.root]at af
       ·rw[bn z h9 h1]at af;exact hI.roots z r' af
     ·intro z bT;by_cases h1:z=r
      ·subst h1;rw[bB,mM _ (Ne.symm BV)];simp only[az,fj];refine .inr ⟨g0,cap,cur,h2,Io _ _ h3 (λi' rest _ h=>by have:=congrArg List.length h;simp at this),h4,h5,h6,h7,λj hj UC=>?_⟩;have UC:i+1<=(j:Int):=UC;refine Own.move (λk' hk=>?_) (λk' dd rest gX hk=>⟨?_,rfl⟩) (h8 j hj (Int.le_trans hle (by omega)))
       ·rcases hk with hk|⟨_,_,hk,_⟩
        ·exact⟨.inl (dX hI hk),rfl⟩
        ·cases hk
       ·refine Io _ _ hk (λi' fc rX he=>?_);simp only[List.cons_append,List.nil_append,List.cons.injEq,true_and]at he;have kZ:(i.toNat+1)*te.sz<=j*te.sz:=Nat.mul_le_mul_right _ (by omega);rw[Nat.add_mul,Nat.one_mul]at kZ;omega
      ·by_cases h9:z=d
       ·subst h9;rw[bQ,vq];refine⟨by simp,_,hf,?_⟩;refine Own.move (λk' hk=>?_) (λk' dd rest gX hk=>⟨?_,rfl⟩) lq
        ·rcases hk with hk|⟨_,_,hk,_⟩
         ·exact⟨.inl (dX hI hk),rfl⟩
         ·cases hk
        ·rw[cP hI (by rw[hk];simp),hk];simp only[ep,node,Nat.zero_add,List.nil_append];exact ami gX
       ·rw[bn z h9 h1,mM z h9];have af:(Ts.getD z .dead).on r=true:=by
         rcases bT with h|h|h
         ·exact absurd h h1
         ·exact absurd h h9
         ·exact h
        have pD:=hI.aV z;rcases Ux z af with⟨t',he⟩|⟨ff,i',t',he⟩
        ·rw[he]at pD ⊢;obtain⟨j1,n1,k1,x1,j2⟩:=pD;rw[hr]at j2;cases j2;exact⟨j1.trans (mM r (Ne.symm BV)).symm,n,k,_,bB⟩
        ·rw[he]at pD ⊢;obtain⟨g2,j1,j2⟩:=pD;exact⟨g2,j1,Io _ _ j2 (λi' rest _ h=>by have:=congrArg List.length h;simp[node]at this)⟩
    ·exact h.elim
   ·exact h.elim
  ·exact h.elim
 ·exact h.elim
end
def rI:Nat->Ty->Bool
 | m,.pair a b=>(a.depth==0||m.testBit 0)&&rI (m / 2) b
 | m,t=>t.depth==0||m.testBit 0
def ng(m:Nat)(ta:Ty)(x:ta.den):V:=cond (rI m ta) (.box none ta.depth (.agg ta) x) (.bN 1 m (.agg ta) x)
def CA(C:Ctx)(vs:List Nat)(N:Nat)(kids:List Nat)(X:TypeId)(r i off m0:Nat)(ta:Ty)(x0:ta.den)(x:Operand):M (List (Nat×V)):=
 match x with
 | .tmp s=>.get s λv=>match v with
  | .d none k t1 y=>match comp i ta x0 with
   | some (o,⟨t2,_⟩)=>if o=off/\t2=t1/\t1.depth≠0/\t1.depth<=k/\C.ty X=some t1/\vs.contains s=false/\s≠r/\r<N/\m0.testBit i=false/\ta.depth≠0 then
     (ij i ta x0 (λt' x'=>eN [] t' x' t1 y)).bind λx2=>gQ false r s kids (.ret [(r,ng (m0 ||| 2 ^ i) ta x2),(s,.dead)])
    else .fail
   | none=>.fail
  | _=>.fail
 | _=>.fail
def Ju(C:Ctx)(vs:List Nat)(N:Nat)(kids:List Nat)(X:TypeId)(r:Nat)(p:List St)(u:V)(x:Operand)(m:M (List (Nat×V))):M (List (Nat×V)):=
 match p with
 | [.aZ i off]=>match u with
  | .box none 0 (.agg ta) x0=>CA C vs N kids X r i off 0 ta x0 x
  | .bN 1 m0 (.agg ta) x0=>CA C vs N kids X r i off m0 ta x0 x
  | _=>m
 | _=>m
section
variable{P:Program}{C:Ctx}{w w' w0:World}{S S':Nat->Prop}{L L' L0:Nat->aj}{s N:Nat}{vs:List Nat}{T T':List V}{tm tm':Array Value}{a:Act}
theorem bZ.move[ae](H1:∀k,L k = .an->L' k = .an/\w'.heap[k]?=w.heap[k]?):{t:Ty}->{m:Nat}->{x:t.den}->{o:Nat}->{cs:List Value} ->
  (∀k d rest,d<t.sz->L k = .own r ((o+d)::rest)->L' k = .own r ((o+d)::rest)/\w'.heap[k]?=w.heap[k]?)->bZ w L r m t x o cs->bZ w' L' r m t x o cs:=by
 have HS:∀k,SL L none k->SL L' none k/\w'.heap[k]?=w.heap[k]?:=by
  rintro k (hk|⟨_,_,hk,_⟩)
  ·exact⟨.inl (H1 k hk).1,(H1 k hk).2⟩
  ·cases hk
 intro t;induction t with
 | pair a b _ ih =>
  intro m x o cs H2 h;obtain⟨c0,c1,h1,h2,h3⟩:=h;refine⟨c0,c1,h1,Own.move HS (λk d rest hd hk=>H2 k d rest (by simp only[Ty.sz];omega) hk) h2,ih (λk d rest hd hk=>?_) h3⟩;have:=H2 k (a.sz+d) rest (by simp only[Ty.sz];omega) (by rw[hk,Nat.add_assoc])
  rwa [<-Nat.add_assoc]at this
 | _=>intro m x o cs H2 h;simp only[bZ]at h ⊢;exact Own.move HS H2 h
theorem bZ.of0[ae]:{t:Ty}->{x:t.den}->{o:Nat}->{cs:List Value}->Own w L (SL L none) r 0 t x [] o cs->bZ w L r 0 t x o cs:=by
 intro t;induction t with
 | pair a b _ ih =>
  intro x o cs h;simp only[Own]at h;obtain⟨c0,c1,h1,h2,h3⟩:=h;exact⟨c0,c1,h1,by simpa using h2,ih h3⟩
 | _=>intro x o cs h;simp only[bZ];simpa using h
theorem bZ.full[ae]:{t:Ty}->{m:Nat}->{x:t.den}->{o:Nat}->{cs:List Value}->{D:Nat}->t.depth<=D->rI m t=true->bZ w L r m t x o cs->Own w L (SL L none) r D t x [] o cs:=by
 have one:∀{t:Ty} {m:Nat} {x:t.den} {o:Nat} {cs:List Value} {D:Nat},t.depth<=D->(t.depth==0||m.testBit 0)=true->Own w L (SL L none) r (cond (m.testBit 0) t.depth 0) t x [] o cs->Own w L (SL L none) r D t x [] o cs:=by
  intro t m x o cs D hD hf h;cases hb:m.testBit 0 with
  | true=>rw[hb]at h;exact Own.cap (Nat.le_refl _) hD h
  | false =>
   rw[hb,Bool.or_false]at hf;exact Own.flat (by simpa using hf) h
 intro t;induction t with
 | pair a b _ ih =>
  intro m x o cs D hD hf h;obtain⟨c0,c1,h1,h2,h3⟩:=h;simp only[rI,Bool.and_eq_true]at hf;simp only[Ty.depth]at hD;simp only[Own];exact⟨c0,c1,h1,one (by omega) hf.1 h2,ih (by omega) hf.2 h3⟩
 | _=>intro m x o cs D hD hf h;simp only[bZ]at h;exact one hD hf h
theorem akt(m i:Nat):(m ||| 2 ^ (i+1)).testBit 0=m.testBit 0/\(m ||| 2 ^ (i+1)) / 2=m / 2 ||| 2 ^ i:=by
 refine⟨?_,?_⟩
 ·rw[Nat.testBit_or,Nat.testBit_two_pow];simp
 ·rw[Nat.or_div_two,Nat.pow_succ,Nat.mul_div_cancel _ (by omega)]
theorem Xv(m:Nat):(m ||| 2 ^ 0).testBit 0=true/\(m ||| 2 ^ 0) / 2=m / 2:=by
 refine⟨?_,?_⟩
 ·rw[Nat.testBit_or,Nat.testBit_two_pow];simp
 ·rw[Nat.or_div_two];simp
theorem W6{t1 t':Ty}{x1:t1.den}{y:t'.den}{z:t1.den}(h:(eN [] t1 x1 t' y).ai T z log):∃e:t'=t1,z=e▸y:=by
 simp only[eN]at h;split at h
 ·rename_i e;exact⟨e,h.1⟩
 ·exact h.elim
theorem bZ.mod[ae](H1:∀k,L k = .an->L' k = .an/\w'.heap[k]?=w.heap[k]?):{t:Ty}->{i m:Nat}->{x x':t.den}->{o:Nat}->{cs bf:List Value}->{t1:Ty}->{y x1:t1.den}->{o1:Nat}->{log:List Nat} ->
  comp i t x=some (o1,⟨t1,x1⟩)->(ij i t x (λt' x'=>eN [] t' x' t1 y)).ai T x' log ->
  (∀k d rest,d<t.sz->¬(o1<=d/\d<o1+t1.sz)->L k = .own r ((o+d)::rest)->L' k = .own r ((o+d)::rest)/\w'.heap[k]?=w.heap[k]?) ->
  bf.length=cs.length->(∀j,j<o1\/o1+t1.sz<=j->bf[j]?=cs[j]?)->Own w' L' (SL L' none) r t1.depth t1 y [] (o+o1) ((bf.drop o1).take t1.sz) ->
  bZ w L r m t x o cs->bZ w' L' r (m ||| 2 ^ i) t x' o bf:=by
 have HS:∀k,SL L none k->SL L' none k/\w'.heap[k]?=w.heap[k]?:=by
  rintro k (hk|⟨_,_,hk,_⟩)
  ·exact⟨.inl (H1 k hk).1,(H1 k hk).2⟩
  ·cases hk
 intro t;induction t with
 | pair a b _ ih =>
  intro i m x x' o cs bf t1 y x1 o1 log hc hm H2 hl fo hy h;have hlen:=bZ.len h;obtain⟨c0,c1,rfl,h2,h3⟩:=h;have jB:=Own.len h2;cases i with
  | zero =>
   simp only[comp,Option.some.injEq,Prod.mk.injEq]at hc;obtain⟨rfl,hc⟩:=hc;cases hc;simp only[ij]at hm;obtain⟨z,l1,l2,rfl,hz,h5,_⟩:=M.al hm;obtain⟨e,rfl⟩:=W6 hz;subst h5;obtain⟨k1,k2⟩:=Xv m;refine⟨bf.take a.sz,c1,?_,?_,?_⟩
   ·apply List.ext_getElem?;intro j;by_cases hj:j<a.sz
    ·rw[List.getElem?_append_left (by rw[List.length_take];simp only[List.length_append]at hl;omega),List.getElem?_take_of_lt hj]
    ·have hll:(bf.take a.sz).length=a.sz:=by rw[List.length_take];simp only[List.length_append]at hl;omega
     rw[List.getElem?_append_right (by omega),hll,fo j (.inr (by omega)),List.getElem?_append_right (by omega),jB]
   ·rw[k1];simpa using hy
   ·rw[k2];refine bZ.move H1 (λk d rest hd hk=>?_) h3;have:=H2 k (a.sz+d) rest (by simp only[Ty.sz];omega) (by omega) (by rw[hk,Nat.add_assoc])
    rwa [<-Nat.add_assoc]at this
  | succ i =>
   simp only[comp,Option.map_eq_some_iff]at hc;obtain⟨⟨o2,t2,x2⟩,hc,he⟩:=hc;simp only[Prod.mk.injEq]at he;obtain⟨rfl,he⟩:=he;cases he;simp only[ij]at hm;obtain⟨z,l1,l2,rfl,hz,h5,_⟩:=M.al hm;subst h5;obtain⟨k1,k2⟩:=akt m i;have UB:bf.length=a.sz+b.sz:=by rw[hl];simpa[Ty.sz]using hlen
   refine⟨c0,bf.drop a.sz,?_,?_,?_⟩
   ·apply List.ext_getElem?;intro j;by_cases hj:j<a.sz
    ·rw[List.getElem?_append_left (by omega),fo j (.inl (by omega)),List.getElem?_append_left (by omega)]
    ·rw[List.getElem?_append_right (by omega),List.getElem?_drop,jB,show a.sz+(j - a.sz)=j by omega]
   ·rw[k1];exact Own.move HS (λk d rest hd hk=>H2 k d rest (by simp only[Ty.sz];omega) (by omega) hk) h2
   ·rw[k2];refine ih hc hz (λk d rest hd hn hk=>?_) ?_ (λj hj=>?_) ?_ h3
    ·have:=H2 k (a.sz+d) rest (by simp only[Ty.sz];omega) (by omega) (by rw[hk,Nat.add_assoc])
     rwa [<-Nat.add_assoc]at this
    ·simp only[List.length_append]at hl;rw[List.length_drop];omega
    ·rw[List.getElem?_drop,fo _ (by omega),List.getElem?_append_right (by omega),jB,show a.sz+j - a.sz=j by omega]
    ·rw[List.drop_drop,<-Nat.add_assoc]at *
     exact hy
 | _ =>
  intro i m x x' o cs bf t1 y x1 o1 log hc hm H2 hl fo hy h;cases i with
  | zero =>
   simp only[comp,Option.some.injEq,Prod.mk.injEq]at hc;obtain⟨rfl,hc⟩:=hc;cases hc;simp only[ij]at hm;obtain⟨e,rfl⟩:=W6 hm;have hlen:=bZ.len h;simp only[bZ];rw[(Xv m).1];rw[List.drop_zero,List.take_of_length_le (by omega)]at hy;exact hy
  | succ i=>simp[comp]at hc
theorem WY{m:Nat}{ta:Ty}{x:ta.den}:(ng m ta x).aJ=true/\(ng m ta x).root=none:=by
 unfold ng;cases rI m ta<;>exact⟨rfl,rfl⟩
theorem Yc[ae](hI:Inv w0 L0 N vs T a w L)(hC:bA P C){o:Oper}{X:TypeId}{t off m0:Nat}{ta:Ty}{x0:ta.den}(ho:o.op = .store X (.tmp t) x)(aw:o.dst=none)
  (cN:∃g,a.eval (.tmp t) = .pointer (some ⟨g,off,none⟩)/\L g = .own r [])
  (dt:∃g cur e,a.tmps.getD r undef = .pointer (some ⟨g,0,none⟩)/\L g = .own r []/\w.heap[g]?=some (.cells cur e (0,0))/\cur.size=ta.sz/\bZ w L r m0 ta x0 0 cur.toList)
  (bz:(T.getD r .dead).dj=false) (h:(CA C vs N kids X r i off m0 ta x0 x).ai T ups log):Step P o w0 L0 N vs (ag T ups) a w:=by
 unfold CA at h;split at h
 ·rename_i s;obtain⟨aC,rfl,h⟩:=h;generalize hv:T.getD s .dead=v at h;dsimp only at h;split at h
  ·rename_i k t1 y;split at h
   ·rename_i o1 t2 x1 Uh;split at h
    ·rename_i hc;obtain⟨rfl,rfl,nY,Um,hX,bc,bo,c7,Ub,jF⟩:=hc;obtain⟨x2,l1,l2,rfl,vi,h⟩:=M.al h;obtain⟨cG,log2,h⟩:=jt h;obtain⟨rfl,_⟩:=h;have U6:s∉vs:=λhm=>by rw[List.contains_iff_mem.2 hm]at bc;cases bc
     obtain⟨g,hp,hg⟩:=cN;obtain⟨g',cur,e,c1,c2,c3,c4,c5⟩:=dt;obtain rfl:=hI.inj g g' r _ hg c2;have hR:=hI.aV s;rw[hv]at hR;obtain⟨_,cs,hf,bO⟩:=hR;have dL:=Own.one bO;have hlen:=Own.len bO;obtain⟨po,_⟩:=bZ.SV c5 Uh;have bl:o1+t2.sz<=cur.size:=by rw[c4];exact po
     have aM:(execOp a.eval o).run P w = .ok .skip (w.setRow g (putCells cur o1 cs)):=by
      have uY:Form t2 cs (a.eval (.tmp s)):=hf;simp[execOp,ho,hp,sF (hC X _ hX) c3 uY dL hlen bl]
     have bX:s<N:=aj3 hI (by rw[hv];simp);have mK:∀z,z≠s->(T.getD z .dead).on r=true->∃p' t',T.getD z .dead = .ptr r p' t'/\shallow p'=true:=by
      intro z gI af;have hb:(T.getD z .dead).dY r=false:=cG z gI;unfold V.dY at hb;rw[af,Bool.true_and]at hb;generalize T.getD z .dead=v at hb af;cases v with
      | ptr r2 p2 t2 =>
       have:r2=r:=by simpa[V.on,V.root]using af
       subst this;exact⟨p2,t2,rfl,by simpa using hb⟩
      | _=>simp at hb
     have bH:(ag T [(r,ng (m0 ||| 2 ^ i) ta x2),(s,.dead)]).getD s .dead = .dead:=by
      show ((T.set r _).set s _).getD s .dead=_;rw[aF,if_pos ⟨rfl,by simp[hI.len,bX]⟩]
     have bB:(ag T [(r,ng (m0 ||| 2 ^ i) ta x2),(s,.dead)]).getD r .dead=ng (m0 ||| 2 ^ i) ta x2:=by
      show ((T.set r _).set s _).getD r .dead=_;rw[aF,if_neg (λh=>bo h.1.symm),aF,if_pos ⟨rfl,by rw[hI.len];exact c7⟩]
     have bn:∀z,z≠r->z≠s->(ag T [(r,ng (m0 ||| 2 ^ i) ta x2),(s,.dead)]).getD z .dead=T.getD z .dead:=by
      intro z h1 h2;show ((T.set r _).set s _).getD z .dead=_;rw[aF,if_neg (λh=>h2 h.1),aF,if_neg (λh=>h1 h.1)]
     have cO:some s≠some r:=by simpa using bo
     have ky:∀k,k≠g->(w.setRow g (putCells cur o1 cs)).heap[k]?=w.heap[k]?:=λk hk=>setRow_other w g k _ hk;have jx:fi (dx r [] o1 t2.sz t2.depth (some s)) (λz=>z=r\/z=s\/(T.getD z .dead).on r=true):=X9 cO (.inl rfl) (λs' h=>by cases h;exact .inr (.inl rfl));have Ip:∀kk z,L kk = .own r z->¬kd [] o1 t2.sz z->aS (dx r [] o1 t2.sz t2.depth (some s)) w L (λ_=>.free) kk = .own r z:=by
      intro kk z hk hu;rw[cP hI (by rw[hk];simp),hk];simp only[ep,dx];rw[if_pos trivial,if_neg];intro h;simp only[Bool.and_eq_true]at h;exact hu (qn.1 h.2)
     have fU:∀{q},kd [] o1 t2.sz q->q≠[]:=by
      rintro q ⟨d,rest,_,rfl⟩ h;simp at h
     have gm:aS (dx r [] o1 t2.sz t2.depth (some s)) w L (λ_=>.free) g = .own r []:=Ip g [] hg (λh=>fU h rfl);intro K Q hK;unfold Oper.wp;rw[aM,Oper.upon_skip,aw];refine hK a _ (aS (dx r [] o1 t2.sz t2.depth (some s)) w L (λ_=>.free)) ?_;refine Inv.gr (X:=λz=>z=r\/z=s\/(T.getD z .dead).on r=true) hI jx ?_ (λ_ _ _ _ _ h=>by cases h) hI.size (by rw[ct,hI.len]) hI.dB ?_ ?_ ?_ ?_ ?_
     ·refine⟨rfl,rfl,rfl,by simp[World.setRow],Nat.le_refl _,λkk hk hx=>ky kk ?_,λ_ _=>rfl,λ_ _ _ _ h=>by cases h⟩
      rintro rfl
      exact hx r _ hg (.inl rfl)
     ·intro kk z q rP h;by_cases h1:z=r
      ·subst h1;rw[bB];exact WY.1
      ·unfold aS at h;split at h
       ·obtain⟨s0,q0,e0,f0⟩:=eD h;rcases qh cO f0 with⟨_,rfl,_⟩|⟨_,rfl,_⟩|⟨h2,h3,rfl,rfl⟩
        ·exact absurd rfl h1
        ·exact absurd rfl h1
        ·have h3:z≠s:=λe=>h3 (by rw[e]);rw[bn z h1 h3];exact hI.owner kk z q e0
       ·cases h
     ·intro z r' bT af aX;have bT:=not_or.1 bT;have dV:=not_or.1 bT.2;rcases aX with rfl|rfl|aX
      ·exact absurd af dV.2
      ·exact absurd (hI.roots z r' af) U6
      ·by_cases h2:r'=s
       ·subst h2;exact absurd (hI.roots z r' af) U6
       ·obtain⟨p',t',he,_⟩:=mK r' h2 aX;rw[he];rfl
     ·intro z bT;have bT:=not_or.1 bT;have dV:=not_or.1 bT.2;exact⟨bn z bT.1 dV.1,rfl⟩
     ·intro z r' bT af;by_cases h1:z=r
      ·subst h1;rw[bB]at af;simp[V.on,WY.2]at af
      ·by_cases h2:z=s
       ·subst h2;rw[bH]at af;simp[V.on,V.root]at af
       ·rw[bn z h1 h2]at af;exact hI.roots z r' af
     ·intro z bT;by_cases h1:z=r
      ·subst h1;rw[bB];have ln:bZ (w.setRow g (putCells cur o1 cs)) (aS (dx z [] o1 t2.sz t2.depth (some s)) w L (λ_=>.free)) z (m0 ||| 2 ^ i) ta x2 0 (putCells cur o1 cs).toList:=by
        refine bZ.mod (λkk hk=>⟨dX hI hk,ky kk (by rintro rfl;rw[hg]at hk;cases hk)⟩) Uh vi (λkk d rest hd hn hk=>?_) ?_ (λj hj=>?_) ?_ c5
        ·refine⟨Ip kk _ hk (λhu=>?_),ky kk (by rintro rfl;rw[hg]at hk;injection hk with _ hk;cases hk)⟩;obtain⟨d',fc,nX,he⟩:=hu;simp only[List.nil_append,List.cons.injEq]at he;omega
        ·have:=CW (cur:=cur) (o:=o1) (cs:=cs) (by omega);simpa using this
        ·have:=CV (cur:=cur) (o:=o1) (cs:=cs) (by omega) j (by omega);simpa using this
        ·have pn:=CU (cur:=cur) (o:=o1) (cs:=cs) (by omega);rw[hlen]at pn;rw[pn];refine Own.eO Um (λkk hk=>?_) (λkk d rest hd hk=>?_) bO
         ·rcases hk with hk|⟨_,_,hk,_⟩
          ·exact⟨.inl (dX hI hk),ky kk (by rintro rfl;rw[hg]at hk;cases hk)⟩
          ·cases hk
         ·have hh:aS (dx z [] o1 t2.sz t2.depth (some s)) w L (λ_=>.free) kk=if rest.length<t2.depth then .own z ((o1+d)::rest)else .an:=by
           rw[cP hI (by rw[hk];simp),hk];simp only[ep,dx,List.nil_append,Nat.zero_add];rw[if_neg bo,if_pos trivial,if_pos hd]
          refine⟨ky kk (by rintro rfl;rw[hg]at hk;injection hk with hk _;exact bo hk.symm),λhl=>?_,λhl=>.inl ?_⟩
          ·rw[hh,if_pos hl];simp
          ·show aS _ _ _ _ kk=_;rw[hh,if_neg (by omega)]
       have Uq:=setRow_heap w g cur (putCells cur o1 cs) e (0,0) c3;have U3:=CW (cur:=cur) (o:=o1) (cs:=cs) (by omega);unfold ng;cases hfu:rI (m0 ||| 2 ^ i) ta with
       | true =>
        refine⟨by simp,g,putCells cur o1 cs,e,c1,gm,Uq,by rw[U3];exact c4,?_⟩;simp only[Own];exact bZ.full (Nat.le_refl _) hfu ln
       | false=>exact⟨g,putCells cur o1 cs,e,c1,gm,Uq,by rw[U3];exact c4,ln⟩
      ·by_cases h2:z=s
       ·subst h2;rw[bH];trivial
       ·have af:(T.getD z .dead).on r=true:=by
         rcases bT with h|h|h
         ·exact absurd h h1
         ·exact absurd h h2
         ·exact h
        rw[bn z h1 h2];obtain⟨p',t',he,dU⟩:=mK z h2 af;have pD:=hI.aV z;rw[he]at pD ⊢;obtain⟨g2,j1,j2⟩:=pD;refine⟨g2,j1,?_⟩;rw[qd dU]at j2 ⊢;exact Ip g2 [] j2 (λh=>fU h rfl)
    ·exact h.elim
   ·exact h.elim
  ·exact h.elim
 ·exact h.elim
theorem alW[ae](hI:Inv w0 L0 N vs T a w L)(hC:bA P C){t:Nat}(ho:o.op = .store X (.tmp t) x)(aw:o.dst=none)
  (ht:addrOf t (T.getD t .dead)=some (r,p)) (cN:∀r p,addrOf t (T.getD t .dead)=some (r,p)->∃g,a.eval (.tmp t) = .pointer (some ⟨g,(node [] 0 p).2,none⟩)/\L g = .own r (node [] 0 p).1)
  (hr:T.getD r .dead=u) (h:(Ju C vs N kids X r p u x m).ai T ups log) (hm:∀log,m.ai T ups log->Step P o w0 L0 N vs (ag T ups) a w):Step P o w0 L0 N vs (ag T ups) a w:=by
 unfold Ju at h;split at h
 ·rename_i i off;have Ig:=cN r _ ht;simp only[node,Nat.zero_add]at Ig;have bb:=hI.aV r;rw[hr]at bb;split at h
  ·rename_i ta x0;obtain⟨_,g,cur,e,h1,h2,h3,h4,h5⟩:=bb;simp only[Own]at h5;exact Yc (ta:=ta) (x0:=x0) hI hC ho aw Ig ⟨g,cur,e,h1,h2,h3,h4,bZ.of0 (t:=ta) h5⟩ (by rw[hr];rfl) h
  ·rename_i m0 ta x0;exact Yc hI hC ho aw Ig bb (by rw[hr];rfl) h
  ·exact hm _ h
 ·exact hm _ h
end
def wa(r:Nat)(v:V):Bool := !v.dY r||(match v with
 | .ptr _ _ _=>true
 | .view _ [] _=>true
 | _=>false)
def Jc{α:Type}(r:Nat):List Nat->M α->M α
 | [],m=>m
 | k::l,m=>.get k λv=>.bj (wa r v) (Jc r l m)
def Ko(C:Ctx)(N:Nat)(kids:List Nat)(X:TypeId)(r:Nat)(p:List St)(u:V)(x:Operand)(m:M (List (Nat×V))):M (List (Nat×V)):=
 (dn p u).bind λz =>
  if z.2.t.depth=0/\u.dj=true/\C.ty X=some z.2.t/\(u.root != some r)=true/\r<N/\r<100000 then
   (cC C X x).bind λv=>match v with
   | .d none _ t' y=>if h:t'=z.2.t then (fH p u z.2.t (h▸y)).bind λu'=>Jc r kids (.ask (uA r (iU false (r::kids))) (.ret [(r,u')]))else .fail
   | _=>.fail
  else m
section
variable{P:Program}{C:Ctx}{w w' w0:World}{S S':Nat->Prop}{L L' L0:Nat->aj}{s N:Nat}{vs:List Nat}{T T':List V}{tm tm':Array Value}{a:Act}
theorem Wu{α:Type}{m:M α}{x:α}:{l:List Nat}->{log:List Nat}->(Jc r l m).ai T x log->(∀k∈l,wa r (T.getD k .dead)=true)/\∃aC,m.ai T x aC
 | [],log,h=>⟨by simp,log,h⟩
 | k::l,log,h=>by
  obtain⟨aC,rfl,hc,h⟩:=h;obtain⟨h1,h2⟩:=Wu (l:=l) h;refine⟨λk' aG=>?_,h2⟩;rcases List.mem_cons.1 aG with rfl|aG
  ·exact hc
  ·exact h1 k' aG
theorem al0[ae](hI:Inv w0 L0 N vs T a w L)(hC:bA P C){m:M (List (Nat×V))}(ho:o.op = .store X (.tmp t) x)(aw:o.dst=none)
  (ht:addrOf t (T.getD t .dead)=some (r,p)) (cN:∀r p,addrOf t (T.getD t .dead)=some (r,p)->∃g,a.eval (.tmp t) = .pointer (some ⟨g,(node [] 0 p).2,none⟩)/\L g = .own r (node [] 0 p).1)
  (hr:T.getD r .dead=u) (h:(Ko C N kids X r p u x m).ai T ups log) (hm:∀log,m.ai T ups log->Step P o w0 L0 N vs (ag T ups) a w):Step P o w0 L0 N vs (ag T ups) a w:=by
 obtain⟨⟨l,n',t',x'⟩,l1,l2,rfl,hz,h⟩:=M.al h;dsimp only at h;split at h
 ·rename_i hc;obtain⟨hd,mT,hX,lC,c7,IC⟩:=hc;clear hm;obtain⟨v,l3,l4,rfl,hv,h⟩:=M.al h;split at h
  ·rename_i k tv y;split at h
   ·rename_i pE;subst pE;obtain⟨u',l5,l6,rfl,vi,h⟩:=M.al h;obtain⟨Im,log2,h⟩:=Wu h;obtain⟨⟨hq,_⟩,fq,rfl,h⟩:=h;obtain⟨rfl,_⟩:=h;have aI:∀z,z≠r->wa r (T.getD z .dead)=true:=by
     intro z hz;by_cases hm:z∈kids
     ·exact Im z hm
     ·have:=G6 IC hq z (vQ (by simp[hz,hm]));rw[vR]at this;have this:(T.getD z .dead).dY r=false:=this;unfold wa;rw[this];rfl
    obtain⟨g,pt,hg⟩:=cN r p ht;have bb:=hI.aV r;rw[hr]at bb;obtain⟨⟨g',cur,e,k1,k2,k3,k4⟩,_,_,gG,lh⟩:=kF hz bb;obtain rfl:=hI.inj g g' r _ hg k1;have dO:∃cs s0,Form tv cs (a.eval x)/\Own w L (SL L none) s0 k tv y [] 0 cs:=by
     rcases jO hI hv with⟨s,rfl,_,hs⟩|⟨_,hs⟩
     ·obtain⟨_,cs,hf,bO⟩:=hs;exact⟨cs,s,hf,bO⟩
     ·obtain⟨_,cs,hf,bO⟩:=hs L T a.tmps 0 w;exact⟨cs,0,hf,bO⟩
    obtain⟨cs,s0,hf,bO⟩:=dO;have dL:=Own.one bO;have hlen:=Own.len bO;have aM:(execOp a.eval o).run P w = .ok .skip (w.setRow g (putCells cur (node [] 0 p).2 cs)):=by
     simp[execOp,ho,pt,sF (hC X _ hX) k2 hf dL hlen k3]
    have bB:(ag T [(r,u')]).getD r .dead=u':=by
     show (T.set r u').getD r .dead=u';rw[aF,if_pos ⟨rfl,by rw[hI.len];exact c7⟩]
    have bn:∀z,z≠r->(ag T [(r,u')]).getD z .dead=T.getD z .dead:=by
     intro z hz;show (T.set r u').getD z .dead=_;rw[aF,if_neg (λh=>hz h.1)]
    intro K Q hK;unfold Oper.wp;rw[aM,Oper.upon_skip,aw];refine hK a _ _ (Inv.store (m:=n') (src:=none) hI hr hz vi (by simpa using lC) hg k2 k3 hlen (by simp) (by rw[ct,hI.len]) bB ?_ (λz hz _ _=>bn z hz) (Own.flat hd bO));intro z hz _ af;refine .inr ⟨bn z hz,?_⟩;have hk:=aI z hz;unfold wa V.dY at hk;rw[af,Bool.true_and]at hk;generalize T.getD z .dead=vz at hk af;cases vz with
    | ptr r2 p2 t2=>exact .inl rfl
    | view r2 p2 t2 =>
     cases p2 with
     | nil=>exact .inl (by simpa[bY]using mT)
     | cons _ _=>simp at hk
    | _=>simp at hk
   ·exact h.elim
  ·exact h.elim
 ·exact hm _ h
end
def pK(N:Nat):List Nat->M (List (Nat×V))->M (List (Nat×V))
 | [],m=>m
 | s::l,m=>.get s λv=>match v with
  | .d none n t x =>
   if n≠0/\t.depth≠0/\s<N then
    gQ true s s [] (((pK N l m).eC [(s,.d none 0 t x)]).bind λups=>.ret ((s,.d none 0 t x)::ups))
   else pK N l m
  | _=>pK N l m
def sn(lev N:Nat):List Nat->M (List (Nat×V))->M (List (Nat×V))
 | [],m=>m
 | s::l,m=>.get s λv=>cond (v.pM&&v.root.isNone&&decide (lev<v.lvl)&&decide (s<N))
   (gQ true s s [] (((sn lev N l m).eC [(s,fk lev v)]).bind λups=>.ret ((s,fk lev v)::ups)))
   (sn lev N l m)
section
variable{P:Program}{C:Ctx}{w w' w0:World}{L L' L0:Nat->aj}{s N:Nat}{vs:List Nat}{a:Act}
theorem vF[ae]:{l:List Nat}->{T:List V}->{L:Nat->aj}->{ups:List (Nat×V)}->{log:List Nat}->Inv w0 L0 N vs T a w L->(pK N l m).ai T ups log ->
  ∃T1 L1 bF log2,Inv w0 L0 N vs T1 a w L1/\m.ai T1 bF log2/\ag T ups=ag T1 bF
 | [],T,L,ups,log,hI,h=>⟨T,L,ups,log,hI,h,rfl⟩
 | s::l,T,L,ups,log,hI,h=>by
  simp only[pK]at h;obtain⟨aC,rfl,h⟩:=h;dsimp only at h;split at h
  ·rename_i n t x hv;split at h
   ·rename_i hc;obtain⟨hn,hd,bX⟩:=hc;obtain⟨cG,log2,h⟩:=jt h;obtain⟨bF,l3,l4,rfl,h1,h2⟩:=M.al h;obtain⟨rfl,_⟩:=h2;have bb:s<T.length:=by rw[hI.len];exact bX
    have mE:∀z,(T.set s (.d none 0 t x)).getD z .dead=(ej [(s,.d none 0 t x)] z).getD (T.getD z .dead):=λz=>by
     simp only[ej];rw[aF];by_cases h1:z=s
     ·subst h1;simp[bb]
     ·have e1:(s==z)=false:=by simpa using Ne.symm h1
      rw[e1];simp[h1]
    obtain⟨fq,h1⟩:=oo (T':=T.set s (.d none 0 t x)) (by simp) (λz hz=>by
     simp only[List.map_cons,List.map_nil,List.mem_cons,List.not_mem_nil,or_false]at hz;rw[hz];exact bb) mE _ h1
    obtain⟨L1,bq⟩:=Inv.freeze (T':=T.set s (.d none 0 t x)) hI (X:=λz=>z==s) (lev:=λ_=>0) (λz r hr=>by
      have hr:r=s:=by simpa using hr
      subst hr;by_cases hz:z=r
      ·subst hz;rw[hv];rfl
      ·simpa using cG z hz) (λz hz=>by
      have hz:z=s:=by simpa using hz
      subst hz;rw[hv];rfl) (λz _=>Nat.zero_le _) (by simp[hI.len]) (λz=>by
      rw[aF];by_cases hz:z=s
      ·subst hz;rw[if_pos ⟨rfl,bb⟩,hv];simp[fk]
      ·have:(z==s)=false:=by simpa using hz
       rw[if_neg (λh=>hz h.1),this];rfl)
    obtain⟨T1,L2,jd,iT,k1,k2,k3⟩:=vF bq h1;exact⟨T1,L2,jd,iT,k1,k2,k3⟩
   ·exact vF hI h
  ·exact vF hI h
theorem Cs[ae]{lev:Nat}:{l:List Nat}->{T:List V}->{L:Nat->aj}->{ups:List (Nat×V)}->{log:List Nat}->Inv w0 L0 N vs T a w L->(sn lev N l m).ai T ups log ->
  ∃T1 L1 bF log2,Inv w0 L0 N vs T1 a w L1/\m.ai T1 bF log2/\ag T ups=ag T1 bF
 | [],T,L,ups,log,hI,h=>⟨T,L,ups,log,hI,h,rfl⟩
 | s::l,T,L,ups,log,hI,h=>by
  simp only[sn]at h;obtain⟨aC,rfl,h⟩:=h;dsimp only at h;cases hc:((T.getD s .dead).pM&&(T.getD s .dead).root.isNone&&decide (lev<(T.getD s .dead).lvl)&&decide (s<N))with
  | false =>
   rw[hc,cond_false]at h;exact Cs hI h
  | true =>
   rw[hc,cond_true]at h;simp only[Bool.and_eq_true,decide_eq_true_eq]at hc;obtain⟨⟨⟨hn,vt⟩,hd⟩,bX⟩:=hc;obtain⟨cG,log2,h⟩:=jt h;obtain⟨bF,l3,l4,rfl,h1,h2⟩:=M.al h;obtain⟨rfl,_⟩:=h2;have bb:s<T.length:=by rw[hI.len];exact bX
   have mE:∀z,(T.set s (fk lev (T.getD s .dead))).getD z .dead=(ej [(s,fk lev (T.getD s .dead))] z).getD (T.getD z .dead):=λz=>by
    simp only[ej];rw[aF];by_cases h1:z=s
    ·subst h1;simp[bb]
    ·have e1:(s==z)=false:=by simpa using Ne.symm h1
     rw[e1];simp[h1]
   obtain⟨fq,h1⟩:=oo (T':=T.set s (fk lev (T.getD s .dead))) (by simp) (λz hz=>by
    simp only[List.map_cons,List.map_nil,List.mem_cons,List.not_mem_nil,or_false]at hz;rw[hz];exact bb) mE _ h1
   have lC:(T.getD s .dead).on s=false:=by
    unfold V.on;rw[Option.isNone_iff_eq_none.1 vt];rfl
   obtain⟨L1,bq⟩:=Inv.freeze (T':=T.set s (fk lev (T.getD s .dead))) hI (X:=λz=>z==s) (lev:=λ_=>lev) (λz r hr=>by
     have hr:r=s:=by simpa using hr
     subst hr;by_cases hz:z=r
     ·subst hz;exact lC
     ·simpa using cG z hz) (λz hz=>by
     have hz:z=s:=by simpa using hz
     subst hz;exact hn) (λz hz=>by
     have hz:z=s:=by simpa using hz
     subst hz;exact Nat.le_of_lt hd) (by simp[hI.len]) (λz=>by
     rw[aF];by_cases hz:z=s
     ·subst hz;rw[if_pos ⟨rfl,bb⟩];simp
     ·have:(z==s)=false:=by simpa using hz
      rw[if_neg (λh=>hz h.1),this];rfl)
   obtain⟨T1,L2,jd,iT,k1,k2,k3⟩:=Cs bq h1;exact⟨T1,L2,jd,iT,k1,k2,k3⟩
end
def rC(s:Nat):V->M (Nat×D)
 | .box none k t' y=>.ret (s,⟨k,t',y⟩)
 | .ptr r [] _=>.get r λu=>match u with
  | .box none k t' y=>.ret (r,⟨k,t',y⟩)
  | _=>.fail
 | _=>.fail
def JU(t:Ty)(n:Nat)(x:Operand):M (t.den×Nat):=
 match x with
 | .tmp s=>.get s λv=>(rC s v).bind λz=>if h:z.2.t=t then (if z.2.n=n then .ret (h▸z.2.x,z.1)else .fail)else .fail
 | _=>.fail
def rz(C:Ctx):Nat->(ps:List (Ty×Mode))->List Operand->M (kO ps)
 | _,[],[]=>.ret ⟨(),[],[]⟩
 | i,(t,.ro)::ps,x::xs=>(oV C t x).bind λy=>(rz C (i+1) ps xs).bind λr=>.ret ⟨(y.1,r.x),y.2++r.ls,r.mu⟩
 | i,(t,.ptr n)::ps,x::xs=>(JU t n x).bind λy=>(rz C (i+1) ps xs).bind λr=>.ret ⟨(y.1,r.x),r.ls,(y.2,i)::r.mu⟩
 | _,_,_=>.fail
def vW:(ps:List (Ty×Mode))->(cu ps).den->Option V
 | [],_=>none
 | (t,.ptr n)::_,x=>some (.box none n t x.1)
 | (_,.mut _)::_,_=>none
 | (_,.bP _)::_,_=>none
 | (_,.ro)::ps,x=>vW ps x
def pf:List (Ty×Mode)->Bool
 | []=>true
 | (t,.ptr n)::ps=>decide (t.depth<=n)&&pf ps
 | _::ps=>pf ps
def ch(r d:Nat):Nat->V->Bool:=λz v=>v.on r&&z != r&&z != d
def Hh(C:Ctx)(bd:dp)(vs:List Nat)(N d:Nat)(f:FuncId)(args:List Operand):M (List (Nat×V)):=
 match bd f with
 | none=>.fail
 | some F=>(rz C 0 F.ps args).bind λA=>match A.mu with
  | [(r0,_)]=>cond (A.ls.contains r0 || !decide (r0<N) || !(A.ls.isEmpty||pf F.ps)) .fail (.cD (.pair (cL F.rs) (cu F.ps)) (F.ao A.x) λr=>match lO vs A.ls F.rs r.1,vW F.ps r.2 with
   | some v,some u'=>(allM 0 N).bind λTs=>.bj (mg (ch r0 d) 0 Ts) (.ret (((r0,u')::b7 (ch r0 d) 0 Ts)++[(d,v)]))
   | _,_=>.fail)
  | _=>.fail
def GW:List (Ty×Mode)->Bool
 | []=>false
 | (_,.ptr _)::_=>true
 | _::ps=>GW ps
def Hj(C:Ctx)(bd:dp)(vs:List Nat)(N d:Nat)(f:FuncId)(args:List Operand):M (List (Nat×V)):=
 match bd f with
 | none=>.fail
 | some F=>cond (GW F.ps) (Hh C bd vs N d f args) (Hi C bd vs N d f args)
section
variable{P:Program}{C:Ctx}{w w' w0:World}{S S':Nat->Prop}{L L' L0:Nat->aj}{s N:Nat}{vs:List Nat}{T T':List V}{tm tm':Array Value}{a:Act}
theorem SA[ae](hI:Inv w0 L0 N vs T a w L){s:Nat}{z:D}(h:(rC s (T.getD s .dead)).ai T (r,z) log):
  T.getD r .dead = .box none z.n z.t z.x/\a.tmps.getD s undef=a.tmps.getD r undef:=by
 have hs:=hI.aV s;generalize hv:T.getD s .dead=v at h hs;unfold rC at h;split at h
 ·obtain⟨h,_⟩:=h;injection h with h1 h2;subst h1 h2;exact⟨hv,rfl⟩
 ·rename_i r' t';obtain⟨aC,rfl,h⟩:=h;have hr:=hI.aV r';generalize hu:T.getD r' .dead=u at h hr;dsimp only at h;split at h
  ·obtain⟨h,_⟩:=h;injection h with h1 h2;subst h1 h2;obtain⟨g,e1,e2⟩:=hs;obtain⟨_,g',cur,e,e3,e4,_⟩:=hr;obtain rfl:=hI.inj g g' _ _ e2 e4;exact⟨hu,by rw[e1,e3];rfl⟩
  ·exact h.elim
 ·exact h.elim
theorem akD[ae](hI:Inv w0 L0 N vs T a w L){t:Ty}{y:t.den}(h:(JU t n x).ai T (y,r) log):
  T.getD r .dead = .box none n t y/\a.eval x=a.tmps.getD r undef:=by
 unfold JU at h;split at h
 ·rename_i s;obtain⟨aC,rfl,h⟩:=h;have hb:=M.al (m:=rC s (T.getD s .dead)) h;clear h;obtain⟨⟨r',z⟩,l1,l2,rfl,h1,h⟩:=hb;obtain⟨k1,k2⟩:=SA hI h1;obtain⟨n',t',y'⟩:=z;dsimp only at h k1;split at h
  ·rename_i ht;subst ht;split at h
   ·rename_i hk;subst hk;obtain⟨h,_⟩:=h;injection h with h1 h2;subst h1 h2;exact⟨k1,k2⟩
   ·exact h.elim
  ·exact h.elim
 ·exact h.elim
theorem G4[ae](hI:Inv w0 L0 N vs T a w L):{ps:List (Ty×Mode)}->{i:Nat}->{xs:List Operand}->{A:kO ps}->{log:List Nat}->(rz C i ps xs).ai T A log ->
  (∀r∈A.ls,(T.getD r .dead).deep=true)/\(∀r j,(r,j)∈A.mu->i<=j/\∃t n y,ps[j - i]?=some (t,.ptr n)/\T.getD r .dead = .box none n t y/\(xs.map a.eval)[j - i]?=some (a.tmps.getD r undef)) /\
  (∀j t m,ps[j]?=some (t,m)->m.back=true->∃r,(r,i+j)∈A.mu) /\
  ∀L1:Nat->aj,(∀k,L k = .an->L1 k = .an)->(∀k r q,r∈A.ls->L k = .own r q->L1 k = .an)->(∀k r j q,(r,j)∈A.mu->L k = .own r q->L1 k = .own j q)->dH w L1 i ps A.x (xs.map a.eval)
 | [],i,[],A,log,h=>by
  obtain⟨rfl,_⟩:=h;exact⟨by simp,by simp,by simp,λ_ _ _ _=>rfl⟩
 | (t,.ro)::ps,i,x::xs,A,log,h=>by
  simp only[rz]at h;obtain⟨⟨y,ls⟩,l1,l2,rfl,h1,h⟩:=M.al h;obtain⟨A',l3,l4,rfl,h2,h⟩:=M.al h;obtain⟨rfl,_⟩:=h;obtain⟨cells,k1,k2,k3⟩:=uv hI h1;obtain⟨j1,j2,j4,j3⟩:=G4 hI h2;refine⟨λr hr=>?_,λr j hm=>?_,λj t' n hj bg=>?_,λL1 H1 H2 H3=>?_⟩
  ·rcases List.mem_append.1 hr with hr|hr
   ·exact k2 r hr
   ·exact j1 r hr
  ·obtain⟨hi,t',n',y',e1,e2,e3⟩:=j2 r j hm;have:j - i=(j - (i+1))+1:=by omega
   exact⟨by omega,t',n',y',by rw[this];simpa using e1,e2,by rw[this];simpa using e3⟩
  ·cases j with
   | zero =>
    simp only[List.getElem?_cons_zero,Option.some.injEq,Prod.mk.injEq]at hj;rw[<-hj.2]at bg;cases bg
   | succ j =>
    obtain⟨r,hr⟩:=j4 j t' n (by simpa using hj) bg;exact⟨r,by rw[show i+(j+1)=i+1+j by omega];exact hr⟩
  ·exact⟨a.eval x,_,cells,rfl,k1,Own.dw (k3 _ H1 (λk r q hr hk=>H2 k r q (List.mem_append_left _ hr) hk)),j3 L1 H1 (λk r q hr hk=>H2 k r q (List.mem_append_right _ hr) hk) H3⟩
 | (t,.ptr n)::ps,i,x::xs,A,log,h=>by
  simp only[rz]at h;obtain⟨⟨y,r0⟩,l1,l2,rfl,h1,h⟩:=M.al h;obtain⟨A',l3,l4,rfl,h2,h⟩:=M.al h;obtain⟨rfl,_⟩:=h;obtain⟨k1,k4⟩:=akD hI h1;obtain⟨j1,j2,j4,j3⟩:=G4 hI h2;refine⟨j1,λr j hm=>?_,λj t' n' hj bg=>?_,λL1 H1 H2 H3=>?_⟩
  ·rcases List.mem_cons.1 hm with hm|hm
   ·injection hm with e1 e2;subst e1 e2;exact⟨Nat.le_refl _,t,n,y,by simp,k1,by simp[k4]⟩
   ·obtain⟨hi,t',n',y',e1,e2,e3⟩:=j2 r j hm;have:j - i=(j - (i+1))+1:=by omega
    exact⟨by omega,t',n',y',by rw[this];simpa using e1,e2,by rw[this];simpa using e3⟩
  ·cases j with
   | zero=>exact⟨r0,by simp⟩
   | succ j =>
    obtain⟨r,hr⟩:=j4 j t' n' (by simpa using hj) bg;exact⟨r,by rw[show i+(j+1)=i+1+j by omega];exact List.mem_cons_of_mem _ hr⟩
  ·have hs:=hI.aV r0;rw[k1]at hs;obtain⟨_,g,cur,e,hf,hL,hg,hz,ho⟩:=hs;refine⟨a.eval x,_,rfl,⟨g,cur,e,by rw[k4];exact hf,H3 g r0 i _ (by simp) hL,hg,hz,?_⟩,j3 L1 H1 H2 (λk r j q hm hk=>H3 k r j q (List.mem_cons_of_mem _ hm) hk)⟩;refine Own.move (λk hk=>⟨?_,rfl⟩) (λk d rest _ hk=>⟨H3 k r0 i _ (by simp) hk,rfl⟩) ho;rcases hk with hk|⟨_,_,hk,_⟩
   ·exact H1 k hk
   ·cases hk
 | [],_,_::_,_,_,h=>h.elim
 | (_,.ro)::_,_,[],_,_,h=>h.elim
 | (_,.mut _)::_,_,[],_,_,h=>h.elim
 | (_,.mut _)::_,_,_::_,_,_,h=>h.elim
 | (_,.ptr _)::_,_,[],_,_,h=>h.elim
 | (_,.bP _)::_,_,[],_,_,h=>h.elim
 | (_,.bP _)::_,_,_::_,_,_,h=>h.elim
theorem Xb:{ps:List (Ty×Mode)}->{i:Nat}->{x:(cu ps).den}->{cs:List Value}->{v:V}->fC w L0 i ps x cs->vW ps x=some v ->
  ∃j t n y c,ps[j]?=some (t,.ptr n)/\v = .box none n t y/\cs[j]?=some c/\tf w L0 (λk=>L0 k = .an) (i+j) n t y c
 | [],_,_,_,_,_,hv=>by cases hv
 | (t,.mut n)::ps,i,x,cs,v,h,hv=>by cases hv
 | (t,.bP n)::ps,i,x,cs,v,h,hv=>by cases hv
 | (t,.ptr n)::ps,i,x,cs,v,h,hv=>by
  simp only[fC]at h;obtain⟨c,bf,rfl,h1,_⟩:=h;simp only[vW,Option.some.injEq]at hv;exact⟨0,t,n,x.1,c,rfl,hv.symm,rfl,h1⟩
 | (t,.ro)::ps,i,x,cs,v,h,hv=>by
  simp only[fC]at h;obtain⟨c,bf,rfl,h⟩:=h;simp only[vW]at hv;obtain⟨j,t',n,y,c',h1,h2,h3,h4⟩:=Xb h hv;exact⟨j+1,t',n,y,c',by simpa using h1,h2,by simpa using h3,by rw[show i+(j+1)=i+1+j by omega];exact h4⟩
theorem uN:{ps:List (Ty×Mode)}->pf ps=true->∀(j:Nat) (t:Ty) (n:Nat),ps[j]?=some (t,.ptr n)->t.depth<=n
 | [],_,j,t,n,hj=>by simp at hj
 | (t0,.ptr n0)::ps,h,j,t,n,hj=>by
  simp only[pf,Bool.and_eq_true,decide_eq_true_eq]at h;cases j with
  | zero =>
   simp only[List.getElem?_cons_zero,Option.some.injEq,Prod.mk.injEq,Mode.ptr.injEq]at hj;obtain⟨rfl,rfl⟩:=hj;exact h.1
  | succ j=>exact uN h.2 j t n (by simpa using hj)
 | (t0,.mut n0)::ps,h,j,t,n,hj=>by
  cases j with
  | zero=>simp at hj
  | succ j=>exact uN (ps:=ps) h j t n (by simpa using hj)
 | (t0,.ro)::ps,h,j,t,n,hj=>by
  cases j with
  | zero=>simp at hj
  | succ j=>exact uN (ps:=ps) h j t n (by simpa using hj)
 | (t0,.bP n0)::ps,h,j,t,n,hj=>by
  cases j with
  | zero=>simp at hj
  | succ j=>exact uN (ps:=ps) h j t n (by simpa using hj)
theorem afE[ae]{ls:List Nat}{ps:List (Ty×Mode)}{rs:List (Ty×Nat)}{m d:Nat}(hI:Inv w0 L0 N vs T a w L)(Il:i≠m)(a7:Left w w' (λk=>cF (some (r,i)) ls (L k)) L' ps rs):
  (∀k q',L' k = .own i q'->dq (some (r,i)) m d L L' k = .own r q') /\
  ∀{n:Nat} {t:Ty} {x:t.den} {q:List Nat} {o:Nat} {cs:List Value},(t.depth<=n\/ls=[]) ->
   Own w' L' (λk=>L' k = .an) i n t x q o cs->Own w' (dq (some (r,i)) m d L L') (SL (dq (some (r,i)) m d L L') none) r n t x q o cs:=by
 have br:∀k q',L' k = .own i q'->dq (some (r,i)) m d L L' k = .own r q':=by
  intro k q' hk;have hp:gf (some (r,i)) (L k):=by
   apply Classical.byContradiction;intro hp;have au:k<w.heap.size:=hI.lt (λe=>hp (.inl e));have h9:=(a7.aR k au (jU hp)).1;rw[hk]at h9;rcases jU (ls:=ls) hp with h|h<;>rw[h]at h9<;>cases h9
  rw[jr hp,hk];simp[mj,Il]
 refine⟨br,λ{n t x q o cs} hl h=>?_⟩;rcases hl with hl|hl
 ·exact Own.move (S:=λ_=>False) (λk hk=>hk.elim) (λk dd rest _ hk=>⟨br k _ hk,rfl⟩) (Own.full hl h)
 ·subst hl;refine Own.move (λk hk=>⟨.inl ?_,rfl⟩) (λk dd rest _ hk=>⟨br k _ hk,rfl⟩) h;by_cases hp:gf (some (r,i)) (L k)
  ·rw[jr hp,hk];rfl
  ·have au:k<w.heap.size:=hI.lt (λe=>hp (.inl e));have h9:=(a7.aR k au (jU hp)).1;rw[hk]at h9;rw[nK hp];cases gD:L k with
   | an=>rfl
   | own s q' =>
    rw[gD]at h9;unfold cF at h9;dsimp only at h9;split at h9
    ·cases h9
    ·simp at h9
   | other=>rw[gD]at h9;cases h9
   | free=>exact absurd (.inl gD) hp
theorem alJ[ae](hI:Inv w0 L0 N vs T a w L)(dN:fO P bd){d:Nat}  
  (ho:o.op = .call { callee:=.value (.func f),args,argTypes:=cA }) (aw:o.dst=some d) (hd:d<N) (hid:(T.getD d .dead).idle=true)
  (h:(Hh C bd vs N d f args.toList).ai T ups log):Step P o w0 L0 N vs (ag T ups) a w:=by
 unfold Hh at h;split at h
 ·exact h.elim
 ·rename_i F hF;obtain⟨⟨fn,gZ,fT,mq⟩,aI⟩:=dN f F hF;have hb:=M.al h;clear h;obtain⟨A,l1,l2,rfl,h1,h⟩:=hb;obtain⟨dT,fS,px,gz⟩:=G4 hI h1;have aM:=Go.Conc.run_call_body (P:=P) (a:=a) (w:=w) ho gZ fT mq;have lk:∀r∈A.ls,r≠d:=λr hr=>cW hid (V.eP (dT r hr));rcases eJ:A.mu with _|⟨⟨r0,i⟩,_|⟨p2,rest⟩⟩
  ·rw[eJ]at h;exact h.elim
  ·rw[eJ]at h;dsimp only at h;cases hc:(A.ls.contains r0 || !decide (r0<N) || !(A.ls.isEmpty||pf F.ps))with
   | true=>rw[hc]at h;exact h.elim
   | false =>
    rw[hc]at h;obtain⟨r,eK,h⟩:=h;dsimp only at h;simp only[Bool.or_eq_false_iff,Bool.not_eq_false',decide_eq_true_eq]at hc;obtain⟨⟨dS,c7⟩,eZ⟩:=hc;have iN:r0∉A.ls:=λhm=>by rw[List.contains_iff_mem.2 hm]at dS;cases dS
    split at h
    ·rename_i v u' hv pG;obtain⟨Ts,l3,l4,rfl,dC,iK,mU⟩:=M.al h;obtain⟨rfl,_⟩:=mU;have bH:Ts=T:=by rw[kS dC (by rw[Nat.zero_add,hI.len])];rfl
     subst bH;obtain⟨_,t,n,y,h2,h5,h6⟩:=fS r0 i (by rw[eJ];simp);simp only[Nat.sub_zero]at h2 h6;have rY:i<F.ps.length:=(List.getElem?_eq_some_iff.1 h2).1;have vr:r0≠d:=cW hid (by rw[h5];rfl);have iM:∀(j:Nat) (t:Ty) (m:Mode),F.ps[j]?=some (t,m)->m.back=true->j=i:=by
      intro j t m hj hm;obtain⟨r',aX⟩:=px j t m hj hm;rw[eJ]at aX;simp only[List.mem_singleton,Prod.mk.injEq]at aX;omega
     have mC:jm w (λk=>cF (some (r0,i)) A.ls (L k)) F.ps:=by
      refine⟨λk hk=>by rw[hI.free k hk];rfl,λk k' s q h h'=>?_,λk s q h=>?_,ae.aR hI.fr.gy λk hk h0=>⟨?_,(hI.fr.aR k hk h0).2⟩⟩
      ·obtain⟨r1,e1,e2⟩:=kM h;obtain⟨r2,e3,e4⟩:=kM h';rw[e1]at e3;injection e3 with e3;injection e3 with e3 _;subst e3;exact hI.inj k k' _ _ e2 e4
      ·obtain⟨r1,e1,e2⟩:=kM h;injection e1 with e1;injection e1 with e1 e3;subst e1 e3;exact⟨t,.ptr n,h2,rfl⟩
      ·rw[(hI.fr.aR k hk h0).1];rcases h0 with h0|h0<;>rw[h0]<;>simp[cF]
     have dt:=gz (λk=>cF (some (r0,i)) A.ls (L k)) (λk hk=>by rw[hk];rfl) (λk r q hr hk=>by
      rw[hk];unfold cF;dsimp only;rw[if_neg (λe:r=r0=>iN (by rw[<-e];exact hr)),if_pos (by simpa using hr)]) (λk r j q hm hk=>by
      rw[hk];rw[eJ]at hm;simp only[List.mem_singleton,Prod.mk.injEq]at hm;obtain⟨rfl,rfl⟩:=hm;simp[cF])
     intro K Q hK;unfold Oper.wp;rw[aM,Oper.upon_enter];refine Calls.mono (aI A.x r eK w _ (args.map a.eval) mC (by simpa using dt)) ?_
     rintro e w' ⟨cs,L',rfl,a7,b8,jC⟩
     dsimp only;rw[aw];have jC:fC w' L' 0 F.ps r.2 (args.toList.map a.eval):=by simpa using jC
     refine hK _ _ (dq (some (r0,i)) F.ps.length d L L') ?_;have iG:ag Ts (((r0,u')::b7 (ch r0 d) 0 Ts)++[(d,v)])=(ag Ts ((r0,u')::b7 (ch r0 d) 0 Ts)).set d v:=by
      rw[kH];rfl
     have mD:(ag Ts ((r0,u')::b7 (ch r0 d) 0 Ts)).length=N:=by rw[ct,hI.len]
     have bQ:(ag Ts (((r0,u')::b7 (ch r0 d) 0 Ts)++[(d,v)])).getD d .dead=v:=by
      rw[iG,aF,if_pos ⟨rfl,by rw[mD];exact hd⟩]
     have bn:∀s,s≠d->(ag Ts (((r0,u')::b7 (ch r0 d) 0 Ts)++[(d,v)])).getD s .dead=(ag Ts ((r0,u')::b7 (ch r0 d) 0 Ts)).getD s .dead:=by
      intro s hs;rw[iG,aF,if_neg (λe=>hs e.1)]
     have ee:∀s v,(s,v)∈((r0,u')::b7 (ch r0 d) 0 Ts)->(s=r0/\v=u')\/(v = .dead/\s≠r0/\(Ts.getD s .dead).on r0=true):=by
      intro s v hm;rcases List.mem_cons.1 hm with hm|hm
      ·injection hm with h1 h2;exact .inl ⟨h1,h2⟩
      ·obtain⟨h1,_,_,h2⟩:=(o7 s v).1 hm;simp only[Nat.sub_zero,ch,Bool.and_eq_true,bne_iff_ne]at h2;exact .inr ⟨h1,h2.1.2,h2.1.1⟩
     have bB:(ag Ts ((r0,u')::b7 (ch r0 d) 0 Ts)).getD r0 .dead=u':=by
      refine gS (by rw[hI.len];exact c7) (by simp) (λv hm=>?_);rcases ee r0 v hm with⟨_,h⟩|⟨_,h,_⟩
      ·exact h
      ·exact absurd rfl h
     have nU:∀s,s≠d->s≠r0->(Ts.getD s .dead).on r0=true->(ag Ts ((r0,u')::b7 (ch r0 d) 0 Ts)).getD s .dead = .dead/\(Ts.getD s .dead).aJ=false:=by
      intro s bK hs af;have gH:s<N:=by
       rcases Nat.lt_or_ge s N with h|h
       ·exact h
       ·rw[dZ (by rw[hI.len];exact h)]at af;simp[V.on,V.root]at af
      have hg:ch r0 d s (Ts.getD s .dead)=true:=by
       unfold ch;rw[af];simp[hs,bK]
      refine⟨gS (by rw[hI.len];exact gH) ?_ (λv hm=>?_),?_⟩
      ·rw[List.mem_map];exact⟨(s,.dead),List.mem_cons_of_mem _ ((o7 s .dead).2 ⟨rfl,Nat.zero_le _,by rw[Nat.zero_add,hI.len];exact gH,by rw[Nat.sub_zero];exact hg⟩),rfl⟩
      ·rcases ee s v hm with⟨h,_⟩|⟨h,_⟩
       ·exact absurd h hs
       ·exact h
      ·exact By iK s (by rw[hI.len];exact gH) (by rw[Nat.zero_add];exact hg)
     have nT:∀s,s≠r0->(Ts.getD s .dead).on r0=false->(ag Ts ((r0,u')::b7 (ch r0 d) 0 Ts)).getD s .dead=Ts.getD s .dead:=by
      intro s hs af;refine eI _ _ _ (λhm=>?_);obtain⟨u,hu,he⟩:=List.mem_map.1 hm;rcases ee s u.2 (by rw[<-he];exact hu)with⟨h,_⟩|⟨_,_,h⟩
      ·exact hs h
      ·rw[af]at h;cases h
     have vg:∀r∈A.ls,((ag Ts (((r0,u')::b7 (ch r0 d) 0 Ts)++[(d,v)])).getD r .dead).deep=true:=by
      intro r hr;have fX:r≠r0:=λe=>iN (e▸hr);have ho:=V.eP (dT r hr);rw[bn r (lk r hr)];cases af:(Ts.getD r .dead).on r0 with
      | false=>rw[nT r fX af];exact dT r hr
      | true =>
       have h:=(nU r (lk r hr) fX af).2;rw[h]at ho;cases ho
     obtain⟨j,t',n',y',c',m1,m2,m3,g,cur,e,m4,m5,m6,m7,m8⟩:=Xb jC pG;have cH:=iM j t' _ m1 (by simp);subst cH;rw[h2]at m1;injection m1 with m1;injection m1 with m1 kA;injection kA with kA;subst m1 kA;rw[h6]at m3;injection m3 with m3;subst m3;rw[Nat.zero_add]at m5 m8;have B6:j≠F.ps.length:=by omega
     obtain⟨b1,b2⟩:=afE (d:=d) hI B6 a7;obtain⟨k1,k2,k3⟩:=wo (T':=ag Ts (((r0,u')::b7 (ch r0 d) 0 Ts)++[(d,v)])) (d:=d) hI a7 rfl vg b8 hv;have agX:t.depth<=n\/A.ls=[]:=by
      simp only[Bool.or_eq_true,List.isEmpty_iff]at eZ;rcases eZ with h|h
      ·exact .inr h
      ·exact .inl (uN h j t n h2)
     refine Inv.Hl hI hd hid rfl (λr i h=>by injection h with h;injection h with _ h;subst h;exact rY) a7 (by rw[ct,hI.len]) (λj' t n hj hm=>by rw[iM j' t n hj hm];rfl) ?_ ?_ ?_ bQ k1 k2 (λr i h=>by injection h with h;injection h with h _;subst h;exact iN) k3
     ·intro r i h;injection h with h;injection h with h h';subst h h';rw[bn r0 vr,bB,m2];exact⟨by rw[h5];rfl,.inr rfl,rfl,by simp,g,cur,e,m4,b1 _ _ m5,m6,m7,b2 agX m8⟩
     ·intro s r i h bK bo af;injection h with h;injection h with h h';subst h h';rw[bn s bK];exact .inl (nU s bK bo af)
     ·intro s bK hs;obtain⟨e1,e2⟩:=hs r0 j rfl;rw[bn s bK];exact nT s e1 e2
    ·exact h.elim
  ·rw[eJ]at h;exact h.elim
theorem alL[ae](hI:Inv w0 L0 N vs T a w L)(dN:fO P bd)       
  (ho:o.op = .call { callee:=.value (.func f),args,argTypes:=cA }) (aw:o.dst=some d) (hd:d<N) (hid:(T.getD d .dead).idle=true)
  (h:(Hj C bd vs N d f args.toList).ai T ups log):Step P o w0 L0 N vs (ag T ups) a w:=by
 unfold Hj at h;split at h
 ·exact h.elim
 ·generalize GW _=b at h;cases b with
  | true=>exact alJ hI dN ho aw hd hid h
  | false=>exact alK hI dN ho aw hd hid h
end
def HF(t:Ty)(n:Nat)(x:Operand):M (t.den×Nat):=
 match x with
 | .tmp s=>.get s λv=>match v with
  | .view r [] _=>.get r λu=>match u with
   | .d none k t' y=>if h:t'=t then (if (t.depth<=k/\t.depth<=n\/k=n/\n≠0)/\t.depth≠0 then .ret (h▸y,r)else .fail)else .fail
   | _=>.fail
  | .d none k t' y=>if h:t'=t then (if (t.depth<=k/\t.depth<=n\/k=n/\n≠0)/\t.depth≠0 then .ret (h▸y,s)else .fail)else .fail
  | _=>.fail
 | _=>.fail
def ry(C:Ctx):Nat->(ps:List (Ty×Mode))->List Operand->M (kO ps)
 | _,[],[]=>.ret ⟨(),[],[]⟩
 | i,(t,.ro)::ps,x::xs=>(oV C t x).bind λy=>(ry C (i+1) ps xs).bind λr=>.ret ⟨(y.1,r.x),y.2++r.ls,r.mu⟩
 | i,(t,.bP n)::ps,x::xs=>(HF t n x).bind λy=>(ry C (i+1) ps xs).bind λr=>.ret ⟨(y.1,r.x),r.ls,(y.2,i)::r.mu⟩
 | _,_,_=>.fail
def Hg(C:Ctx)(bd:dp)(vs:List Nat)(N d:Nat)(f:FuncId)(args:List Operand):M (List (Nat×V)):=
 match bd f with
 | none=>.fail
 | some F=>(ry C 0 F.ps args).bind λA=>match A.mu with
  | [(r0,_)]=>cond (A.ls.contains r0 || !decide (r0<N)) .fail (.cD (.pair (cL F.rs) (cu F.ps)) (F.ao A.x) λr=>match lO vs A.ls F.rs r.1 with
   | some v=>cond (vs.contains r0) ((allM 0 N).bind λTs=>.bj (mg (ch r0 d) 0 Ts) (.ret (((r0,.dead)::b7 (ch r0 d) 0 Ts)++[(d,v)]))) (.ret [(r0,.dead),(d,v)])
   | none=>.fail)
  | _=>.fail
def GV:List (Ty×Mode)->Bool
 | []=>false
 | (_,.bP _)::_=>true
 | _::ps=>GV ps
def Hk(C:Ctx)(bd:dp)(vs:List Nat)(N d:Nat)(f:FuncId)(args:List Operand):M (List (Nat×V)):=
 match bd f with
 | none=>.fail
 | some F=>cond (GV F.ps) (Hg C bd vs N d f args) (Hj C bd vs N d f args)
section
variable{P:Program}{C:Ctx}{w w' w0:World}{S S':Nat->Prop}{L L' L0:Nat->aj}{s N:Nat}{vs:List Nat}{T T':List V}{tm tm':Array Value}{a:Act}
theorem afV[ae](hI:Inv w0 L0 N vs T a w L){t:Ty}{y:t.den}(h:(HF t n x).ai T (y,r) log):
  ∃k,T.getD r .dead = .d none k t y/\(t.depth<=k/\t.depth<=n\/k=n/\n≠0)/\t.depth≠0/\a.eval x=a.tmps.getD r undef:=by
 unfold HF at h;split at h
 ·rename_i s;obtain⟨aC,rfl,h⟩:=h;have hs:=hI.aV s;generalize hv:T.getD s .dead=v at h hs;dsimp only at h;split at h
  ·rename_i r' t2;obtain⟨log2,rfl,h⟩:=h;dsimp only at h;split at h
   ·rename_i n' t' y' hu;split at h
    ·rename_i ht;subst ht;split at h
     ·rename_i hc;obtain⟨hk,hd⟩:=hc;obtain⟨h,_⟩:=h;injection h with h1 h2;subst h1 h2;refine⟨n',hu,hk,hd,?_⟩;obtain⟨_,h1⟩:=hs;rcases h1 with⟨_,h2,_⟩|⟨_,_,_,h2,_⟩
      ·exact h2
      ·rw[hu]at h2;simp[V.dj]at h2
     ·exact h.elim
    ·exact h.elim
   ·exact h.elim
  ·rename_i n' t' y';split at h
   ·rename_i ht;subst ht;split at h
    ·rename_i hc;obtain⟨hk,hd⟩:=hc;obtain⟨h,_⟩:=h;injection h with h1 h2;subst h1 h2;exact⟨n',hv,hk,hd,rfl⟩
    ·exact h.elim
   ·exact h.elim
  ·exact h.elim
 ·exact h.elim
theorem G1[ae](hI:Inv w0 L0 N vs T a w L):{ps:List (Ty×Mode)}->{i:Nat}->{xs:List Operand}->{A:kO ps}->{log:List Nat}->(ry C i ps xs).ai T A log ->
  (∀r∈A.ls,(T.getD r .dead).deep=true)/\(∀r j,(r,j)∈A.mu->i<=j/\∃t n k y,ps[j - i]?=some (t,.bP n)/\T.getD r .dead = .d none k t y/\(t.depth<=k/\t.depth<=n\/k=n/\n≠0)/\t.depth≠0/\(xs.map a.eval)[j - i]?=some (a.tmps.getD r undef)) /\
  (∀(j:Nat) (t:Ty) (m:Mode),ps[j]?=some (t,m)->m.back=false) /\
  ∀L1:Nat->aj,(∀k,L k = .an->L1 k = .an)->(∀k r q,r∈A.ls->L k = .own r q->L1 k = .an)->(∀k r j q,(r,j)∈A.mu->L k = .own r q->L1 k = .own j q)->dH w L1 i ps A.x (xs.map a.eval)
 | [],i,[],A,log,h=>by
  obtain⟨rfl,_⟩:=h;exact⟨by simp,by simp,by simp,λ_ _ _ _=>rfl⟩
 | (t,.ro)::ps,i,x::xs,A,log,h=>by
  simp only[ry]at h;obtain⟨⟨y,ls⟩,l1,l2,rfl,h1,h⟩:=M.al h;obtain⟨A',l3,l4,rfl,h2,h⟩:=M.al h;obtain⟨rfl,_⟩:=h;obtain⟨cells,k1,k2,k3⟩:=uv hI h1;obtain⟨j1,j2,j4,j3⟩:=G1 hI h2;refine⟨λr hr=>?_,λr j hm=>?_,λj t' m hj=>?_,λL1 H1 H2 H3=>?_⟩
  ·rcases List.mem_append.1 hr with hr|hr
   ·exact k2 r hr
   ·exact j1 r hr
  ·obtain⟨hi,t',n',k',y',e1,e2,e3,e5,e6⟩:=j2 r j hm;have:j - i=(j - (i+1))+1:=by omega
   exact⟨by omega,t',n',k',y',by rw[this];simpa using e1,e2,e3,e5,by rw[this];simpa using e6⟩
  ·cases j with
   | zero =>
    simp only[List.getElem?_cons_zero,Option.some.injEq,Prod.mk.injEq]at hj;rw[<-hj.2];rfl
   | succ j=>exact j4 j t' m (by simpa using hj)
  ·exact⟨a.eval x,_,cells,rfl,k1,Own.dw (k3 _ H1 (λk r q hr hk=>H2 k r q (List.mem_append_left _ hr) hk)),j3 L1 H1 (λk r q hr hk=>H2 k r q (List.mem_append_right _ hr) hk) H3⟩
 | (t,.bP n)::ps,i,x::xs,A,log,h=>by
  simp only[ry]at h;obtain⟨⟨y,r0⟩,l1,l2,rfl,h1,h⟩:=M.al h;obtain⟨A',l3,l4,rfl,h2,h⟩:=M.al h;obtain⟨rfl,_⟩:=h;obtain⟨k0,k1,k2,k4,k5⟩:=afV hI h1;obtain⟨j1,j2,j4,j3⟩:=G1 hI h2;refine⟨j1,λr j hm=>?_,λj t' m hj=>?_,λL1 H1 H2 H3=>?_⟩
  ·rcases List.mem_cons.1 hm with hm|hm
   ·injection hm with e1 e2;subst e1 e2;exact⟨Nat.le_refl _,t,n,k0,y,by simp,k1,k2,k4,by simp[k5]⟩
   ·obtain⟨hi,t',n',k',y',e1,e2,e3,e5,e6⟩:=j2 r j hm;have:j - i=(j - (i+1))+1:=by omega
    exact⟨by omega,t',n',k',y',by rw[this];simpa using e1,e2,e3,e5,by rw[this];simpa using e6⟩
  ·cases j with
   | zero =>
    simp only[List.getElem?_cons_zero,Option.some.injEq,Prod.mk.injEq]at hj;rw[<-hj.2];rfl
   | succ j=>exact j4 j t' m (by simpa using hj)
  ·have hs:=hI.aV r0;rw[k1]at hs;obtain⟨_,cells,hf,ho⟩:=hs;refine⟨a.eval x,_,cells,rfl,by rw[k5];exact hf,?_,j3 L1 H1 H2 (λk r j q hm hk=>H3 k r j q (List.mem_cons_of_mem _ hm) hk)⟩;refine Own.move (λk hk=>⟨?_,rfl⟩) (λk d rest _ hk=>⟨H3 k r0 i _ (by simp) hk,rfl⟩) (k2.elim (λk2=>Own.cap k2.1 k2.2 ho) (λk2=>k2.1▸ho));rcases hk with hk|⟨_,_,hk,_⟩
   ·exact H1 k hk
   ·cases hk
 | [],_,_::_,_,_,h=>h.elim
 | (_,.ro)::_,_,[],_,_,h=>h.elim
 | (_,.mut _)::_,_,[],_,_,h=>h.elim
 | (_,.mut _)::_,_,_::_,_,_,h=>h.elim
 | (_,.ptr _)::_,_,[],_,_,h=>h.elim
 | (_,.ptr _)::_,_,_::_,_,_,h=>h.elim
 | (_,.bP _)::_,_,[],_,_,h=>h.elim
theorem S3{g:Nat->V->Bool}:{i:Nat}->{l:List V}->(∀z,∀u∈l,g z u=false)->b7 g i l=[]
 | _,[],_=>rfl
 | i,v::l,h=>by
  unfold b7;rw[h i v (List.mem_cons_self ..),cond_false];exact S3 λz u hu=>h z u (List.mem_cons_of_mem _ hu)
theorem S1{g:Nat->V->Bool}:{i:Nat}->{l:List V}->(∀z,∀u∈l,g z u=false)->mg g i l=true
 | _,[],_=>rfl
 | i,v::l,h=>by
  unfold mg;rw[h i v (List.mem_cons_self ..)];exact S1 λz u hu=>h z u (List.mem_cons_of_mem _ hu)
theorem alI[ae](hI:Inv w0 L0 N vs T a w L)(dN:fO P bd){d:Nat}  
  (ho:o.op = .call { callee:=.value (.func f),args,argTypes:=cA }) (aw:o.dst=some d) (hd:d<N) (hid:(T.getD d .dead).idle=true)
  (h:(Hg C bd vs N d f args.toList).ai T ups log):Step P o w0 L0 N vs (ag T ups) a w:=by
 unfold Hg at h;split at h
 ·exact h.elim
 ·rename_i F hF;obtain⟨⟨fn,gZ,fT,mq⟩,aI⟩:=dN f F hF;have hb:=M.al h;clear h;obtain⟨A,l1,l2,rfl,h1,h⟩:=hb;obtain⟨dT,fS,rR,gz⟩:=G1 hI h1;have aM:=Go.Conc.run_call_body (P:=P) (a:=a) (w:=w) ho gZ fT mq;have lk:∀r∈A.ls,r≠d:=λr hr=>cW hid (V.eP (dT r hr));rcases eJ:A.mu with _|⟨⟨r0,i⟩,_|⟨p2,rest⟩⟩
  ·rw[eJ]at h;exact h.elim
  ·rw[eJ]at h;dsimp only at h;cases hc:(A.ls.contains r0 || !decide (r0<N))with
   | true=>rw[hc]at h;exact h.elim
   | false =>
    rw[hc]at h;obtain⟨r,eK,h⟩:=h;dsimp only at h;simp only[Bool.or_eq_false_iff,Bool.not_eq_false',decide_eq_true_eq]at hc;obtain⟨dS,c7⟩:=hc;have iN:r0∉A.ls:=λhm=>by rw[List.contains_iff_mem.2 hm]at dS;cases dS
    split at h
    ·rename_i v hv;have main:∀Ts,Ts=T->mg (ch r0 d) 0 Ts=true->Step P o w0 L0 N vs (ag Ts (((r0,V.dead)::b7 (ch r0 d) 0 Ts)++[(d,v)])) a w:=by
      intro Ts bH iK;subst bH;obtain⟨_,t,n,k0,y,h2,h5,apw,hk3,h6⟩:=fS r0 i (by rw[eJ];simp);simp only[Nat.sub_zero]at h2 h6;have rY:i<F.ps.length:=(List.getElem?_eq_some_iff.1 h2).1;have UZ:(Ts.getD r0 .dead).aJ=true:=by
       rw[h5];simp only[V.aJ,Bool.and_eq_true,bne_iff_ne];omega
      have vr:r0≠d:=cW hid UZ;have mC:jm w (λk=>cF (some (r0,i)) A.ls (L k)) F.ps:=by
       refine⟨λk hk=>by rw[hI.free k hk];rfl,λk k' s q h h'=>?_,λk s q h=>?_,ae.aR hI.fr.gy λk hk h0=>⟨?_,(hI.fr.aR k hk h0).2⟩⟩
       ·obtain⟨r1,e1,e2⟩:=kM h;obtain⟨r2,e3,e4⟩:=kM h';rw[e1]at e3;injection e3 with e3;injection e3 with e3 _;subst e3;exact hI.inj k k' _ _ e2 e4
       ·obtain⟨r1,e1,e2⟩:=kM h;injection e1 with e1;injection e1 with e1 e3;subst e1 e3;exact⟨t,.bP n,h2,by simp only[Mode.owned,Bool.and_eq_true,bne_iff_ne];omega⟩
       ·rw[(hI.fr.aR k hk h0).1];rcases h0 with h0|h0<;>rw[h0]<;>simp[cF]
      have dt:=gz (λk=>cF (some (r0,i)) A.ls (L k)) (λk hk=>by rw[hk];rfl) (λk r q hr hk=>by
       rw[hk];unfold cF;dsimp only;rw[if_neg (λe:r=r0=>iN (by rw[<-e];exact hr)),if_pos (by simpa using hr)]) (λk r j q hm hk=>by
       rw[hk];rw[eJ]at hm;simp only[List.mem_singleton,Prod.mk.injEq]at hm;obtain⟨rfl,rfl⟩:=hm;simp[cF])
      intro K Q hK;unfold Oper.wp;rw[aM,Oper.upon_enter];refine Calls.mono (aI A.x r eK w _ (args.map a.eval) mC (by simpa using dt)) ?_
      rintro e w' ⟨cs,L',rfl,a7,b8,jC⟩
      dsimp only;rw[aw];refine hK _ _ (dq (some (r0,i)) F.ps.length d L L') ?_;have iG:ag Ts (((r0,V.dead)::b7 (ch r0 d) 0 Ts)++[(d,v)])=(ag Ts ((r0,V.dead)::b7 (ch r0 d) 0 Ts)).set d v:=by
       rw[kH];rfl
      have mD:(ag Ts ((r0,V.dead)::b7 (ch r0 d) 0 Ts)).length=N:=by rw[ct,hI.len]
      have bQ:(ag Ts (((r0,V.dead)::b7 (ch r0 d) 0 Ts)++[(d,v)])).getD d .dead=v:=by
       rw[iG,aF,if_pos ⟨rfl,by rw[mD];exact hd⟩]
      have bn:∀s,s≠d->(ag Ts (((r0,V.dead)::b7 (ch r0 d) 0 Ts)++[(d,v)])).getD s .dead=(ag Ts ((r0,V.dead)::b7 (ch r0 d) 0 Ts)).getD s .dead:=by
       intro s hs;rw[iG,aF,if_neg (λe=>hs e.1)]
      have ee:∀s v,(s,v)∈((r0,V.dead)::b7 (ch r0 d) 0 Ts)->(s=r0/\v = .dead)\/(v = .dead/\s≠r0/\(Ts.getD s .dead).on r0=true):=by
       intro s v hm;rcases List.mem_cons.1 hm with hm|hm
       ·injection hm with h1 h2;exact .inl ⟨h1,h2⟩
       ·obtain⟨h1,_,_,h2⟩:=(o7 s v).1 hm;simp only[Nat.sub_zero,ch,Bool.and_eq_true,bne_iff_ne]at h2;exact .inr ⟨h1,h2.1.2,h2.1.1⟩
      have bB:(ag Ts ((r0,V.dead)::b7 (ch r0 d) 0 Ts)).getD r0 .dead = .dead:=by
       refine gS (by rw[hI.len];exact c7) (by simp) (λv hm=>?_);rcases ee r0 v hm with⟨_,h⟩|⟨_,h,_⟩
       ·exact h
       ·exact absurd rfl h
      have nU:∀s,s≠d->s≠r0->(Ts.getD s .dead).on r0=true->(ag Ts ((r0,V.dead)::b7 (ch r0 d) 0 Ts)).getD s .dead = .dead/\(Ts.getD s .dead).aJ=false:=by
       intro s bK hs af;have gH:s<N:=by
        rcases Nat.lt_or_ge s N with h|h
        ·exact h
        ·rw[dZ (by rw[hI.len];exact h)]at af;simp[V.on,V.root]at af
       have hg:ch r0 d s (Ts.getD s .dead)=true:=by
        unfold ch;rw[af];simp[hs,bK]
       refine⟨gS (by rw[hI.len];exact gH) ?_ (λv hm=>?_),?_⟩
       ·rw[List.mem_map];exact⟨(s,.dead),List.mem_cons_of_mem _ ((o7 s .dead).2 ⟨rfl,Nat.zero_le _,by rw[Nat.zero_add,hI.len];exact gH,by rw[Nat.sub_zero];exact hg⟩),rfl⟩
       ·rcases ee s v hm with⟨h,_⟩|⟨h,_⟩
        ·exact absurd h hs
        ·exact h
       ·exact By iK s (by rw[hI.len];exact gH) (by rw[Nat.zero_add];exact hg)
      have nT:∀s,s≠r0->(Ts.getD s .dead).on r0=false->(ag Ts ((r0,V.dead)::b7 (ch r0 d) 0 Ts)).getD s .dead=Ts.getD s .dead:=by
       intro s hs af;refine eI _ _ _ (λhm=>?_);obtain⟨u,hu,he⟩:=List.mem_map.1 hm;rcases ee s u.2 (by rw[<-he];exact hu)with⟨h,_⟩|⟨_,_,h⟩
       ·exact hs h
       ·rw[af]at h;cases h
      have vg:∀r∈A.ls,((ag Ts (((r0,V.dead)::b7 (ch r0 d) 0 Ts)++[(d,v)])).getD r .dead).deep=true:=by
       intro r hr;have fX:r≠r0:=λe=>iN (e▸hr);have ho:=V.eP (dT r hr);rw[bn r (lk r hr)];cases af:(Ts.getD r .dead).on r0 with
       | false=>rw[nT r fX af];exact dT r hr
       | true =>
        have h:=(nU r (lk r hr) fX af).2;rw[h]at ho;cases ho
      obtain⟨k1,k2,k3⟩:=wo (T':=ag Ts (((r0,V.dead)::b7 (ch r0 d) 0 Ts)++[(d,v)])) (d:=d) hI a7 rfl vg b8 hv;refine Inv.Hl hI hd hid rfl (λr i h=>by injection h with h;injection h with _ h;subst h;exact rY) a7 (by rw[ct,hI.len]) (λj' t n hj hm=>by rw[rR j' t n hj]at hm;cases hm) ?_ ?_ ?_ bQ k1 k2 (λr i h=>by injection h with h;injection h with h _;subst h;exact iN) k3
      ·intro r i h;injection h with h;injection h with h h';subst h h';rw[bn r0 vr,bB];exact⟨UZ,.inl rR,rfl,trivial⟩
      ·intro s r i h bK bo af;injection h with h;injection h with h h';subst h h';rw[bn s bK];exact .inl (nU s bK bo af)
      ·intro s bK hs;obtain⟨e1,e2⟩:=hs r0 i rfl;rw[bn s bK];exact nT s e1 e2
     cases bc:vs.contains r0 with
     | true =>
      rw[bc,cond_true]at h;obtain⟨Ts,l3,l4,rfl,dC,iK,mU⟩:=M.al h;obtain⟨rfl,_⟩:=mU;have bH:Ts=T:=by rw[kS dC (by rw[Nat.zero_add,hI.len])];rfl
      have:=main Ts bH iK
      rwa [bH]at this ⊢
     | false =>
      rw[bc,cond_false]at h;obtain⟨rfl,_⟩:=h;have cj:∀z,∀u∈T,ch r0 d z u=false:=by
       intro z u hu;obtain⟨s,hs,rfl⟩:=List.getElem_of_mem hu;cases af:(T[s]).on r0 with
       | false=>unfold ch;rw[af];rfl
       | true =>
        have:=hI.roots s r0 (by rw[List.getD_eq_getElem?_getD,List.getElem?_eq_getElem hs];exact af);rw[List.contains_iff_mem.2 this]at bc;cases bc
      have h1:=main T rfl (S1 cj)
      rwa [S3 cj]at h1
    ·exact h.elim
  ·rw[eJ]at h;exact h.elim
theorem alM[ae](hI:Inv w0 L0 N vs T a w L)(dN:fO P bd)       
  (ho:o.op = .call { callee:=.value (.func f),args,argTypes:=cA }) (aw:o.dst=some d) (hd:d<N) (hid:(T.getD d .dead).idle=true)
  (h:(Hk C bd vs N d f args.toList).ai T ups log):Step P o w0 L0 N vs (ag T ups) a w:=by
 unfold Hk at h;split at h
 ·exact h.elim
 ·generalize GV _=b at h;cases b with
  | true=>exact alI hI dN ho aw hd hid h
  | false=>exact alL hI dN ho aw hd hid h
end
end Go.Proofs.YthfgcmoipebheaaGreat.P.Am
