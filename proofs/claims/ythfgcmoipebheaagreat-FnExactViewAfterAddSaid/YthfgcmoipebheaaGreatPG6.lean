/- A part of the proof: Am48,Am49,Am57,Am58,Am60,Am54,Am55,Am59. No conditions. -/
import Derived.Test.YthfgcmoipebheaaGreatPG5
set_option linter.unusedVariables false
set_option linter.unusedSimpArgs false
namespace Go.Proofs.YthfgcmoipebheaaGreat.P.Am
variable{d i n r sz t:Nat}{kids log q:List Nat}{o:Oper}{ups:List (Nat×V)}{x:Operand}{m:M (List (Nat×V))}{args:Array Operand}{cG:Array TypeId}{bj:dI}{f:FuncId}{X:TypeId}{p:List St}{u:V}
structure ag1 where
 i:Nat
 r:Nat
 p:List St
 u:V
 n':Nat
 t:Ty
def Jy(t:Ty)(n:Nat)(x:Operand):M (t.den×Nat×List St×V×Nat):=
 match x with
 | .tmp s=>.get s λv=>match v with
  | .view r p tv=>.get r λu=>(dG p u).bind λz =>
   if h:z.2.t=t then (if tv=t/\t.depth<=z.2.n/\t.depth<=n/\t.depth≠0/\z.1=none then .ret (h▸z.2.x,r,p,u,z.2.n)else .fail)else .fail
  | _=>.fail
 | _=>.fail
structure xY (ps:List (Ty×Mode)) where
 x:(dn ps).den
 ls:List Nat
 mu:List ag1
def lB(C:Ctx):Nat->(ps:List (Ty×Mode))->List Operand->M (xY ps)
 | _,[],[]=>.ret ⟨(),[],[]⟩
 | i,(t,.ro)::ps,x::xs=>(py C t x).bind λy=>(lB C (i+1) ps xs).bind λr=>.ret ⟨(y.1,r.x),y.2++r.ls,r.mu⟩
 | i,(t,.mut n)::ps,x::xs=>(Jy t n x).bind λy=>(lB C (i+1) ps xs).bind λr=>.ret ⟨(y.1,r.x),r.ls,⟨i,y.2.1,y.2.2.1,y.2.2.2.1,y.2.2.2.2,t⟩::r.mu⟩
 | _,_,_=>.fail
def cb(g:Nat->V->Bool):Nat->List V->List (Nat×V)
 | _,[]=>[]
 | i,v::l=>cond (g i v) ((i,.dead)::cb g (i+1) l) (cb g (i+1) l)
def mO(g:Nat->V->Bool):Nat->List V->Bool
 | _,[]=>true
 | i,v::l=>(!(g i v) || !v.aO)&&mO g (i+1) l
def ik(r d:Nat)(u:V):Nat->V->Bool:=λz v=>v.on r&&z != r&&z != d && !qh u v
def JN(C:Ctx)(bj:dI)(vs:List Nat)(N d:Nat)(f:FuncId)(args:List Operand):M (List (Nat×V)):=
 match bj f with
 | none=>.fail
 | some F=>(lB C 0 F.ps args).bind λA=>match A.mu,F.rs with
  | [m],[(t0,n0)]=>cond (A.ls.contains m.r || !decide (m.r<N) || !decide (t0.depth=0) || !decide (n0<1000)) .fail (.cL (.pair (cX F.rs) (cD F.ps)) (F.al A.x) λres=>match mg vs [] F.rs res.1,ti F.ps res.2 with
   | some (.d none n1 t1 x1),some (.d none _ t' y')=>if h:t'=m.t then
     (if t1.depth=0 then (fT m.p m.u m.t (h▸y')).bind λu2=>(allM 0 N).bind λTs=>.bn (mO (ik m.r d m.u) 0 Ts) (.ret (((m.r,u2)::cb (ik m.r d m.u) 0 Ts)++[(d,.d none n1 t1 x1)]))else .fail)else .fail
   | _,_=>.fail)
  | _,_=>.fail
def abl:List (Ty×Mode)->List Operand->Option Operand
 | (_,.ro)::ps,_::xs=>abl ps xs
 | (_,.mut _)::_,x::_=>some x
 | _,_=>none
def JR(C:Ctx)(bj:dI)(vs:List Nat)(N d:Nat)(f:FuncId)(args:List Operand):M (List (Nat×V)):=
 match bj f with
 | none=>.fail
 | some F=>match abl F.ps args with
  | some (.tmp s)=>.get s λv=>match v with
   | .view r p _=>.get r λu=>cond (u.dE&&p.isEmpty) (vq C bj vs N d f args) (JN C bj vs N d f args)
   | _=>vq C bj vs N d f args
  | _=>vq C bj vs N d f args
section
variable{P:Program}{C:Ctx}{w w' w0:World}{S S':Nat->Prop}{L L' L0:Nat->ak}{s N:Nat}{vs:List Nat}{T T':List V}{tm tm':Array Value}{a:Act}
theorem pH{g:Nat->V->Bool}:{i:Nat}->{l:List V}->(s:Nat)->(v:V)->((s,v)∈cb g i l↔v = .dead/\i<=s/\s<i+l.length/\g s (l.getD (s - i) .dead)=true)
 | i,[],s,v=>by
  simp only[cb,List.not_mem_nil,false_iff]
  rintro⟨_,h1,h2,_⟩
  simp at h2;omega
 | i,x::l,s,v=>by
  have ih:=pH (g:=g) (i:=i+1) (l:=l) s v;have e:∀h:i+1<=s,(x::l).getD (s - i) .dead=l.getD (s - (i+1)) .dead:=λh=>by
   rw[show s - i=(s - (i+1))+1 by omega];rfl
  unfold cb;cases hg:g i x with
  | true =>
   rw[cond_true,List.mem_cons,ih];constructor
   ·rintro (h|⟨h1,h2,h3,h4⟩)
    ·injection h with h1 h2;subst h1;refine⟨h2,Nat.le_refl _,by simp,by rw[Nat.sub_self];exact hg⟩
    ·exact⟨h1,by omega,by simp only[List.length_cons];omega,by rw[e h2];exact h4⟩
   ·rintro⟨h1,h2,h3,h4⟩
    by_cases hs:s=i
    ·left;rw[hs,h1]
    ·right;simp only[List.length_cons]at h3;refine⟨h1,by omega,by omega,by rw[<-e (by omega)];exact h4⟩
  | false =>
   rw[cond_false,ih];constructor
   ·rintro⟨h1,h2,h3,h4⟩
    exact⟨h1,by omega,by simp only[List.length_cons];omega,by rw[e h2];exact h4⟩
   ·rintro⟨h1,h2,h3,h4⟩
    by_cases hs:s=i
    ·subst hs;rw[Nat.sub_self]at h4;change g s x=true at h4;rw[hg]at h4;cases h4
    ·simp only[List.length_cons]at h3;refine⟨h1,by omega,by omega,by rw[<-e (by omega)];exact h4⟩
theorem Dg{g:Nat->V->Bool}:{i:Nat}->{l:List V}->mO g i l=true->∀s,s<l.length->g (i+s) (l.getD s .dead)=true->(l.getD s .dead).aO=false
 | _,[],_,s,h,_=>by simp at h
 | i,x::l,hk,s,h,hg=>by
  simp only[mO,Bool.and_eq_true,Bool.or_eq_true,Bool.not_eq_true']at hk;cases s with
  | zero =>
   change g (i+0) x=true at hg;rw[Nat.add_zero]at hg;change x.aO=false;rcases hk.1 with h1|h1
   ·rw[hg]at h1;cases h1
   ·exact h1
  | succ s =>
   simp only[List.length_cons]at h;exact Dg (g:=g) (i:=i+1) hk.2 s (by omega) (by rw[show i+1+s=i+(s+1)by omega];exact hg)
theorem Form.inj{t:Ty}{c1 c2:List Value}{c:Value}(h1:Form t c1 c)(h2:Form t c2 c):c1=c2:=by
 cases t with
 | agg t =>
  have h1:c = .agg c1.toArray:=h1;have h2:c = .agg c2.toArray:=h2;rw[h1]at h2;injection h2 with h2;simpa using congrArg Array.toList h2
 | _=>exact (show c1=[c]from h1).trans (show c2=[c]from h2).symm
theorem ak9[ae](hI:Inv w0 L0 N vs T a w L){t:Ty}{y:t.den}{n':Nat}(h:(Jy t n x).aj T (y,r,p,u,n') log):
  T.getD r .dead=u/\t.depth<=n'/\t.depth<=n/\t.depth≠0/\(∃log,(dG p u).aj T (none,⟨n',t,y⟩) log) /\
   ∃g cur e,L g = .own r (node [] 0 p).1/\w.heap[g]?=some (.cells cur e (0,0))/\Form t ((cur.toList.drop (node [] 0 p).2).take t.sz) (a.eval x)/\Own w L (SL L none) r n' t y (node [] 0 p).1 (node [] 0 p).2 ((cur.toList.drop (node [] 0 p).2).take t.sz):=by
 unfold Jy at h;split at h
 ·rename_i s;obtain⟨aD,rfl,h⟩:=h;have hs:=hI.aX s;generalize hv:T.getD s .dead=v at h hs;dsimp only at h;split at h
  ·rename_i r' p' tv;obtain⟨log2,rfl,h⟩:=h;dsimp only at h;obtain⟨⟨l,k,t',x'⟩,l1,l2,rfl,h1,h⟩:=M.aq h;dsimp only at h;split at h
   ·rename_i ht;subst ht;split at h
    ·rename_i hc;obtain⟨rfl,c1,c2,c3,rfl⟩:=hc;obtain⟨h,_⟩:=h;injection h with e1 e2;injection e2 with e2 e3;injection e3 with e3 e4;injection e4 with e4 e5;subst e1 e2 e3 e4 e5;have bh:=hI.aX r;obtain⟨⟨g,cur,e,k1,k2,k3,k4⟩,_,_,_,lK⟩:=lb h1 bh;refine⟨rfl,c1,c2,c3,⟨_,h1⟩,g,cur,e,k1,k2,?_,k4⟩;obtain⟨_,h2⟩:=hs;rcases h2 with⟨h2,_,l0,n0,x0,h3,_⟩|⟨g',cur',e',_,j1,j2,j3,j4⟩
     ·rw[h3]at lK;rcases lK with h|h
      ·simp[V.dE]at h
      ·exact absurd h2 h
     ·obtain rfl:=hI.inj g g' r _ k1 j1;rw[k2]at j2;injection j2 with j2;injection j2 with j2 _ _;subst j2;exact j4
    ·exact h.elim
   ·exact h.elim
  ·exact h.elim
 ·exact h.elim
theorem JA[ae](hI:Inv w0 L0 N vs T a w L):{ps:List (Ty×Mode)}->{i:Nat}->{xs:List Operand}->{A:xY ps}->{log:List Nat}->(lB C i ps xs).aj T A log ->
  (∀r∈A.ls,(T.getD r .dead).deep=true) /\
  (∀m∈A.mu,i<=m.i/\∃n y,ps[m.i - i]?=some (m.t,.mut n)/\m.t.depth<=n/\m.t.depth<=m.n'/\m.t.depth≠0/\T.getD m.r .dead=m.u/\(∃log,(dG m.p m.u).aj T (none,⟨m.n',m.t,y⟩) log) /\
   ∃g cur e c,L g = .own m.r (node [] 0 m.p).1/\w.heap[g]?=some (.cells cur e (0,0))/\(xs.map a.eval)[m.i - i]?=some c/\Form m.t ((cur.toList.drop (node [] 0 m.p).2).take m.t.sz) c) /\
  (∀j t n,ps[j]?=some (t,.mut n)->∃m∈A.mu,m.i=i+j) /\
  ∀L1:Nat->ak,(∀k,L k = .au->L1 k = .au)->(∀k r q,r∈A.ls->L k = .own r q->L1 k = .au) ->
   (∀k m z rest,m∈A.mu->L k = .own m.r ((node [] 0 m.p).1++((node [] 0 m.p).2+z)::rest)->z<m.t.sz->L1 k = .own m.i (z::rest))->dT w L1 i ps A.x (xs.map a.eval)
 | [],i,[],A,log,h=>by
  obtain⟨rfl,_⟩:=h;exact⟨by simp,by simp,by simp,λ_ _ _ _=>rfl⟩
 | (t,.ro)::ps,i,x::xs,A,log,h=>by
  simp only[lB]at h;obtain⟨⟨y,ls⟩,l1,l2,rfl,h1,h⟩:=M.aq h;obtain⟨A',l3,l4,rfl,h2,h⟩:=M.aq h;obtain⟨rfl,_⟩:=h;obtain⟨cells,k1,k2,k3⟩:=vk hI h1;obtain⟨j1,j2,j4,j3⟩:=JA hI h2;refine⟨λr hr=>?_,λm hm=>?_,λj t' n hj=>?_,λL1 H1 H2 H3=>?_⟩
  ·rcases List.mem_append.1 hr with hr|hr
   ·exact k2 r hr
   ·exact j1 r hr
  ·obtain⟨hi,n',y',e1,e2,e3,e4,e5,e6,g,cur,e,c,f1,f2,f3,f4⟩:=j2 m hm;have:m.i - i=(m.i - (i+1))+1:=by omega
   exact⟨by omega,n',y',by rw[this];simpa using e1,e2,e3,e4,e5,e6,g,cur,e,c,f1,f2,by rw[this];simpa using f3,f4⟩
  ·cases j with
   | zero=>simp at hj
   | succ j =>
    obtain⟨m,hm,he⟩:=j4 j t' n (by simpa using hj);exact⟨m,hm,by omega⟩
  ·exact⟨a.eval x,_,cells,rfl,k1,Own.dM (k3 _ H1 (λk r q hr hk=>H2 k r q (List.mem_append_left _ hr) hk)),j3 L1 H1 (λk r q hr hk=>H2 k r q (List.mem_append_right _ hr) hk) H3⟩
 | (t,.mut n)::ps,i,x::xs,A,log,h=>by
  simp only[lB]at h;obtain⟨⟨y,r0,p0,u0,n0⟩,l1,l2,rfl,h1,h⟩:=M.aq h;obtain⟨A',l3,l4,rfl,h2,h⟩:=M.aq h;obtain⟨rfl,_⟩:=h;obtain⟨k1,k2,k3,k4,k5,g,cur,e,k6,k7,k8,k9⟩:=ak9 hI h1;obtain⟨j1,j2,j4,j3⟩:=JA hI h2;refine⟨j1,λm hm=>?_,λj t' n' hj=>?_,λL1 H1 H2 H3=>?_⟩
  ·rcases List.mem_cons.1 hm with hm|hm
   ·subst hm;exact⟨Nat.le_refl _,n,y,by simp,k3,k2,k4,k1,k5,g,cur,e,a.eval x,k6,k7,by simp,k8⟩
   ·obtain⟨hi,n',y',e1,e2,e3,e4,e5,e6,g,cur,e,c,f1,f2,f3,f4⟩:=j2 m hm;have:m.i - i=(m.i - (i+1))+1:=by omega
    exact⟨by omega,n',y',by rw[this];simpa using e1,e2,e3,e4,e5,e6,g,cur,e,c,f1,f2,by rw[this];simpa using f3,f4⟩
  ·cases j with
   | zero=>exact⟨_,List.mem_cons_self ..,rfl⟩
   | succ j =>
    obtain⟨m,hm,he⟩:=j4 j t' n' (by simpa using hj);exact⟨m,List.mem_cons_of_mem _ hm,by omega⟩
  ·refine⟨a.eval x,_,_,rfl,k8,?_,j3 L1 H1 H2 (λk m z rest hm hk hz=>H3 k m z rest (List.mem_cons_of_mem _ hm) hk hz)⟩;refine Own.cap k2 k3 (Own.move (λk hk=>⟨?_,rfl⟩) (λk d rest hd hk=>⟨?_,rfl⟩) k9)
   ·rcases hk with hk|⟨_,_,hk,_⟩
    ·exact H1 k hk
    ·cases hk
   ·have:=H3 k ⟨i,r0,p0,u0,n0,t⟩ d rest (List.mem_cons_self ..) hk hd;simpa using this
 | [],_,_::_,_,_,h=>h.elim
 | (_,.ro)::_,_,[],_,_,h=>h.elim
 | (_,.mut _)::_,_,[],_,_,h=>h.elim
 | (_,.ptr _)::_,_,[],_,_,h=>h.elim
 | (_,.ptr _)::_,_,_::_,_,_,h=>h.elim
 | (_,.bU _)::_,_,[],_,_,h=>h.elim
 | (_,.bU _)::_,_,_::_,_,_,h=>h.elim
theorem Jz{C:Ctx}:{ps:List (Ty×Mode)}->{i:Nat}->{xs:List Operand}->{A:xY ps}->{log:List Nat}->(lB C i ps xs).aj T A log->∀(j:Nat) (t:Ty) (n:Nat),ps[j]?≠some (t,.ptr n)
 | [],_,_,_,_,_,j,t,n=>by simp
 | (t0,.ro)::ps,i,x::xs,A,log,h,j,t,n=>by
  simp only[lB]at h;obtain⟨_,_,_,_,_,h⟩:=M.aq h;obtain⟨_,_,_,_,h2,_⟩:=M.aq h;cases j with
  | zero=>simp
  | succ j=>simpa using Jz h2 j t n
 | (t0,.mut n0)::ps,i,x::xs,A,log,h,j,t,n=>by
  simp only[lB]at h;obtain⟨_,_,_,_,_,h⟩:=M.aq h;obtain⟨_,_,_,_,h2,_⟩:=M.aq h;cases j with
  | zero=>simp
  | succ j=>simpa using Jz h2 j t n
 | (_,.ro)::_,_,[],_,_,h,_,_,_=>h.elim
 | (_,.mut _)::_,_,[],_,_,h,_,_,_=>h.elim
 | (_,.ptr _)::_,_,[],_,_,h,_,_,_=>h.elim
 | (_,.ptr _)::_,_,_::_,_,_,h,_,_,_=>h.elim
 | (_,.bU _)::_,_,[],_,_,h,_,_,_=>h.elim
 | (_,.bU _)::_,_,_::_,_,_,h,_,_,_=>h.elim
theorem ala[ae]{C:Ctx}{ps:List (Ty×Mode)}{xs:List Operand}{A:xY ps}(h:(lB C i ps xs).aj T A log){j:Nat}{t:Ty}{m:Mode}(hj:ps[j]?=some (t,m))(hm:m.back=true):∃n,m = .mut n:=by
 match m,hj,hm with
 | .ro,_,hm=>cases hm
 | .bU _,_,hm=>cases hm
 | .mut n,_,_=>exact⟨n,rfl⟩
 | .ptr n,hj,_=>exact absurd hj (Jz h j t n)
theorem arx[ae](hI:Inv w0 L0 N vs T a w L)(ed:fY P bj){d:Nat}  
  (ho:o.op = .call { callee:=.value (.func f),args,argTypes:=cG }) (aA:o.dst=some d) (hd:d<N) (hid:(T.getD d .dead).idle=true)
  (h:(JN C bj vs N d f args.toList).aj T ups log):Step P o w0 L0 N vs (ai T ups) a w:=by
 unfold JN at h;split at h
 ·exact h.elim
 ·rename_i F hF;obtain⟨⟨fn,iw,gf,mX⟩,aH⟩:=ed f F hF;have hb:=M.aq h;clear h;obtain⟨A,l1,l2,rfl,h1,h⟩:=hb;obtain⟨er,gd,pX,gQ⟩:=JA hI h1;have aT:=Go.Conc.run_call_body (P:=P) (a:=a) (w:=w) ho iw gf mX;obtain⟨yf,Frs,au9⟩:=F;dsimp only at h gQ pX gd aH A;split at h
  ·rename_i m t0 n0 hA;cases hc:(A.ls.contains m.r || !decide (m.r<N) || !decide (t0.depth=0) || !decide (n0<1000))with
   | true=>rw[hc]at h;exact h.elim
   | false =>
    rw[hc]at h;simp only[Bool.or_eq_false_iff,Bool.not_eq_false',decide_eq_true_eq]at hc;obtain⟨⟨⟨eo,dw⟩,Lb⟩,ix⟩:=hc;have jd:m.r∉A.ls:=λhm=>by rw[List.contains_iff_mem.2 hm]at eo;cases eo
    obtain⟨res,fa,h⟩:=h;dsimp only at h;split at h
    ·rename_i n1 t1 x1 n2 t' y' hv gY;split at h
     ·rename_i Ld;subst Ld;split at h
      ·rename_i ht1;obtain⟨u2,l3,l4,rfl,gU,h⟩:=M.aq h;obtain⟨Ts,l5,l6,rfl,dP,iZ,nA⟩:=M.aq h;obtain⟨rfl,_⟩:=nA;have bL:Ts=T:=by rw[ly dP (by rw[Nat.zero_add,hI.len])];rfl
       subst bL;obtain⟨_,n,y,h2,h3,h4,h5,h6,⟨avI,hz⟩,g0,cur,e,c,k1,k2,k3,k4⟩:=gd m (by rw[hA];simp);simp only[Nat.sub_zero]at h2 k3;have sK:m.i<yf.length:=(List.getElem?_eq_some_iff.1 h2).1;have jc:∀(j:Nat) (t:Ty) (n:Nat),yf[j]?=some (t,Mode.mut n)->j=m.i:=by
        intro j t n hj;obtain⟨m',bZ,he⟩:=pX j t n hj;rw[hA]at bZ;rw[List.mem_singleton.1 bZ]at he;omega
       have bh:=hI.aX m.r;rw[h6]at bh;obtain⟨_,_,_,gW,_⟩:=lb hz bh;have bD:m.r≠d:=dm hid (by rw[h6];exact gW);have ni:jB w (λk=>kn m.r (node [] 0 m.p).1 (node [] 0 m.p).2 m.t.sz m.i A.ls (L k)) yf:=by
        refine⟨λk hk=>by rw[hI.free k hk];rfl,λk k' s q h h'=>?_,λk s q h=>?_,ae.aV hI.fr.gP λk hk h0=>⟨?_,(hI.fr.aV k hk h0).2⟩⟩
        ·obtain⟨y1,r1,e1,e2,e3⟩:=M9 h;obtain⟨y2,r2,e4,e5,e6⟩:=M9 h';rw[e2]at e5;injection e5 with e5 e7;subst e5 e7;exact hI.inj k k' _ _ e3 e6
        ·obtain⟨y1,r1,rfl,e2,e3⟩:=M9 h;exact⟨m.t,.mut n,h2,by simp only[Mode.owned,Bool.and_eq_true,bne_iff_ne];omega⟩
        ·rw[(hI.fr.aV k hk h0).1];rcases h0 with h0|h0<;>rw[h0]<;>simp[kn]
       have dK:=gQ (λk=>kn m.r (node [] 0 m.p).1 (node [] 0 m.p).2 m.t.sz m.i A.ls (L k)) (λk hk=>by rw[hk];rfl) (λk r q hr hk=>by
        rw[hk];unfold kn;dsimp only;rw[if_neg (λe0:r=m.r=>jd (by rw[<-e0];exact hr)),if_pos (by simpa using hr)]) (λk m' z rest bZ hk bY=>by
        rw[hA]at bZ;obtain rfl:=List.mem_singleton.1 bZ;rw[hk];exact asd bY)
       intro K Q hK;unfold Oper.wp;rw[aT,Oper.upon_enter];refine Calls.mono (aH A.x res fa w _ (args.map a.eval) ni (by simpa using dK)) ?_
       rintro e' w' ⟨cs,L',rfl,bd,cc,jR⟩
       dsimp only;rw[aA];have iU:ai Ts (((m.r,u2)::cb (ik m.r d m.u) 0 Ts)++[(d,V.d none n1 t1 x1)])=(ai Ts ((m.r,u2)::cb (ik m.r d m.u) 0 Ts)).set d (V.d none n1 t1 x1):=by
        rw[lg];rfl
       have nj:(ai Ts ((m.r,u2)::cb (ik m.r d m.u) 0 Ts)).length=N:=by rw[cC,hI.len]
       have bt:∀s,s≠d->(ai Ts (((m.r,u2)::cb (ik m.r d m.u) 0 Ts)++[(d,V.d none n1 t1 x1)])).getD s .dead=(ai Ts ((m.r,u2)::cb (ik m.r d m.u) 0 Ts)).getD s .dead:=by
        intro s hs;rw[iU,aJ,if_neg (λe=>hs e.1)]
       have eB:∀s v,(s,v)∈((m.r,u2)::cb (ik m.r d m.u) 0 Ts)->(s=m.r/\v=u2)\/(v = .dead/\s≠m.r/\ik m.r d m.u s (Ts.getD s .dead)=true):=by
        intro s v bZ;rcases List.mem_cons.1 bZ with bZ|bZ
        ·injection bZ with h1 h2;exact .inl ⟨h1,h2⟩
        ·obtain⟨h1,_,_,h2⟩:=(pH s v).1 bZ;simp only[Nat.sub_zero]at h2;refine .inr ⟨h1,?_,h2⟩
         rintro rfl
         simp[ik]at h2
       have bG:(ai Ts ((m.r,u2)::cb (ik m.r d m.u) 0 Ts)).getD m.r .dead=u2:=by
        refine ij (by rw[hI.len];exact dw) (by simp) (λv bZ=>?_);rcases eB m.r v bZ with⟨_,h⟩|⟨_,h,_⟩
        ·exact h
        ·exact absurd rfl h
       have pV:∀s,s≠d->s≠m.r->(Ts.getD s .dead).on m.r=true->ik m.r d m.u s (Ts.getD s .dead) = !qh m.u (Ts.getD s .dead):=by
        intro s h1 h2 h3;unfold ik;rw[h3];simp[h1,h2]
       refine hK _ _ _ (Inv.alk (d:=d) (c:=oS cs) (V0:=V.d none n1 t1 x1) hI hd hid h6 hz gU h3 h4 k1 k2 bd ?_ ?_ (by rw[cC,hI.len]) ?_ ?_ (λr=>rfl) ?_ ?_ ?_)
       ·intro k s q hk;rcases bd.owner k s q hk with⟨_,t,n,h,h9⟩|⟨t,md,h,hmd⟩
        ·simp only[List.mem_singleton,Prod.mk.injEq]at h;rcases h9 with h9|h9
         ·exact absurd (by rw[h.1];exact Lb) h9.2
         ·omega
        ·obtain⟨n,rfl⟩:=ala h1 h hmd;exact jc s t n h
       ·have amY:fP w' L' 0 yf res.2 (args.toList.map a.eval):=by simpa using jR
        obtain⟨j,t',n',y9,c',cells,m1,m2,m3,m4,m5⟩:=Me amY gY;have cR:=jc j t' n' m1;subst cR;rw[h2]at m1;injection m1 with m1;injection m1 with m1 kS;injection kS with kS;subst kS;cases m2;rw[k3]at m3;injection m3 with m3;subst m3;rw[Nat.zero_add]at m5;have:cells=(cur.toList.drop (node [] 0 m.p).2).take m.t.sz:=Form.inj m4 k4;rw[<-this];exact m5
       ·rw[bt m.r bD,bG]
       ·rw[iU,aJ,if_pos ⟨rfl,by rw[nj];exact hd⟩]
       ·intro L2 tm';have DV:=cc;have DV:=(jC.low (rs:=[(t0,n0)]) (decide_eq_true ix)).1 DV;simp only[iO]at DV;obtain⟨c',bl,cells,rfl,r1,r2,rfl⟩:=DV;have cS:some (V.d none n0 t0 res.1.1)=some (V.d none n1 t1 x1):=by
         simp only[mg]at hv
         rwa [if_neg (by omega),if_pos (by rw[Lb];exact Nat.zero_le _)]at hv
        cases cS;exact⟨by simp,cells,r1,Own.flat Lb r2⟩
       ·intro z iA dL ag;rw[bt z iA];have oM:z<N:=by
         rcases Nat.lt_or_ge z N with h|h
         ·exact h
         ·rw[ez (by rw[hI.len];exact h)]at ag;simp[V.on,V.root]at ag
        have DN:=pV z iA dL ag;cases hk:qh m.u (Ts.getD z .dead)with
        | true =>
         refine .inr ⟨eX _ _ _ (λbZ=>?_),rfl⟩;obtain⟨uu,hu,he⟩:=List.mem_map.1 bZ;rcases eB z uu.2 (by rw[<-he];exact hu)with⟨h,_⟩|⟨_,_,h⟩
         ·exact dL h
         ·rw[DN,hk]at h;cases h
        | false =>
         rw[hk]at DN;refine .inl ⟨ij (by rw[hI.len];exact oM) ?_ (λv bZ=>?_),?_⟩
         ·rw[List.mem_map];exact⟨(z,.dead),List.mem_cons_of_mem _ ((pH z .dead).2 ⟨rfl,Nat.zero_le _,by rw[Nat.zero_add,hI.len];exact oM,by rw[Nat.sub_zero];exact DN⟩),rfl⟩
         ·rcases eB z v bZ with⟨h,_⟩|⟨h,_⟩
          ·exact absurd h dL
          ·exact h
         ·exact Dg iZ z (by rw[hI.len];exact oM) (by rw[Nat.zero_add];exact DN)
       ·intro z iA dL ag;rw[bt z iA];refine eX _ _ _ (λbZ=>?_);obtain⟨uu,hu,he⟩:=List.mem_map.1 bZ;rcases eB z uu.2 (by rw[<-he];exact hu)with⟨h,_⟩|⟨_,_,h⟩
        ·exact dL h
        ·unfold ik at h;rw[ag]at h;simp at h
      ·exact h.elim
     ·exact h.elim
    ·exact h.elim
  ·exact h.elim
theorem arB[ae](hI:Inv w0 L0 N vs T a w L)(ed:fY P bj)       
  (ho:o.op = .call { callee:=.value (.func f),args,argTypes:=cG }) (aA:o.dst=some d) (hd:d<N) (hid:(T.getD d .dead).idle=true)
  (h:(JR C bj vs N d f args.toList).aj T ups log):Step P o w0 L0 N vs (ai T ups) a w:=by
 unfold JR at h;split at h
 ·exact h.elim
 ·split at h
  ·rename_i s _;obtain⟨eP,rfl,h⟩:=h;generalize T.getD s .dead=v at h;dsimp only at h;split at h
   ·obtain⟨log2,rfl,h⟩:=h;dsimp only at h;generalize (V.dE _&&List.isEmpty _)=b at h;cases b with
    | true=>exact M3 hI ed ho aA hd hid h
    | false=>exact arx hI ed ho aA hd hid h
   ·exact M3 hI ed ho aA hd hid h
  ·exact M3 hI ed ho aA hd hid h
end
def nB:List St->Nat
 | []=>0
 | .a7 _ _::p=>nB p
 | .idx _ _::p=>nB p+1
theorem Eu:{p:List St}->{q:List Nat}->{o:Nat}->(node q o p).1.length=q.length+nB p
 | [],_,_=>rfl
 | .a7 _ _::p,_,_=>Eu (p:=p)
 | .idx sz i::p,q,o=>by
  have:=Eu (p:=p) (q:=q++[o]) (o:=i.toNat*sz);simp only[node,nB];rw[this];simp only[List.length_append,List.length_singleton];omega
def xn(n r:Nat)(v:V):Bool := !v.ey r||(match v with
 | .ptr _ _ _=>true
 | .view _ p _=>decide (nB p<n)
 | _=>false)
def LI{α:Type}(n r:Nat):List Nat->M α->M α
 | [],m=>m
 | k::l,m=>.get k λv=>.bn (xn n r v) (LI n r l m)
def M4(C:Ctx)(N:Nat)(kids:List Nat)(X:TypeId)(r:Nat)(p:List St)(u:V)(x:Operand)(m:M (List (Nat×V))):M (List (Nat×V)):=
 (dG p u).bind λz =>
  if z.2.t.depth=0/\u.fq=true/\shallow p=false/\C.ty X=some z.2.t/\(u.root != some r)=true/\r<N/\r<100000 then
   (cI C X x).bind λv=>match v with
   | .d none _ t' y=>if h:t'=z.2.t then (fT p u z.2.t (h▸y)).bind λu'=>LI (nB p) r kids (.ask (vp r (jk false (r::kids))) (.ret [(r,u')]))else .fail
   | _=>.fail
  else m
section
variable{P:Program}{C:Ctx}{w w' w0:World}{S S':Nat->Prop}{L L' L0:Nat->ak}{s N:Nat}{vs:List Nat}{T T':List V}{tm tm':Array Value}{a:Act}
theorem aaF{α:Type}{m:M α}{x:α}:{l:List Nat}->{log:List Nat}->(LI n r l m).aj T x log->(∀k∈l,xn n r (T.getD k .dead)=true)/\∃aD,m.aj T x aD
 | [],log,h=>⟨by simp,log,h⟩
 | k::l,log,h=>by
  obtain⟨aD,rfl,hc,h⟩:=h;obtain⟨h1,h2⟩:=aaF (l:=l) h;refine⟨λk' aL=>?_,h2⟩;rcases List.mem_cons.1 aL with rfl|aL
  ·exact hc
  ·exact h1 k' aL
theorem arQ[ae](hI:Inv w0 L0 N vs T a w L)(hC:bF P C){u:V}{m:M (List (Nat×V))}(ho:o.op = .store X (.tmp t) x)(aA:o.dst=none)
  (ht:addrOf t (T.getD t .dead)=some (r,p)) (c8:∀r p,addrOf t (T.getD t .dead)=some (r,p)->∃g,a.eval (.tmp t) = .pointer (some ⟨g,(node [] 0 p).2,none⟩)/\L g = .own r (node [] 0 p).1)
  (hr:T.getD r .dead=u) (h:(M4 C N kids X r p u x m).aj T ups log) (hm:∀log,m.aj T ups log->Step P o w0 L0 N vs (ai T ups) a w):Step P o w0 L0 N vs (ai T ups) a w:=by
 obtain⟨⟨l,n',t',x'⟩,l1,l2,rfl,hz,h⟩:=M.aq h;dsimp only at h;split at h
 ·rename_i hc;obtain⟨hd,DX,YQ,hX,lU,dw,K5⟩:=hc;clear hm;obtain⟨v,l3,l4,rfl,hv,h⟩:=M.aq h;split at h
  ·rename_i k tv y;split at h
   ·rename_i p7;subst p7;obtain⟨u',l5,l6,rfl,wv,h⟩:=M.aq h;obtain⟨KP,log2,h⟩:=aaF h;obtain⟨⟨hq,_⟩,fH,rfl,h⟩:=h;obtain⟨rfl,_⟩:=h;have aH:∀z,z≠r->xn (nB p) r (T.getD z .dead)=true:=by
     intro z hz;by_cases hm:z∈kids
     ·exact KP z hm
     ·have:=JG K5 hq z (xd (by simp[hz,hm]));rw[xe]at this;have this:(T.getD z .dead).ey r=false:=this;unfold xn;rw[this];rfl
    obtain⟨g,pU,hg⟩:=c8 r p ht;have bh:=hI.aX r;rw[hr]at bh;obtain⟨⟨g',cur,e,k1,k2,k3,k4⟩,_,_,gW,lK⟩:=lb hz bh;obtain rfl:=hI.inj g g' r _ hg k1;have nz:u.dE=false:=by cases u<;>simp[V.fq,V.dE]at DX ⊢
    have ee:∃cs s0,Form tv cs (a.eval x)/\Own w L (SL L none) s0 k tv y [] 0 cs:=by
     rcases ke hI hv with⟨s,rfl,_,hs⟩|⟨_,hs⟩
     ·obtain⟨_,cs,hf,bT⟩:=hs;exact⟨cs,s,hf,bT⟩
     ·obtain⟨_,cs,hf,bT⟩:=hs L T a.tmps 0 w;exact⟨cs,0,hf,bT⟩
    obtain⟨cs,s0,hf,bT⟩:=ee;have dY:=Own.one bT;have hlen:=Own.len bT;have aT:(execOp a.eval o).run P w = .ok .skip (w.setRow g (putCells cur (node [] 0 p).2 cs)):=by
     simp[execOp,ho,pU,tw (hC X _ hX) k2 hf dY hlen k3]
    have bG:(ai T [(r,u')]).getD r .dead=u':=by
     show (T.set r u').getD r .dead=u';rw[aJ,if_pos ⟨rfl,by rw[hI.len];exact dw⟩]
    have bt:∀z,z≠r->(ai T [(r,u')]).getD z .dead=T.getD z .dead:=by
     intro z hz;show (T.set r u').getD z .dead=_;rw[aJ,if_neg (λh=>hz h.1)]
    intro K Q hK;unfold Oper.wp;rw[aT,Oper.upon_skip,aA];refine hK a _ _ (Inv.store (m:=n') (src:=none) hI hr hz wv (by simpa using lU) hg k2 k3 hlen (by simp) (by rw[cC,hI.len]) bG ?_ (λz hz _ _=>bt z hz) (Own.flat hd bT));intro z hz _ ag;refine .inr ⟨bt z hz,?_⟩;have hk:=aH z hz;unfold xn V.ey at hk;rw[ag,Bool.true_and]at hk;generalize T.getD z .dead=vz at hk ag;cases vz with
    | ptr r2 p2 t2=>exact .inl rfl
    | view r2 p2 t2 =>
     have:r2=r:=by simpa[V.on,V.root]using ag
     subst this;refine .inr ⟨rfl,YQ,nz,p2,t2,rfl,λhe=>?_⟩;have hk:nB p2<nB p:=by simpa using hk
     have:=congrArg List.length he;rw[Eu,Eu]at this;omega
    | _=>simp at hk
   ·exact h.elim
  ·exact h.elim
 ·exact hm _ h
end
def lp(r:Nat)(q:List Nat)(o sz s:Nat):Nat->List Nat->ak:=λz q2 =>
 if z=r then match cut q q2 with
  | some (y::rest)=>if o<=y/\y<o+sz then .own s ((y - o)::rest)else .own r q2
  | _=>.own r q2
 else if z=s then .other else .own z q2
def Mp(r:Nat)(v:V):Bool := !v.on r||(match v with
 | .same _ _=>true
 | .ptr _ [.idx _ _] _=>true
 | _=>false)
def Ew(r:Nat):List V->Bool
 | []=>true
 | v::l=>Mp r v&&Ew r l
def Es(r:Nat):List V->Bool
 | []=>true
 | v::l => !v.on r&&Es r l
def W8(C:Ctx)(N:Nat)(X:TypeId)(d r sz:Nat)(i:Int)(n:Nat):(ty:Ty)->ty.den->M (List (Nat×V))
 | .pair (.int k) (.slice e te),x=>if C.ty X=some te/\te.depth≠0/\n≠0/\sz=te.sz/\d<N/\r<N/\d≠r then
   .get d λvd=>.bn (vd.idle&&decide (x.1<=i)) (.cL te (ab x.2 i) λy=>(allM 0 N).bind λTs=>.bn (Ew r Ts) (.ret [(r,.bQ 0 n (.pair (.int k) (.slice e te)) (i+1,x.2)),(d,.d none n te y)]))
  else .fail
 | _,_=>.fail
def Ka(C:Ctx)(N:Nat)(X:TypeId)(d t:Nat):M (List (Nat×V)):=
 .get t λv=>match v with
 | .ptr r [.idx sz i] _=>.get r λu=>match u with
  | .bQ 0 n ty x=>W8 C N X d r sz i n ty x
  | _=>.fail
 | _=>.fail
def vx(vs:List Nat)(N d:Nat)(fl:Bool)(x:Operand)(m:M (List (Nat×V))):M (List (Nat×V)):=
 match x with
 | .tmp s=>.get s λv=>match v with
  | .bQ 0 _ (.pair (.int _) t) _=>.get d λvd=>.bn (vd.idle&&decide (d<N)&&vs.contains s) (.ret [(d,.same s t)])
  | .d none (n+1) (.slice e t) xs=>cond fl (if d<N/\s<N/\d≠s then .get d λvd=>.bn (vd.idle&&vs.contains s) ((allM 0 N).bind λTs=>.bn (Es s Ts) (.ret [(s,.bQ 0 n (.pair (.int .i64) (.slice e t)) ((0:Int),xs)),(d,.same s (.slice e t))]))else .fail) m
  | _=>m
 | _=>m
def W7(C:Ctx)(X:TypeId)(d:Nat):(ty:Ty)->ty.den->M (List (Nat×V))
 | .pair (.int _) (.slice e te),x=>if C.ty X=some (.slice e te)then .ret [(d,.d none 0 (.int .i64) (x.2.length:Int))]else .fail
 | _,_=>.fail
def J9(C:Ctx)(d:Nat)(l:List Operand)(cG:List TypeId)(m:M (List (Nat×V))):M (List (Nat×V)):=
 match l,cG with
 | [.tmp t],[X]=>.get t λv=>match v with
  | .same r _=>.get r λu=>match u with
   | .bQ 0 _ ty x=>W7 C X d ty x
   | _=>m
  | _=>m
 | _,_=>m
def W6(C:Ctx)(vs:List Nat)(X:TypeId)(d r:Nat)(i:Int):(ty:Ty)->ty.den->M (List (Nat×V))
 | .pair (.int _) (.slice _ te),x=>if oV C X=some te then .cL te (ab x.2 i) λ_=>.bn (vs.contains r) (.ret [(d,.ptr r [.idx te.sz i] te)])else .fail
 | _,_=>.fail
def J8(C:Ctx)(vs:List Nat)(X:TypeId)(d t:Nat)(y:Operand)(m:M (List (Nat×V))):M (List (Nat×V)):=
 .get t λv=>match v with
 | .same r _=>.get r λu=>match u with
  | .bQ 0 _ ty x=>(cI C 0 y).bind λz=>match z with
   | .d _ _ (.int _) i=>W6 C vs X d r i ty x
   | _=>.fail
  | _=>m
 | _=>m
section
variable{P:Program}{C:Ctx}{w w' w0:World}{S S':Nat->Prop}{L L' L0:Nat->ak}{s N:Nat}{vs:List Nat}{T T':List V}{tm tm':Array Value}{a:Act}
theorem tL[ae]{s:Nat}{o:Nat}{z:Nat}{q2:List Nat}{z':Nat}{q3:List Nat}(h:lp r q o sz s z q2 = .own z' q3):
  (z=r/\∃i rest,i<sz/\q2=q++(o+i)::rest/\z'=s/\q3=i::rest)\/(z=r/\z'=r/\q3=q2/\∀i rest,i<sz->q2≠q++(o+i)::rest)\/(z≠r/\z≠s/\z'=z/\q3=q2):=by
 unfold lp at h;split at h
 ·rename_i hz;split at h
  ·rename_i y rest hc;split at h
   ·rename_i hy;injection h with h1 h2;refine .inl ⟨hz,y - o,rest,by omega,?_,h1.symm,h2.symm⟩;rw[oh hc];congr 2;omega
   ·rename_i hy;injection h with h1 h2;refine .inr (.inl ⟨hz,h1.symm,h2.symm,λi fA hi he=>?_⟩);rw[he,mM]at hc;simp only[Option.some.injEq,List.cons.injEq]at hc;omega
  ·rename_i cu;injection h with h1 h2;refine .inr (.inl ⟨hz,h1.symm,h2.symm,λi fA _ he=>?_⟩);exact cu (o+i) fA (by rw[he,mM])
 ·rename_i hz;split at h
  ·cases h
  ·rename_i hs;injection h with h1 h2;exact .inr (.inr ⟨hz,hs,h1.symm,h2.symm⟩)
theorem ar9[ae]{s:Nat}{o:Nat}{X:Nat->Prop}(hr:X r)(hs:X s)(iy:r≠s):fD (lp r q o sz s) X:=by
 refine⟨λz q2 hX=>?_,λz q2 z' q3 hX h=>?_,λz q2 z2 q3 z' q4 h1 h2=>?_,λz q2=>?_⟩
 ·unfold lp;rw[if_neg (λe:z=r=>hX (e▸hr)),if_neg (λe:z=s=>hX (e▸hs))]
 ·rcases tL h with⟨_,_,_,_,_,rfl,_⟩|⟨_,rfl,_⟩|⟨_,_,rfl,_⟩
  ·exact hs
  ·exact hr
  ·exact hX
 ·rcases tL h1 with⟨rfl,i,rest,_,rfl,rfl,rfl⟩|⟨rfl,rfl,rfl,hn⟩|⟨g1,g2,rfl,rfl⟩
  ·rcases tL h2 with⟨rfl,i',fA,_,rfl,_,he⟩|⟨rfl,he,_⟩|⟨_,g2,he,_⟩
   ·injection he with mY he;exact⟨rfl,by rw[he,mY]⟩
   ·exact absurd he.symm iy
   ·exact absurd he.symm g2
  ·rcases tL h2 with⟨_,i',fA,_,_,he,_⟩|⟨rfl,_,he,_⟩|⟨g1,_,he,_⟩
   ·exact absurd he iy
   ·exact⟨rfl,he⟩
   ·exact absurd he.symm g1
  ·rcases tL h2 with⟨_,i',fA,_,_,he,_⟩|⟨_,he,_⟩|⟨_,_,h3,h4⟩
   ·exact absurd he g2
   ·exact absurd he g1
   ·exact⟨h3,h4⟩
 ·unfold lp
  repeat' split
  all_goals simp
theorem ar8[ae]{s:Nat}{o:Nat}{rest:List Nat}(hi:i<sz):lp r q o sz s r (q++(o+i)::rest) = .own s (i::rest):=by
 unfold lp;rw[if_pos rfl,mM];dsimp only;rw[if_pos ⟨by omega,by omega⟩,show o+i - o=i by omega]
theorem asa[ae]{s:Nat}{o:Nat}{q2:List Nat}(h:∀i rest,i<sz->q2≠q++(o+i)::rest):lp r q o sz s r q2 = .own r q2:=by
 unfold lp;rw[if_pos rfl];split
 ·rename_i y rest hc;split
  ·rename_i hy;exact absurd (oh hc) (by
    have:=h (y - o) rest (by omega)
    rwa [show o+(y - o)=y by omega]at this)
  ·rfl
 ·rfl
theorem aqf{l:List V}(h:Ew r l=true)(z:Nat):Mp r (l.getD z .dead)=true:=by
 induction l generalizing z with
 | nil=>rfl
 | cons v l ih =>
  simp only[Ew,Bool.and_eq_true]at h;cases z with
  | zero=>exact h.1
  | succ z=>exact ih h.2 z
theorem ap5{l:List V}(h:Es r l=true)(z:Nat):(l.getD z .dead).on r=false:=by
 induction l generalizing z with
 | nil=>rfl
 | cons v l ih =>
  simp only[Es,Bool.and_eq_true,Bool.not_eq_true']at h;cases z with
  | zero=>exact h.1
  | succ z=>exact ih h.2 z
theorem apT[ae](hI:Inv w0 L0 N vs T a w L){z:Nat}(h:T.getD z .dead ≠ .dead):z<N:=by
 rcases Nat.lt_or_ge z N with h1|h1
 ·exact h1
 ·exact absurd (ez (by rw[hI.len];exact h1)) h
theorem aq2[ae](hI:Inv w0 L0 N vs T a w L){x:Operand}{s:Nat}{k:IntKind}{t:Ty}{y:(Ty.pair (.int k) t).den}(ho:qg o (.tmp s))(hid:(T.getD d .dead).idle=true)(hs:T.getD s .dead = .bQ 0 n (.pair (.int k) t) y)(hv:s∈vs):
  aP P o vs T a w L d (.same s t):=by
 have bO:s≠d:=dm hid (by rw[hs];rfl);refine⟨a.tmps.getD s undef,w,L,tu ho,ek.refl hI d,λk q hk h=>(by rw[hI.free k hk]at h;cases h),λr hr=>?_,?_,n,k,y,?_⟩
 ·have:s=r:=by simpa[V.on,V.root]using hr
  exact this▸hv
 ·rw[dW,if_neg (λh=>bO h.1)]
 ·rw[aJ,if_neg (λh=>bO h.1),hs]
theorem arK[ae](hI:Inv w0 L0 N vs T a w L){x:Operand}{fl:Bool}(ho:qg o x)(aA:o.dst=some d)
  (h:(vx vs N d fl x m).aj T ups log) (hm:∀log,m.aj T ups log->Step P o w0 L0 N vs (ai T ups) a w):Step P o w0 L0 N vs (ai T ups) a w:=by
 unfold vx at h;split at h
 ·rename_i s;obtain⟨aD,rfl,h⟩:=h;generalize hv:T.getD s .dead=v at h;dsimp only at h;split at h
  ·rename_i n k t y;obtain⟨l2,rfl,hc,h⟩:=h;simp only[Bool.and_eq_true,decide_eq_true_eq]at hc;obtain⟨rfl,_⟩:=h;intro K Q hK;exact aP.inv hI hc.1.2 hc.1.1 aA (aq2 (x:=.tmp s) hI ho hc.1.1 hv (List.contains_iff_mem.1 hc.2)) hK
  ·rename_i n e t xs;cases fl with
   | false=>exact hm _ h
   | true =>
    rw[cond_true]at h;split at h
    ·rename_i hc;obtain⟨pT,b8,iv⟩:=hc;obtain⟨l2,rfl,hid,h⟩:=h;obtain⟨Ts,l3,l4,rfl,dP,cu,h⟩:=M.aq h;obtain⟨rfl,_⟩:=h;have bL:Ts=T:=by rw[ly dP (by rw[Nat.zero_add,hI.len])];rfl
     subst bL;simp only[Bool.and_eq_true]at hid;have Yr:=hid.1;have bf:s∈vs:=List.contains_iff_mem.1 hid.2;have iz:=hI.aX s;rw[hv]at iz;obtain⟨_,cs,hf,bT⟩:=iz;have bW:(ai Ts [(s,V.bQ 0 n (.pair (.int .i64) (.slice e t)) ((0:Int),xs)),(d,.same s (.slice e t))]).getD d .dead = .same s (.slice e t):=by
      show ((Ts.set s _).set d _).getD d .dead=_;rw[aJ,if_pos ⟨rfl,by simp[hI.len,pT]⟩]
     have bL:(ai Ts [(s,V.bQ 0 n (.pair (.int .i64) (.slice e t)) ((0:Int),xs)),(d,.same s (.slice e t))]).getD s .dead = .bQ 0 n (.pair (.int .i64) (.slice e t)) ((0:Int),xs):=by
      show ((Ts.set s _).set d _).getD s .dead=_;rw[aJ,if_neg (λh=>iv h.1.symm),aJ,if_pos ⟨rfl,by rw[hI.len];exact b8⟩]
     have bt:∀z,z≠d->z≠s->(ai Ts [(s,V.bQ 0 n (.pair (.int .i64) (.slice e t)) ((0:Int),xs)),(d,.same s (.slice e t))]).getD z .dead=Ts.getD z .dead:=by
      intro z h1 h2;show ((Ts.set s _).set d _).getD z .dead=_;rw[aJ,if_neg (λh=>h1 h.1),aJ,if_neg (λh=>h2 h.1)]
     refine Step.value (L':=L) aA (tu ho) ?_;have wG:(a.put (some d) (a.eval (.tmp s))).tmps.getD d undef=a.tmps.getD s undef:=by
      show (a.tmps.setIfInBounds d _).getD d undef=_;rw[dW,if_pos ⟨rfl,by rw[hI.size];exact pT⟩];rfl
     have nv:∀z,z≠d->(a.put (some d) (a.eval (.tmp s))).tmps.getD z undef=a.tmps.getD z undef:=λz hz=>kg (by simpa using Ne.symm hz);refine Inv.upd (λz=>z=s\/z=d) hI (by simp[Act.put,hI.size]) (by rw[cC,hI.len]) hI.dO hI.fr hI.free hI.inj ?_ (λ_ _ _ _=>⟨rfl,rfl⟩) ?_ ?_ ?_ ?_
     ·intro k z q hk;by_cases h1:z=d
      ·subst h1;have:=hI.owner k z q hk;rw[V.kd Yr]at this;cases this
      ·by_cases h2:z=s
       ·subst h2;rw[bL];rfl
       ·rw[bt z h1 h2];exact hI.owner k z q hk
     ·intro z hz;have hz:=not_or.1 hz;exact⟨bt z hz.2 hz.1,nv z hz.2⟩
     ·intro z r ag;by_cases h1:z=d
      ·subst h1;rw[bW]at ag;have:s=r:=by simpa[V.on,V.root]using ag
       exact this▸bf
      ·by_cases h2:z=s
       ·subst h2;rw[bL]at ag;simp[V.on,V.root]at ag
       ·rw[bt z h1 h2]at ag;exact hI.roots z r ag
     ·intro z r hz ag bA;have h1:r≠d:=dm Yr bA;have h2:r≠s:=λe=>by
       subst e;have:=ap5 cu z;rw[this]at ag;cases ag
      exact⟨bt r h1 h2,nv r h1⟩
     ·intro z hz;rcases hz with rfl|rfl
      ·rw[bL,nv _ (Ne.symm iv)];simp only[aB,fE];have DI:cs=[a.tmps.getD z undef]:=hf;simp only[Own]at bT;rcases bT with⟨h1,h2⟩|⟨g,cap,cur,h1,h2,h3,h4,h5,h6,h7⟩
       ·rw[h1]at DI;exact .inl ⟨(List.cons.inj DI).1.symm,h2⟩
       ·rw[h1]at DI;refine .inr ⟨g,cap,cur,(List.cons.inj DI).1.symm,by simpa using h2,h3,h4,h5,h6,λj hj _=>?_⟩;simpa using h7 j hj
      ·rw[bW,wG];exact⟨(nv s (Ne.symm iv)).symm,n,.i64,_,bL⟩
    ·exact h.elim
  ·exact hm _ h
 ·exact hm _ h
theorem aca[ae](hI:Inv w0 L0 N vs T a w L){tt:Ty}{ty:Ty}{x:ty.den}(ht:T.getD t .dead = .same r tt)(hr:T.getD r .dead = .bQ 0 n ty x):a.tmps.getD t undef=a.tmps.getD r undef:=by
 have:=hI.aX t;rw[ht]at this;exact this.1
theorem arI[ae](hI:Inv w0 L0 N vs T a w L)(hC:bF P C)(ho:o.op = .call { callee:=.builtin .len,args,argTypes:=cG })(aA:o.dst=some d)(hd:d<N)(hid:(T.getD d .dead).idle=true)
  (h:(J9 C d args.toList cG.toList m).aj T ups log) (hm:∀log,m.aj T ups log->Step P o w0 L0 N vs (ai T ups) a w):Step P o w0 L0 N vs (ai T ups) a w:=by
 obtain⟨args⟩:=args;obtain⟨cG⟩:=cG;dsimp only at h;unfold J9 at h;split at h
 ·rename_i t X;obtain⟨aD,rfl,h⟩:=h;generalize ht:T.getD t .dead=v at h;dsimp only at h;split at h
  ·rename_i r tt;obtain⟨log2,rfl,h⟩:=h;generalize hr:T.getD r .dead=u at h;dsimp only at h;split at h
   ·rename_i n ty x;unfold W7 at h;split at h
    ·rename_i k e te x;split at h
     ·rename_i hX;obtain⟨rfl,_⟩:=h;have h1:=aca hI ht hr;have hs:=hI.aX r;rw[hr]at hs;simp only[aB,fE]at hs;have hlen:∃A c,a.eval (.tmp t) = .slice A (x.2:List te.den).length c:=by
       rcases hs with⟨h2,h3⟩|⟨g,cap,cur,h2,_⟩
       ·refine⟨none,0,?_⟩;show a.tmps.getD t undef=_;rw[h1,h2,h3];rfl
       ·exact⟨_,_,h1.trans h2⟩
      obtain⟨A,c,hlen⟩:=hlen;intro K Q hK;refine aP.inv hI hd hid aA (aP.still hI (c:=.int .i64 (x.2.length:Int)) ?_ (λ_=>rfl) aB.mkInt) hK;have hu:=(hC X _ hX).b7;have hc:(Builtin.len_ #[X] o.type #[a.eval (.tmp t)]).run P w = .ok (.int .i64 (x.2.length:Int)) w:=by
       rw[hlen];simp[Builtin.len_,run_underlying hu.1,goInt]
      simp[execOp,ho,resolve,invoke,builtin,hc]
     ·exact h.elim
    ·exact h.elim
   ·exact hm _ h
  ·exact hm _ h
 ·exact hm _ h
theorem arH[ae](hI:Inv w0 L0 N vs T a w L)(hC:bF P C){y:Operand}(ho:o.op = .indexAddr X (.tmp t) y)(aA:o.dst=some d)(hd:d<N)(hid:(T.getD d .dead).idle=true)
  (h:(J8 C vs X d t y m).aj T ups log) (hm:∀log,m.aj T ups log->Step P o w0 L0 N vs (ai T ups) a w):Step P o w0 L0 N vs (ai T ups) a w:=by
 unfold J8 at h;obtain⟨aD,rfl,h⟩:=h;generalize ht:T.getD t .dead=v at h;dsimp only at h;split at h
 ·rename_i r tt;obtain⟨log2,rfl,h⟩:=h;generalize hr:T.getD r .dead=u at h;dsimp only at h;split at h
  ·rename_i n ty x;obtain⟨z,l1,l2,rfl,hz,h⟩:=M.aq h;split at h
   ·rename_i ll nn ki i;have hy:=gG hI hz;unfold W6 at h;split at h
    ·rename_i k e te x _;split at h
     ·rename_i gj;obtain⟨y0,jh,bf,rfl,_⟩:=h;obtain⟨hi,jN,rfl⟩:=lF jh;have h1:=aca hI ht hr;have hs:=hI.aX r;rw[hr]at hs;simp only[aB,fE]at hs;rcases hs with⟨_,h3⟩|⟨g,cap,cur,h2,h3,_⟩
      ·rw[h3]at hi;exact absurd hi (by simp)
      ·have eY:a.eval (.tmp t)=_:=h1.trans h2;have aT:(execOp a.eval o).run P w = .ok (.value (.pointer (some ⟨g,0+i.toNat*te.sz,none⟩))) w:=by
        simp[execOp,ho,eY,hy,ab7 hC gj jN hi]
       intro K Q hK;refine aP.inv hI hd hid aA (aP.ptr hI (g:=g) ?_ h3 (λr' aZ=>?_)) hK
       ·rw[aT];simp[node]
       ·have:r=r':=by simpa[V.on,V.root]using aZ
        exact this▸List.contains_iff_mem.1 bf
     ·exact h.elim
    ·exact h.elim
   ·exact h.elim
  ·exact hm _ h
 ·exact hm _ h
theorem arJ[ae](hI:Inv w0 L0 N vs T a w L)(hC:bF P C){X:TypeId}(ho:o.op = .load X (.tmp t))(aA:o.dst=some d)
  (h:(Ka C N X d t).aj T ups log):Step P o w0 L0 N vs (ai T ups) a w:=by
 unfold Ka at h;obtain⟨aD,rfl,h⟩:=h;generalize ht:T.getD t .dead=v at h;dsimp only at h;split at h
 ·rename_i r sz i tt;obtain⟨log2,rfl,h⟩:=h;generalize hr:T.getD r .dead=u at h;dsimp only at h;split at h
  ·rename_i n ty x;unfold W8 at h;split at h
   ·rename_i k e te x;split at h
    ·rename_i hc;obtain⟨hX,oC,ix,rfl,pT,dw,DG⟩:=hc;obtain⟨l3,rfl,jO,y,hy,h⟩:=h;obtain⟨Ts,l4,l5,rfl,dP,aH,h⟩:=M.aq h;obtain⟨rfl,_⟩:=h;have bL:Ts=T:=by rw[ly dP (by rw[Nat.zero_add,hI.len])];rfl
     subst bL;simp only[Bool.and_eq_true,decide_eq_true_eq]at jO;obtain⟨hid,hle⟩:=jO;obtain⟨hi,jN,rfl⟩:=lF hy;have ba:=hI.aX t;rw[ht]at ba;obtain⟨g0,hp,vZ⟩:=ba;have hs:=hI.aX r;rw[hr]at hs;have dZ:=hs;simp only[aB,fE]at hs;rcases hs with⟨_,h3⟩|⟨g,cap,cur,h2,h3,h4,h5,h6,h7,h8⟩
     ·rw[h3]at hi;exact absurd hi (by simp)
     obtain rfl:=hI.inj g0 g r _ vZ (by simpa[node]using h3);have hle:x.1<=i:=hle;have amo:=h8 i.toNat hi (Int.le_trans hle (Int.le_of_eq (Int.toNat_of_nonneg jN).symm));have amJ:my w L (SL L none) r n te (x.2[i.toNat]) (node [] 0 [St.idx te.sz i]).1 (node [] 0 [St.idx te.sz i]).2:=by
      refine⟨g0,cur,e,vZ,h4,?_,amo⟩;simp only[node];rw[h7,<-Nat.succ_mul];exact Nat.mul_le_mul_right _ (Nat.lt_of_lt_of_le hi h5)
     obtain⟨c,eW,e2,aT,hh,bq,hf,lO⟩:=Ze hI hC hX amJ vZ;have cw:a.eval (.tmp t)=_:=hp;have K8:(execOp a.eval o).run P w = .ok (.value c) w:=by simp[execOp,ho,cw,Instr.loadAt,Instr.sureAddr,aT]
     have bW:(ai Ts [(r,V.bQ 0 n (.pair (.int k) (.slice e te)) (i+1,x.2)),(d,.d none n te (x.2[i.toNat]))]).getD d .dead = .d none n te (x.2[i.toNat]):=by
      show ((Ts.set r _).set d _).getD d .dead=_;rw[aJ,if_pos ⟨rfl,by simp[hI.len,pT]⟩]
     have bG:(ai Ts [(r,V.bQ 0 n (.pair (.int k) (.slice e te)) (i+1,x.2)),(d,.d none n te (x.2[i.toNat]))]).getD r .dead = .bQ 0 n (.pair (.int k) (.slice e te)) (i+1,x.2):=by
      show ((Ts.set r _).set d _).getD r .dead=_;rw[aJ,if_neg (λh=>DG h.1.symm),aJ,if_pos ⟨rfl,by rw[hI.len];exact dw⟩]
     have bt:∀z,z≠d->z≠r->(ai Ts [(r,V.bQ 0 n (.pair (.int k) (.slice e te)) (i+1,x.2)),(d,.d none n te (x.2[i.toNat]))]).getD z .dead=Ts.getD z .dead:=by
      intro z h1 h2;show ((Ts.set r _).set d _).getD z .dead=_;rw[aJ,if_neg (λh=>h1 h.1),aJ,if_neg (λh=>h2 h.1)]
     have wG:(a.put (some d) c).tmps.getD d undef=c:=by
      show (a.tmps.setIfInBounds d _).getD d undef=_;rw[dW,if_pos ⟨rfl,by rw[hI.size];exact pT⟩]
     have nv:∀z,z≠d->(a.put (some d) c).tmps.getD z undef=a.tmps.getD z undef:=λz hz=>kg (by simpa using Ne.symm hz);have Yx:∀z,(Ts.getD z .dead).on r=true->(∃t',Ts.getD z .dead = .same r t')\/∃fC i' t',Ts.getD z .dead = .ptr r [.idx fC i'] t':=by
      intro z ag;have hz:=aqf aH z;unfold Mp at hz;rw[ag,Bool.not_true,Bool.false_or]at hz;generalize Ts.getD z .dead=v at hz ag;cases v with
      | same r' t' =>
       have:r'=r:=by simpa[V.on,V.root]using ag
       exact .inl ⟨t',by rw[this]⟩
      | ptr r' p t' =>
       have:r'=r:=by simpa[V.on,V.root]using ag
       subst this
       match p,hz with
       | [.idx fC i'],_=>exact .inr ⟨fC,i',t',rfl⟩
      | _=>cases hz
     have KR:∀k' q',L k' = .own r q'->(∀i' rest,i'<te.sz->q'≠[0]++(i.toNat*te.sz+i')::rest)->aW (lp r [0] (i.toNat*te.sz) te.sz d) w L (λ_=>.free) k' = .own r q':=by
      intro k' q' hk hq;rw[dc hI (by rw[hk];simp),hk];exact asa hq
     refine Step.value (L':=aW (lp r [0] (i.toNat*te.sz) te.sz d) w L (λ_=>.free)) aA K8 ?_;refine Inv.gI (X:=λz=>z=r\/z=d\/(Ts.getD z .dead).on r=true) (nl:=λ_=>.free) hI (ar9 (.inl rfl) (.inr (.inl rfl)) (Ne.symm DG)) (Wd.refl hI _) (λ_ _ _ _ _ h=>by cases h) (by simp[Act.put,hI.size]) (by rw[cC,hI.len]) hI.dO ?_ ?_ ?_ ?_ ?_
     ·intro k' z q bY h;by_cases h1:z=r
      ·subst h1;rw[bG];rfl
      ·by_cases h9:z=d
       ·subst h9;rw[bW];simp[V.aO,ix,oC]
       ·rw[bt z h9 h1];unfold aW at h;split at h
        ·obtain⟨s0,q0,e0,f0⟩:=eS h;rcases tL f0 with⟨_,_,_,_,_,j3,_⟩|⟨_,j3,_⟩|⟨_,_,j3,j4⟩
         ·exact absurd j3 h9
         ·exact absurd j3 h1
         ·subst j3;exact hI.owner k' _ _ e0
        ·cases h
     ·intro z r' bY ag aZ;have bY:=not_or.1 bY;have dq:=not_or.1 bY.2;rcases aZ with rfl|rfl|aZ
      ·exact absurd ag dq.2
      ·exact V.kd hid
      ·rcases Yx r' aZ with⟨_,he⟩|⟨_,_,_,he⟩<;>rw[he]<;>rfl
     ·intro z bY;have bY:=not_or.1 bY;have dq:=not_or.1 bY.2;exact⟨bt z dq.1 bY.1,nv z dq.1⟩
     ·intro z r' bY ag;by_cases h1:z=r
      ·subst h1;rw[bG]at ag;simp[V.on,V.root]at ag
      ·by_cases h9:z=d
       ·subst h9;rw[bW]at ag;simp[V.on,V.root]at ag
       ·rw[bt z h9 h1]at ag;exact hI.roots z r' ag
     ·intro z bY;by_cases h1:z=r
      ·subst h1;rw[bG,nv _ (Ne.symm DG)];simp only[aB,fE];refine .inr ⟨g0,cap,cur,h2,KR _ _ h3 (λi' rest _ h=>by have:=congrArg List.length h;simp at this),h4,h5,h6,h7,λj hj YB=>?_⟩;have YB:i+1<=(j:Int):=YB;refine Own.move (λk' hk=>?_) (λk' dd rest iu hk=>⟨?_,rfl⟩) (h8 j hj (Int.le_trans hle (by omega)))
       ·rcases hk with hk|⟨_,_,hk,_⟩
        ·exact⟨.inl (ew hI hk),rfl⟩
        ·cases hk
       ·refine KR _ _ hk (λi' fA sJ he=>?_);simp only[List.cons_append,List.nil_append,List.cons.injEq,true_and]at he;have lG:(i.toNat+1)*te.sz<=j*te.sz:=Nat.mul_le_mul_right _ (by omega);rw[Nat.add_mul,Nat.one_mul]at lG;omega
      ·by_cases h9:z=d
       ·subst h9;rw[bW,wG];refine⟨by simp,_,hf,?_⟩;refine Own.move (λk' hk=>?_) (λk' dd rest iu hk=>⟨?_,rfl⟩) lO
        ·rcases hk with hk|⟨_,_,hk,_⟩
         ·exact⟨.inl (ew hI hk),rfl⟩
         ·cases hk
        ·rw[dc hI (by rw[hk];simp),hk];simp only[eI,node,Nat.zero_add,List.nil_append];exact ar8 iu
       ·rw[bt z h9 h1,nv z h9];have ag:(Ts.getD z .dead).on r=true:=by
         rcases bY with h|h|h
         ·exact absurd h h1
         ·exact absurd h h9
         ·exact h
        have p6:=hI.aX z;rcases Yx z ag with⟨t',he⟩|⟨fC,i',t',he⟩
        ·rw[he]at p6 ⊢;obtain⟨j1,n1,k1,x1,j2⟩:=p6;rw[hr]at j2;cases j2;exact⟨j1.trans (nv r (Ne.symm DG)).symm,n,k,_,bG⟩
        ·rw[he]at p6 ⊢;obtain⟨g2,j1,j2⟩:=p6;exact⟨g2,j1,KR _ _ j2 (λi' rest _ h=>by have:=congrArg List.length h;simp[node]at this)⟩
    ·exact h.elim
   ·exact h.elim
  ·exact h.elim
 ·exact h.elim
end
def sn:Nat->Ty->Bool
 | m,.pair a b=>(a.depth==0||m.testBit 0)&&sn (m / 2) b
 | m,t=>t.depth==0||m.testBit 0
def nG(m:Nat)(ta:Ty)(x:ta.den):V:=cond (sn m ta) (.box none ta.depth (.agg ta) x) (.bQ 1 m (.agg ta) x)
def El(C:Ctx)(vs:List Nat)(N:Nat)(kids:List Nat)(X:TypeId)(r i off m0:Nat)(ta:Ty)(x0:ta.den)(x:Operand):M (List (Nat×V)):=
 match x with
 | .tmp s=>.get s λv=>match v with
  | .d none k t1 y=>match comp i ta x0 with
   | some (o,⟨t2,_⟩)=>if o=off/\t2=t1/\t1.depth≠0/\t1.depth<=k/\C.ty X=some t1/\vs.contains s=false/\s≠r/\r<N/\m0.testBit i=false/\ta.depth≠0 then
     (iF i ta x0 (λt' x'=>fe [] t' x' t1 y)).bind λx2=>ig false r s kids (.ret [(r,nG (m0 ||| 2 ^ i) ta x2),(s,.dead)])
    else .fail
   | none=>.fail
  | _=>.fail
 | _=>.fail
def L4(C:Ctx)(vs:List Nat)(N:Nat)(kids:List Nat)(X:TypeId)(r:Nat)(p:List St)(u:V)(x:Operand)(m:M (List (Nat×V))):M (List (Nat×V)):=
 match p with
 | [.a7 i off]=>match u with
  | .box none 0 (.agg ta) x0=>El C vs N kids X r i off 0 ta x0 x
  | .bQ 1 m0 (.agg ta) x0=>El C vs N kids X r i off m0 ta x0 x
  | _=>m
 | _=>m
section
variable{P:Program}{C:Ctx}{w w' w0:World}{S S':Nat->Prop}{L L' L0:Nat->ak}{s N:Nat}{vs:List Nat}{T T':List V}{tm tm':Array Value}{a:Act}
theorem ca.move[ae](H1:∀k,L k = .au->L' k = .au/\w'.heap[k]?=w.heap[k]?):{t:Ty}->{m:Nat}->{x:t.den}->{o:Nat}->{cs:List Value} ->
  (∀k d rest,d<t.sz->L k = .own r ((o+d)::rest)->L' k = .own r ((o+d)::rest)/\w'.heap[k]?=w.heap[k]?)->ca w L r m t x o cs->ca w' L' r m t x o cs:=by
 have HS:∀k,SL L none k->SL L' none k/\w'.heap[k]?=w.heap[k]?:=by
  rintro k (hk|⟨_,_,hk,_⟩)
  ·exact⟨.inl (H1 k hk).1,(H1 k hk).2⟩
  ·cases hk
 intro t;induction t with
 | pair a b _ ih =>
  intro m x o cs H2 h;obtain⟨c0,c1,h1,h2,h3⟩:=h;refine⟨c0,c1,h1,Own.move HS (λk d rest hd hk=>H2 k d rest (by simp only[Ty.sz];omega) hk) h2,ih (λk d rest hd hk=>?_) h3⟩;have:=H2 k (a.sz+d) rest (by simp only[Ty.sz];omega) (by rw[hk,Nat.add_assoc])
  rwa [<-Nat.add_assoc]at this
 | _=>intro m x o cs H2 h;simp only[ca]at h ⊢;exact Own.move HS H2 h
theorem ca.of0[ae]:{t:Ty}->{x:t.den}->{o:Nat}->{cs:List Value}->Own w L (SL L none) r 0 t x [] o cs->ca w L r 0 t x o cs:=by
 intro t;induction t with
 | pair a b _ ih =>
  intro x o cs h;simp only[Own]at h;obtain⟨c0,c1,h1,h2,h3⟩:=h;exact⟨c0,c1,h1,by simpa using h2,ih h3⟩
 | _=>intro x o cs h;simp only[ca];simpa using h
theorem ca.full[ae]:{t:Ty}->{m:Nat}->{x:t.den}->{o:Nat}->{cs:List Value}->{D:Nat}->t.depth<=D->sn m t=true->ca w L r m t x o cs->Own w L (SL L none) r D t x [] o cs:=by
 have one:∀{t:Ty} {m:Nat} {x:t.den} {o:Nat} {cs:List Value} {D:Nat},t.depth<=D->(t.depth==0||m.testBit 0)=true->Own w L (SL L none) r (cond (m.testBit 0) t.depth 0) t x [] o cs->Own w L (SL L none) r D t x [] o cs:=by
  intro t m x o cs D hD hf h;cases hb:m.testBit 0 with
  | true=>rw[hb]at h;exact Own.cap (Nat.le_refl _) hD h
  | false =>
   rw[hb,Bool.or_false]at hf;exact Own.flat (by simpa using hf) h
 intro t;induction t with
 | pair a b _ ih =>
  intro m x o cs D hD hf h;obtain⟨c0,c1,h1,h2,h3⟩:=h;simp only[sn,Bool.and_eq_true]at hf;simp only[Ty.depth]at hD;simp only[Own];exact⟨c0,c1,h1,one (by omega) hf.1 h2,ih (by omega) hf.2 h3⟩
 | _=>intro m x o cs D hD hf h;simp only[ca]at h;exact one hD hf h
theorem aqi(m i:Nat):(m ||| 2 ^ (i+1)).testBit 0=m.testBit 0/\(m ||| 2 ^ (i+1)) / 2=m / 2 ||| 2 ^ i:=by
 refine⟨?_,?_⟩
 ·rw[Nat.testBit_or,Nat.testBit_two_pow];simp
 ·rw[Nat.or_div_two,Nat.pow_succ,Nat.mul_div_cancel _ (by omega)]
theorem abI(m:Nat):(m ||| 2 ^ 0).testBit 0=true/\(m ||| 2 ^ 0) / 2=m / 2:=by
 refine⟨?_,?_⟩
 ·rw[Nat.testBit_or,Nat.testBit_two_pow];simp
 ·rw[Nat.or_div_two];simp
theorem abh{t1 t':Ty}{x1:t1.den}{y:t'.den}{z:t1.den}(h:(fe [] t1 x1 t' y).aj T z log):∃e:t'=t1,z=e▸y:=by
 simp only[fe]at h;split at h
 ·rename_i e;exact⟨e,h.1⟩
 ·exact h.elim
theorem ca.mod[ae](H1:∀k,L k = .au->L' k = .au/\w'.heap[k]?=w.heap[k]?):{t:Ty}->{i m:Nat}->{x x':t.den}->{o:Nat}->{cs bl:List Value}->{t1:Ty}->{y x1:t1.den}->{o1:Nat}->{log:List Nat} ->
  comp i t x=some (o1,⟨t1,x1⟩)->(iF i t x (λt' x'=>fe [] t' x' t1 y)).aj T x' log ->
  (∀k d rest,d<t.sz->¬(o1<=d/\d<o1+t1.sz)->L k = .own r ((o+d)::rest)->L' k = .own r ((o+d)::rest)/\w'.heap[k]?=w.heap[k]?) ->
  bl.length=cs.length->(∀j,j<o1\/o1+t1.sz<=j->bl[j]?=cs[j]?)->Own w' L' (SL L' none) r t1.depth t1 y [] (o+o1) ((bl.drop o1).take t1.sz) ->
  ca w L r m t x o cs->ca w' L' r (m ||| 2 ^ i) t x' o bl:=by
 have HS:∀k,SL L none k->SL L' none k/\w'.heap[k]?=w.heap[k]?:=by
  rintro k (hk|⟨_,_,hk,_⟩)
  ·exact⟨.inl (H1 k hk).1,(H1 k hk).2⟩
  ·cases hk
 intro t;induction t with
 | pair a b _ ih =>
  intro i m x x' o cs bl t1 y x1 o1 log hc hm H2 hl e9 hy h;have hlen:=ca.len h;obtain⟨c0,c1,rfl,h2,h3⟩:=h;have jQ:=Own.len h2;cases i with
  | zero =>
   simp only[comp,Option.some.injEq,Prod.mk.injEq]at hc;obtain⟨rfl,hc⟩:=hc;cases hc;simp only[iF]at hm;obtain⟨z,l1,l2,rfl,hz,h5,_⟩:=M.aq hm;obtain⟨e,rfl⟩:=abh hz;subst h5;obtain⟨k1,k2⟩:=abI m;refine⟨bl.take a.sz,c1,?_,?_,?_⟩
   ·apply List.ext_getElem?;intro j;by_cases hj:j<a.sz
    ·rw[List.getElem?_append_left (by rw[List.length_take];simp only[List.length_append]at hl;omega),List.getElem?_take_of_lt hj]
    ·have hll:(bl.take a.sz).length=a.sz:=by rw[List.length_take];simp only[List.length_append]at hl;omega
     rw[List.getElem?_append_right (by omega),hll,e9 j (.inr (by omega)),List.getElem?_append_right (by omega),jQ]
   ·rw[k1];simpa using hy
   ·rw[k2];refine ca.move H1 (λk d rest hd hk=>?_) h3;have:=H2 k (a.sz+d) rest (by simp only[Ty.sz];omega) (by omega) (by rw[hk,Nat.add_assoc])
    rwa [<-Nat.add_assoc]at this
  | succ i =>
   simp only[comp,Option.map_eq_some_iff]at hc;obtain⟨⟨o2,t2,x2⟩,hc,he⟩:=hc;simp only[Prod.mk.injEq]at he;obtain⟨rfl,he⟩:=he;cases he;simp only[iF]at hm;obtain⟨z,l1,l2,rfl,hz,h5,_⟩:=M.aq hm;subst h5;obtain⟨k1,k2⟩:=aqi m i;have YA:bl.length=a.sz+b.sz:=by rw[hl];simpa[Ty.sz]using hlen
   refine⟨c0,bl.drop a.sz,?_,?_,?_⟩
   ·apply List.ext_getElem?;intro j;by_cases hj:j<a.sz
    ·rw[List.getElem?_append_left (by omega),e9 j (.inl (by omega)),List.getElem?_append_left (by omega)]
    ·rw[List.getElem?_append_right (by omega),List.getElem?_drop,jQ,show a.sz+(j - a.sz)=j by omega]
   ·rw[k1];exact Own.move HS (λk d rest hd hk=>H2 k d rest (by simp only[Ty.sz];omega) (by omega) hk) h2
   ·rw[k2];refine ih hc hz (λk d rest hd hn hk=>?_) ?_ (λj hj=>?_) ?_ h3
    ·have:=H2 k (a.sz+d) rest (by simp only[Ty.sz];omega) (by omega) (by rw[hk,Nat.add_assoc])
     rwa [<-Nat.add_assoc]at this
    ·simp only[List.length_append]at hl;rw[List.length_drop];omega
    ·rw[List.getElem?_drop,e9 _ (by omega),List.getElem?_append_right (by omega),jQ,show a.sz+j - a.sz=j by omega]
    ·rw[List.drop_drop,<-Nat.add_assoc]at *
     exact hy
 | _ =>
  intro i m x x' o cs bl t1 y x1 o1 log hc hm H2 hl e9 hy h;cases i with
  | zero =>
   simp only[comp,Option.some.injEq,Prod.mk.injEq]at hc;obtain⟨rfl,hc⟩:=hc;cases hc;simp only[iF]at hm;obtain⟨e,rfl⟩:=abh hm;have hlen:=ca.len h;simp only[ca];rw[(abI m).1];rw[List.drop_zero,List.take_of_length_le (by omega)]at hy;exact hy
  | succ i=>simp[comp]at hc
theorem aa8{m:Nat}{ta:Ty}{x:ta.den}:(nG m ta x).aO=true/\(nG m ta x).root=none:=by
 unfold nG;cases sn m ta<;>exact⟨rfl,rfl⟩
theorem acq[ae](hI:Inv w0 L0 N vs T a w L)(hC:bF P C){o:Oper}{X:TypeId}{t off m0:Nat}{ta:Ty}{x0:ta.den}(ho:o.op = .store X (.tmp t) x)(aA:o.dst=none)
  (c8:∃g,a.eval (.tmp t) = .pointer (some ⟨g,off,none⟩)/\L g = .own r [])
  (dK:∃g cur e,a.tmps.getD r undef = .pointer (some ⟨g,0,none⟩)/\L g = .own r []/\w.heap[g]?=some (.cells cur e (0,0))/\cur.size=ta.sz/\ca w L r m0 ta x0 0 cur.toList)
  (bD:(T.getD r .dead).dE=false) (h:(El C vs N kids X r i off m0 ta x0 x).aj T ups log):Step P o w0 L0 N vs (ai T ups) a w:=by
 unfold El at h;split at h
 ·rename_i s;obtain⟨aD,rfl,h⟩:=h;generalize hv:T.getD s .dead=v at h;dsimp only at h;split at h
  ·rename_i k t1 y;split at h
   ·rename_i o1 t2 x1 Yh;split at h
    ·rename_i hc;obtain⟨rfl,rfl,oC,Ym,hX,bf,bu,dw,Yb,jU⟩:=hc;obtain⟨x2,l1,l2,rfl,wv,h⟩:=M.aq h;obtain⟨cQ,log2,h⟩:=jI h;obtain⟨rfl,_⟩:=h;have Y6:s∉vs:=λhm=>by rw[List.contains_iff_mem.2 hm]at bf;cases bf
     obtain⟨g,hp,hg⟩:=c8;obtain⟨g',cur,e,c1,c2,c3,c4,c5⟩:=dK;obtain rfl:=hI.inj g g' r _ hg c2;have iz:=hI.aX s;rw[hv]at iz;obtain⟨_,cs,hf,bT⟩:=iz;have dY:=Own.one bT;have hlen:=Own.len bT;obtain⟨pR,_⟩:=ca.WY c5 Yh;have bq:o1+t2.sz<=cur.size:=by rw[c4];exact pR
     have aT:(execOp a.eval o).run P w = .ok .skip (w.setRow g (putCells cur o1 cs)):=by
      have vV:Form t2 cs (a.eval (.tmp s)):=hf;simp[execOp,ho,hp,tw (hC X _ hX) c3 vV dY hlen bq]
     have b8:s<N:=apT hI (by rw[hv];simp);have nt:∀z,z≠s->(T.getD z .dead).on r=true->∃p' t',T.getD z .dead = .ptr r p' t'/\shallow p'=true:=by
      intro z gZ ag;have hb:(T.getD z .dead).ey r=false:=cQ z gZ;unfold V.ey at hb;rw[ag,Bool.true_and]at hb;generalize T.getD z .dead=v at hb ag;cases v with
      | ptr r2 p2 t2 =>
       have:r2=r:=by simpa[V.on,V.root]using ag
       subst this;exact⟨p2,t2,rfl,by simpa using hb⟩
      | _=>simp at hb
     have bL:(ai T [(r,nG (m0 ||| 2 ^ i) ta x2),(s,.dead)]).getD s .dead = .dead:=by
      show ((T.set r _).set s _).getD s .dead=_;rw[aJ,if_pos ⟨rfl,by simp[hI.len,b8]⟩]
     have bG:(ai T [(r,nG (m0 ||| 2 ^ i) ta x2),(s,.dead)]).getD r .dead=nG (m0 ||| 2 ^ i) ta x2:=by
      show ((T.set r _).set s _).getD r .dead=_;rw[aJ,if_neg (λh=>bu h.1.symm),aJ,if_pos ⟨rfl,by rw[hI.len];exact dw⟩]
     have bt:∀z,z≠r->z≠s->(ai T [(r,nG (m0 ||| 2 ^ i) ta x2),(s,.dead)]).getD z .dead=T.getD z .dead:=by
      intro z h1 h2;show ((T.set r _).set s _).getD z .dead=_;rw[aJ,if_neg (λh=>h2 h.1),aJ,if_neg (λh=>h1 h.1)]
     have da:some s≠some r:=by simpa using bu
     have kQ:∀k,k≠g->(w.setRow g (putCells cur o1 cs)).heap[k]?=w.heap[k]?:=λk hk=>setRow_other w g k _ hk;have jM:fD (dN r [] o1 t2.sz t2.depth (some s)) (λz=>z=r\/z=s\/(T.getD z .dead).on r=true):=acn da (.inl rfl) (λs' h=>by cases h;exact .inr (.inl rfl));have KS:∀kk z,L kk = .own r z->¬kD [] o1 t2.sz z->aW (dN r [] o1 t2.sz t2.depth (some s)) w L (λ_=>.free) kk = .own r z:=by
      intro kk z hk hu;rw[dc hI (by rw[hk];simp),hk];simp only[eI,dN];rw[if_pos trivial,if_neg];intro h;simp only[Bool.and_eq_true]at h;exact hu (qQ.1 h.2)
     have dX:∀{q},kD [] o1 t2.sz q->q≠[]:=by
      rintro q ⟨d,rest,_,rfl⟩ h;simp at h
     have gD:aW (dN r [] o1 t2.sz t2.depth (some s)) w L (λ_=>.free) g = .own r []:=KS g [] hg (λh=>dX h rfl);intro K Q hK;unfold Oper.wp;rw[aT,Oper.upon_skip,aA];refine hK a _ (aW (dN r [] o1 t2.sz t2.depth (some s)) w L (λ_=>.free)) ?_;refine Inv.gI (X:=λz=>z=r\/z=s\/(T.getD z .dead).on r=true) hI jM ?_ (λ_ _ _ _ _ h=>by cases h) hI.size (by rw[cC,hI.len]) hI.dO ?_ ?_ ?_ ?_ ?_
     ·refine⟨rfl,rfl,rfl,by simp[World.setRow],Nat.le_refl _,λkk hk hx=>kQ kk ?_,λ_ _=>rfl,λ_ _ _ _ h=>by cases h⟩
      rintro rfl
      exact hx r _ hg (.inl rfl)
     ·intro kk z q sA h;by_cases h1:z=r
      ·subst h1;rw[bG];exact aa8.1
      ·unfold aW at h;split at h
       ·obtain⟨s0,q0,e0,f0⟩:=eS h;rcases qI da f0 with⟨_,rfl,_⟩|⟨_,rfl,_⟩|⟨h2,h3,rfl,rfl⟩
        ·exact absurd rfl h1
        ·exact absurd rfl h1
        ·have h3:z≠s:=λe=>h3 (by rw[e]);rw[bt z h1 h3];exact hI.owner kk z q e0
       ·cases h
     ·intro z r' bY ag aZ;have bY:=not_or.1 bY;have dq:=not_or.1 bY.2;rcases aZ with rfl|rfl|aZ
      ·exact absurd ag dq.2
      ·exact absurd (hI.roots z r' ag) Y6
      ·by_cases h2:r'=s
       ·subst h2;exact absurd (hI.roots z r' ag) Y6
       ·obtain⟨p',t',he,_⟩:=nt r' h2 aZ;rw[he];rfl
     ·intro z bY;have bY:=not_or.1 bY;have dq:=not_or.1 bY.2;exact⟨bt z bY.1 dq.1,rfl⟩
     ·intro z r' bY ag;by_cases h1:z=r
      ·subst h1;rw[bG]at ag;simp[V.on,aa8.2]at ag
      ·by_cases h2:z=s
       ·subst h2;rw[bL]at ag;simp[V.on,V.root]at ag
       ·rw[bt z h1 h2]at ag;exact hI.roots z r' ag
     ·intro z bY;by_cases h1:z=r
      ·subst h1;rw[bG];have lM:ca (w.setRow g (putCells cur o1 cs)) (aW (dN z [] o1 t2.sz t2.depth (some s)) w L (λ_=>.free)) z (m0 ||| 2 ^ i) ta x2 0 (putCells cur o1 cs).toList:=by
        refine ca.mod (λkk hk=>⟨ew hI hk,kQ kk (by rintro rfl;rw[hg]at hk;cases hk)⟩) Yh wv (λkk d rest hd hn hk=>?_) ?_ (λj hj=>?_) ?_ c5
        ·refine⟨KS kk _ hk (λhu=>?_),kQ kk (by rintro rfl;rw[hg]at hk;injection hk with _ hk;cases hk)⟩;obtain⟨d',fA,oB,he⟩:=hu;simp only[List.nil_append,List.cons.injEq]at he;omega
        ·have:=EJ (cur:=cur) (o:=o1) (cs:=cs) (by omega);simpa using this
        ·have:=EI (cur:=cur) (o:=o1) (cs:=cs) (by omega) j (by omega);simpa using this
        ·have pQ:=EH (cur:=cur) (o:=o1) (cs:=cs) (by omega);rw[hlen]at pQ;rw[pQ];refine Own.ff Ym (λkk hk=>?_) (λkk d rest hd hk=>?_) bT
         ·rcases hk with hk|⟨_,_,hk,_⟩
          ·exact⟨.inl (ew hI hk),kQ kk (by rintro rfl;rw[hg]at hk;cases hk)⟩
          ·cases hk
         ·have hh:aW (dN z [] o1 t2.sz t2.depth (some s)) w L (λ_=>.free) kk=if rest.length<t2.depth then .own z ((o1+d)::rest)else .au:=by
           rw[dc hI (by rw[hk];simp),hk];simp only[eI,dN,List.nil_append,Nat.zero_add];rw[if_neg bu,if_pos trivial,if_pos hd]
          refine⟨kQ kk (by rintro rfl;rw[hg]at hk;injection hk with hk _;exact bu hk.symm),λhl=>?_,λhl=>.inl ?_⟩
          ·rw[hh,if_pos hl];simp
          ·show aW _ _ _ _ kk=_;rw[hh,if_neg (by omega)]
       have Yq:=setRow_heap w g cur (putCells cur o1 cs) e (0,0) c3;have Y3:=EJ (cur:=cur) (o:=o1) (cs:=cs) (by omega);unfold nG;cases hfu:sn (m0 ||| 2 ^ i) ta with
       | true =>
        refine⟨by simp,g,putCells cur o1 cs,e,c1,gD,Yq,by rw[Y3];exact c4,?_⟩;simp only[Own];exact ca.full (Nat.le_refl _) hfu lM
       | false=>exact⟨g,putCells cur o1 cs,e,c1,gD,Yq,by rw[Y3];exact c4,lM⟩
      ·by_cases h2:z=s
       ·subst h2;rw[bL];trivial
       ·have ag:(T.getD z .dead).on r=true:=by
         rcases bY with h|h|h
         ·exact absurd h h1
         ·exact absurd h h2
         ·exact h
        rw[bt z h1 h2];obtain⟨p',t',he,eu⟩:=nt z h2 ag;have p6:=hI.aX z;rw[he]at p6 ⊢;obtain⟨g2,j1,j2⟩:=p6;refine⟨g2,j1,?_⟩;rw[qE eu]at j2 ⊢;exact KS g2 [] j2 (λh=>dX h rfl)
    ·exact h.elim
   ·exact h.elim
  ·exact h.elim
 ·exact h.elim
theorem arN[ae](hI:Inv w0 L0 N vs T a w L)(hC:bF P C){t:Nat}(ho:o.op = .store X (.tmp t) x)(aA:o.dst=none)
  (ht:addrOf t (T.getD t .dead)=some (r,p)) (c8:∀r p,addrOf t (T.getD t .dead)=some (r,p)->∃g,a.eval (.tmp t) = .pointer (some ⟨g,(node [] 0 p).2,none⟩)/\L g = .own r (node [] 0 p).1)
  (hr:T.getD r .dead=u) (h:(L4 C vs N kids X r p u x m).aj T ups log) (hm:∀log,m.aj T ups log->Step P o w0 L0 N vs (ai T ups) a w):Step P o w0 L0 N vs (ai T ups) a w:=by
 unfold L4 at h;split at h
 ·rename_i i off;have KJ:=c8 r _ ht;simp only[node,Nat.zero_add]at KJ;have bh:=hI.aX r;rw[hr]at bh;split at h
  ·rename_i ta x0;obtain⟨_,g,cur,e,h1,h2,h3,h4,h5⟩:=bh;simp only[Own]at h5;exact acq (ta:=ta) (x0:=x0) hI hC ho aA KJ ⟨g,cur,e,h1,h2,h3,h4,ca.of0 (t:=ta) h5⟩ (by rw[hr];rfl) h
  ·rename_i m0 ta x0;exact acq hI hC ho aA KJ bh (by rw[hr];rfl) h
  ·exact hm _ h
 ·exact hm _ h
end
def xo(r:Nat)(v:V):Bool := !v.ey r||(match v with
 | .ptr _ _ _=>true
 | .view _ [] _=>true
 | _=>false)
def LK{α:Type}(r:Nat):List Nat->M α->M α
 | [],m=>m
 | k::l,m=>.get k λv=>.bn (xo r v) (LK r l m)
def M5(C:Ctx)(N:Nat)(kids:List Nat)(X:TypeId)(r:Nat)(p:List St)(u:V)(x:Operand)(m:M (List (Nat×V))):M (List (Nat×V)):=
 (dG p u).bind λz =>
  if z.2.t.depth=0/\u.dE=true/\C.ty X=some z.2.t/\(u.root != some r)=true/\r<N/\r<100000 then
   (cI C X x).bind λv=>match v with
   | .d none _ t' y=>if h:t'=z.2.t then (fT p u z.2.t (h▸y)).bind λu'=>LK r kids (.ask (vp r (jk false (r::kids))) (.ret [(r,u')]))else .fail
   | _=>.fail
  else m
section
variable{P:Program}{C:Ctx}{w w' w0:World}{S S':Nat->Prop}{L L' L0:Nat->ak}{s N:Nat}{vs:List Nat}{T T':List V}{tm tm':Array Value}{a:Act}
theorem aaG{α:Type}{m:M α}{x:α}:{l:List Nat}->{log:List Nat}->(LK r l m).aj T x log->(∀k∈l,xo r (T.getD k .dead)=true)/\∃aD,m.aj T x aD
 | [],log,h=>⟨by simp,log,h⟩
 | k::l,log,h=>by
  obtain⟨aD,rfl,hc,h⟩:=h;obtain⟨h1,h2⟩:=aaG (l:=l) h;refine⟨λk' aL=>?_,h2⟩;rcases List.mem_cons.1 aL with rfl|aL
  ·exact hc
  ·exact h1 k' aL
theorem arR[ae](hI:Inv w0 L0 N vs T a w L)(hC:bF P C){m:M (List (Nat×V))}(ho:o.op = .store X (.tmp t) x)(aA:o.dst=none)
  (ht:addrOf t (T.getD t .dead)=some (r,p)) (c8:∀r p,addrOf t (T.getD t .dead)=some (r,p)->∃g,a.eval (.tmp t) = .pointer (some ⟨g,(node [] 0 p).2,none⟩)/\L g = .own r (node [] 0 p).1)
  (hr:T.getD r .dead=u) (h:(M5 C N kids X r p u x m).aj T ups log) (hm:∀log,m.aj T ups log->Step P o w0 L0 N vs (ai T ups) a w):Step P o w0 L0 N vs (ai T ups) a w:=by
 obtain⟨⟨l,n',t',x'⟩,l1,l2,rfl,hz,h⟩:=M.aq h;dsimp only at h;split at h
 ·rename_i hc;obtain⟨hd,nz,hX,lU,dw,K5⟩:=hc;clear hm;obtain⟨v,l3,l4,rfl,hv,h⟩:=M.aq h;split at h
  ·rename_i k tv y;split at h
   ·rename_i p7;subst p7;obtain⟨u',l5,l6,rfl,wv,h⟩:=M.aq h;obtain⟨KP,log2,h⟩:=aaG h;obtain⟨⟨hq,_⟩,fH,rfl,h⟩:=h;obtain⟨rfl,_⟩:=h;have aH:∀z,z≠r->xo r (T.getD z .dead)=true:=by
     intro z hz;by_cases hm:z∈kids
     ·exact KP z hm
     ·have:=JG K5 hq z (xd (by simp[hz,hm]));rw[xe]at this;have this:(T.getD z .dead).ey r=false:=this;unfold xo;rw[this];rfl
    obtain⟨g,pU,hg⟩:=c8 r p ht;have bh:=hI.aX r;rw[hr]at bh;obtain⟨⟨g',cur,e,k1,k2,k3,k4⟩,_,_,gW,lK⟩:=lb hz bh;obtain rfl:=hI.inj g g' r _ hg k1;have ee:∃cs s0,Form tv cs (a.eval x)/\Own w L (SL L none) s0 k tv y [] 0 cs:=by
     rcases ke hI hv with⟨s,rfl,_,hs⟩|⟨_,hs⟩
     ·obtain⟨_,cs,hf,bT⟩:=hs;exact⟨cs,s,hf,bT⟩
     ·obtain⟨_,cs,hf,bT⟩:=hs L T a.tmps 0 w;exact⟨cs,0,hf,bT⟩
    obtain⟨cs,s0,hf,bT⟩:=ee;have dY:=Own.one bT;have hlen:=Own.len bT;have aT:(execOp a.eval o).run P w = .ok .skip (w.setRow g (putCells cur (node [] 0 p).2 cs)):=by
     simp[execOp,ho,pU,tw (hC X _ hX) k2 hf dY hlen k3]
    have bG:(ai T [(r,u')]).getD r .dead=u':=by
     show (T.set r u').getD r .dead=u';rw[aJ,if_pos ⟨rfl,by rw[hI.len];exact dw⟩]
    have bt:∀z,z≠r->(ai T [(r,u')]).getD z .dead=T.getD z .dead:=by
     intro z hz;show (T.set r u').getD z .dead=_;rw[aJ,if_neg (λh=>hz h.1)]
    intro K Q hK;unfold Oper.wp;rw[aT,Oper.upon_skip,aA];refine hK a _ _ (Inv.store (m:=n') (src:=none) hI hr hz wv (by simpa using lU) hg k2 k3 hlen (by simp) (by rw[cC,hI.len]) bG ?_ (λz hz _ _=>bt z hz) (Own.flat hd bT));intro z hz _ ag;refine .inr ⟨bt z hz,?_⟩;have hk:=aH z hz;unfold xo V.ey at hk;rw[ag,Bool.true_and]at hk;generalize T.getD z .dead=vz at hk ag;cases vz with
    | ptr r2 p2 t2=>exact .inl rfl
    | view r2 p2 t2 =>
     cases p2 with
     | nil=>exact .inl (by simpa[b9]using nz)
     | cons _ _=>simp at hk
    | _=>simp at hk
   ·exact h.elim
  ·exact h.elim
 ·exact hm _ h
end
def qc(N:Nat):List Nat->M (List (Nat×V))->M (List (Nat×V))
 | [],m=>m
 | s::l,m=>.get s λv=>match v with
  | .d none n t x =>
   if n≠0/\t.depth≠0/\s<N then
    ig true s s [] (((qc N l m).eR [(s,.d none 0 t x)]).bind λups=>.ret ((s,.d none 0 t x)::ups))
   else qc N l m
  | _=>qc N l m
def tf(lev N:Nat):List Nat->M (List (Nat×V))->M (List (Nat×V))
 | [],m=>m
 | s::l,m=>.get s λv=>cond (v.qe&&v.root.isNone&&decide (lev<v.lvl)&&decide (s<N))
   (ig true s s [] (((tf lev N l m).eR [(s,fF lev v)]).bind λups=>.ret ((s,fF lev v)::ups)))
   (tf lev N l m)
section
variable{P:Program}{C:Ctx}{w w' w0:World}{L L' L0:Nat->ak}{s N:Nat}{vs:List Nat}{a:Act}
theorem wS[ae]:{l:List Nat}->{T:List V}->{L:Nat->ak}->{ups:List (Nat×V)}->{log:List Nat}->Inv w0 L0 N vs T a w L->(qc N l m).aj T ups log ->
  ∃T1 L1 bK log2,Inv w0 L0 N vs T1 a w L1/\m.aj T1 bK log2/\ai T ups=ai T1 bK
 | [],T,L,ups,log,hI,h=>⟨T,L,ups,log,hI,h,rfl⟩
 | s::l,T,L,ups,log,hI,h=>by
  simp only[qc]at h;obtain⟨aD,rfl,h⟩:=h;dsimp only at h;split at h
  ·rename_i n t x hv;split at h
   ·rename_i hc;obtain⟨hn,hd,b8⟩:=hc;obtain⟨cQ,log2,h⟩:=jI h;obtain⟨bK,l3,l4,rfl,h1,h2⟩:=M.aq h;obtain⟨rfl,_⟩:=h2;have bh:s<T.length:=by rw[hI.len];exact b8
    have nk:∀z,(T.set s (.d none 0 t x)).getD z .dead=(eE [(s,.d none 0 t x)] z).getD (T.getD z .dead):=λz=>by
     simp only[eE];rw[aJ];by_cases h1:z=s
     ·subst h1;simp[bh]
     ·have e1:(s==z)=false:=by simpa using Ne.symm h1
      rw[e1];simp[h1]
    obtain⟨fH,h1⟩:=oR (T':=T.set s (.d none 0 t x)) (by simp) (λz hz=>by
     simp only[List.map_cons,List.map_nil,List.mem_cons,List.not_mem_nil,or_false]at hz;rw[hz];exact bh) nk _ h1
    obtain⟨L1,bz⟩:=Inv.freeze (T':=T.set s (.d none 0 t x)) hI (X:=λz=>z==s) (lev:=λ_=>0) (λz r hr=>by
      have hr:r=s:=by simpa using hr
      subst hr;by_cases hz:z=r
      ·subst hz;rw[hv];rfl
      ·simpa using cQ z hz) (λz hz=>by
      have hz:z=s:=by simpa using hz
      subst hz;rw[hv];rfl) (λz _=>Nat.zero_le _) (by simp[hI.len]) (λz=>by
      rw[aJ];by_cases hz:z=s
      ·subst hz;rw[if_pos ⟨rfl,bh⟩,hv];simp[fF]
      ·have:(z==s)=false:=by simpa using hz
       rw[if_neg (λh=>hz h.1),this];rfl)
    obtain⟨T1,L2,jv,jj,k1,k2,k3⟩:=wS bz h1;exact⟨T1,L2,jv,jj,k1,k2,k3⟩
   ·exact wS hI h
  ·exact wS hI h
theorem Ed[ae]{lev:Nat}:{l:List Nat}->{T:List V}->{L:Nat->ak}->{ups:List (Nat×V)}->{log:List Nat}->Inv w0 L0 N vs T a w L->(tf lev N l m).aj T ups log ->
  ∃T1 L1 bK log2,Inv w0 L0 N vs T1 a w L1/\m.aj T1 bK log2/\ai T ups=ai T1 bK
 | [],T,L,ups,log,hI,h=>⟨T,L,ups,log,hI,h,rfl⟩
 | s::l,T,L,ups,log,hI,h=>by
  simp only[tf]at h;obtain⟨aD,rfl,h⟩:=h;dsimp only at h;cases hc:((T.getD s .dead).qe&&(T.getD s .dead).root.isNone&&decide (lev<(T.getD s .dead).lvl)&&decide (s<N))with
  | false =>
   rw[hc,cond_false]at h;exact Ed hI h
  | true =>
   rw[hc,cond_true]at h;simp only[Bool.and_eq_true,decide_eq_true_eq]at hc;obtain⟨⟨⟨hn,wI⟩,hd⟩,b8⟩:=hc;obtain⟨cQ,log2,h⟩:=jI h;obtain⟨bK,l3,l4,rfl,h1,h2⟩:=M.aq h;obtain⟨rfl,_⟩:=h2;have bh:s<T.length:=by rw[hI.len];exact b8
   have nk:∀z,(T.set s (fF lev (T.getD s .dead))).getD z .dead=(eE [(s,fF lev (T.getD s .dead))] z).getD (T.getD z .dead):=λz=>by
    simp only[eE];rw[aJ];by_cases h1:z=s
    ·subst h1;simp[bh]
    ·have e1:(s==z)=false:=by simpa using Ne.symm h1
     rw[e1];simp[h1]
   obtain⟨fH,h1⟩:=oR (T':=T.set s (fF lev (T.getD s .dead))) (by simp) (λz hz=>by
    simp only[List.map_cons,List.map_nil,List.mem_cons,List.not_mem_nil,or_false]at hz;rw[hz];exact bh) nk _ h1
   have lU:(T.getD s .dead).on s=false:=by
    unfold V.on;rw[Option.isNone_iff_eq_none.1 wI];rfl
   obtain⟨L1,bz⟩:=Inv.freeze (T':=T.set s (fF lev (T.getD s .dead))) hI (X:=λz=>z==s) (lev:=λ_=>lev) (λz r hr=>by
     have hr:r=s:=by simpa using hr
     subst hr;by_cases hz:z=r
     ·subst hz;exact lU
     ·simpa using cQ z hz) (λz hz=>by
     have hz:z=s:=by simpa using hz
     subst hz;exact hn) (λz hz=>by
     have hz:z=s:=by simpa using hz
     subst hz;exact Nat.le_of_lt hd) (by simp[hI.len]) (λz=>by
     rw[aJ];by_cases hz:z=s
     ·subst hz;rw[if_pos ⟨rfl,bh⟩];simp
     ·have:(z==s)=false:=by simpa using hz
      rw[if_neg (λh=>hz h.1),this];rfl)
   obtain⟨T1,L2,jv,jj,k1,k2,k3⟩:=Ed bz h1;exact⟨T1,L2,jv,jj,k1,k2,k3⟩
end
def sf(s:Nat):V->M (Nat×D)
 | .box none k t' y=>.ret (s,⟨k,t',y⟩)
 | .ptr r [] _=>.get r λu=>match u with
  | .box none k t' y=>.ret (r,⟨k,t',y⟩)
  | _=>.fail
 | _=>.fail
def Mz(t:Ty)(n:Nat)(x:Operand):M (t.den×Nat):=
 match x with
 | .tmp s=>.get s λv=>(sf s v).bind λz=>if h:z.2.t=t then (if z.2.n=n then .ret (h▸z.2.x,z.1)else .fail)else .fail
 | _=>.fail
def r9(C:Ctx):Nat->(ps:List (Ty×Mode))->List Operand->M (lv ps)
 | _,[],[]=>.ret ⟨(),[],[]⟩
 | i,(t,.ro)::ps,x::xs=>(py C t x).bind λy=>(r9 C (i+1) ps xs).bind λr=>.ret ⟨(y.1,r.x),y.2++r.ls,r.mu⟩
 | i,(t,.ptr n)::ps,x::xs=>(Mz t n x).bind λy=>(r9 C (i+1) ps xs).bind λr=>.ret ⟨(y.1,r.x),r.ls,(y.2,i)::r.mu⟩
 | _,_,_=>.fail
def xi:(ps:List (Ty×Mode))->(cD ps).den->Option V
 | [],_=>none
 | (t,.ptr n)::_,x=>some (.box none n t x.1)
 | (_,.mut _)::_,_=>none
 | (_,.bU _)::_,_=>none
 | (_,.ro)::ps,x=>xi ps x
def pM:List (Ty×Mode)->Bool
 | []=>true
 | (t,.ptr n)::ps=>decide (t.depth<=n)&&pM ps
 | _::ps=>pM ps
def ct(r d:Nat):Nat->V->Bool:=λz v=>v.on r&&z != r&&z != d
def JQ(C:Ctx)(bj:dI)(vs:List Nat)(N d:Nat)(f:FuncId)(args:List Operand):M (List (Nat×V)):=
 match bj f with
 | none=>.fail
 | some F=>(r9 C 0 F.ps args).bind λA=>match A.mu with
  | [(r0,_)]=>cond (A.ls.contains r0 || !decide (r0<N) || !(A.ls.isEmpty||pM F.ps)) .fail (.cL (.pair (cX F.rs) (cD F.ps)) (F.al A.x) λr=>match mg vs A.ls F.rs r.1,xi F.ps r.2 with
   | some v,some u'=>(allM 0 N).bind λTs=>.bn (mO (ct r0 d) 0 Ts) (.ret (((r0,u')::cb (ct r0 d) 0 Ts)++[(d,v)]))
   | _,_=>.fail)
  | _=>.fail
def Jw:List (Ty×Mode)->Bool
 | []=>false
 | (_,.ptr _)::_=>true
 | _::ps=>Jw ps
def JS(C:Ctx)(bj:dI)(vs:List Nat)(N d:Nat)(f:FuncId)(args:List Operand):M (List (Nat×V)):=
 match bj f with
 | none=>.fail
 | some F=>cond (Jw F.ps) (JQ C bj vs N d f args) (JR C bj vs N d f args)
section
variable{P:Program}{C:Ctx}{w w' w0:World}{S S':Nat->Prop}{L L' L0:Nat->ak}{s N:Nat}{vs:List Nat}{T T':List V}{tm tm':Array Value}{a:Act}
theorem WC[ae](hI:Inv w0 L0 N vs T a w L){s:Nat}{z:D}(h:(sf s (T.getD s .dead)).aj T (r,z) log):
  T.getD r .dead = .box none z.n z.t z.x/\a.tmps.getD s undef=a.tmps.getD r undef:=by
 have hs:=hI.aX s;generalize hv:T.getD s .dead=v at h hs;unfold sf at h;split at h
 ·obtain⟨h,_⟩:=h;injection h with h1 h2;subst h1 h2;exact⟨hv,rfl⟩
 ·rename_i r' t';obtain⟨aD,rfl,h⟩:=h;have hr:=hI.aX r';generalize hu:T.getD r' .dead=u at h hr;dsimp only at h;split at h
  ·obtain⟨h,_⟩:=h;injection h with h1 h2;subst h1 h2;obtain⟨g,e1,e2⟩:=hs;obtain⟨_,g',cur,e,e3,e4,_⟩:=hr;obtain rfl:=hI.inj g g' _ _ e2 e4;exact⟨hu,by rw[e1,e3];rfl⟩
  ·exact h.elim
 ·exact h.elim
theorem aqs[ae](hI:Inv w0 L0 N vs T a w L){t:Ty}{y:t.den}(h:(Mz t n x).aj T (y,r) log):
  T.getD r .dead = .box none n t y/\a.eval x=a.tmps.getD r undef:=by
 unfold Mz at h;split at h
 ·rename_i s;obtain⟨aD,rfl,h⟩:=h;have hb:=M.aq (m:=sf s (T.getD s .dead)) h;clear h;obtain⟨⟨r',z⟩,l1,l2,rfl,h1,h⟩:=hb;obtain⟨k1,k2⟩:=WC hI h1;obtain⟨n',t',y'⟩:=z;dsimp only at h k1;split at h
  ·rename_i ht;subst ht;split at h
   ·rename_i hk;subst hk;obtain⟨h,_⟩:=h;injection h with h1 h2;subst h1 h2;exact⟨k1,k2⟩
   ·exact h.elim
  ·exact h.elim
 ·exact h.elim
theorem JE[ae](hI:Inv w0 L0 N vs T a w L):{ps:List (Ty×Mode)}->{i:Nat}->{xs:List Operand}->{A:lv ps}->{log:List Nat}->(r9 C i ps xs).aj T A log ->
  (∀r∈A.ls,(T.getD r .dead).deep=true)/\(∀r j,(r,j)∈A.mu->i<=j/\∃t n y,ps[j - i]?=some (t,.ptr n)/\T.getD r .dead = .box none n t y/\(xs.map a.eval)[j - i]?=some (a.tmps.getD r undef)) /\
  (∀j t m,ps[j]?=some (t,m)->m.back=true->∃r,(r,i+j)∈A.mu) /\
  ∀L1:Nat->ak,(∀k,L k = .au->L1 k = .au)->(∀k r q,r∈A.ls->L k = .own r q->L1 k = .au)->(∀k r j q,(r,j)∈A.mu->L k = .own r q->L1 k = .own j q)->dT w L1 i ps A.x (xs.map a.eval)
 | [],i,[],A,log,h=>by
  obtain⟨rfl,_⟩:=h;exact⟨by simp,by simp,by simp,λ_ _ _ _=>rfl⟩
 | (t,.ro)::ps,i,x::xs,A,log,h=>by
  simp only[r9]at h;obtain⟨⟨y,ls⟩,l1,l2,rfl,h1,h⟩:=M.aq h;obtain⟨A',l3,l4,rfl,h2,h⟩:=M.aq h;obtain⟨rfl,_⟩:=h;obtain⟨cells,k1,k2,k3⟩:=vk hI h1;obtain⟨j1,j2,j4,j3⟩:=JE hI h2;refine⟨λr hr=>?_,λr j hm=>?_,λj t' n hj bm=>?_,λL1 H1 H2 H3=>?_⟩
  ·rcases List.mem_append.1 hr with hr|hr
   ·exact k2 r hr
   ·exact j1 r hr
  ·obtain⟨hi,t',n',y',e1,e2,e3⟩:=j2 r j hm;have:j - i=(j - (i+1))+1:=by omega
   exact⟨by omega,t',n',y',by rw[this];simpa using e1,e2,by rw[this];simpa using e3⟩
  ·cases j with
   | zero =>
    simp only[List.getElem?_cons_zero,Option.some.injEq,Prod.mk.injEq]at hj;rw[<-hj.2]at bm;cases bm
   | succ j =>
    obtain⟨r,hr⟩:=j4 j t' n (by simpa using hj) bm;exact⟨r,by rw[show i+(j+1)=i+1+j by omega];exact hr⟩
  ·exact⟨a.eval x,_,cells,rfl,k1,Own.dM (k3 _ H1 (λk r q hr hk=>H2 k r q (List.mem_append_left _ hr) hk)),j3 L1 H1 (λk r q hr hk=>H2 k r q (List.mem_append_right _ hr) hk) H3⟩
 | (t,.ptr n)::ps,i,x::xs,A,log,h=>by
  simp only[r9]at h;obtain⟨⟨y,r0⟩,l1,l2,rfl,h1,h⟩:=M.aq h;obtain⟨A',l3,l4,rfl,h2,h⟩:=M.aq h;obtain⟨rfl,_⟩:=h;obtain⟨k1,k4⟩:=aqs hI h1;obtain⟨j1,j2,j4,j3⟩:=JE hI h2;refine⟨j1,λr j hm=>?_,λj t' n' hj bm=>?_,λL1 H1 H2 H3=>?_⟩
  ·rcases List.mem_cons.1 hm with hm|hm
   ·injection hm with e1 e2;subst e1 e2;exact⟨Nat.le_refl _,t,n,y,by simp,k1,by simp[k4]⟩
   ·obtain⟨hi,t',n',y',e1,e2,e3⟩:=j2 r j hm;have:j - i=(j - (i+1))+1:=by omega
    exact⟨by omega,t',n',y',by rw[this];simpa using e1,e2,by rw[this];simpa using e3⟩
  ·cases j with
   | zero=>exact⟨r0,by simp⟩
   | succ j =>
    obtain⟨r,hr⟩:=j4 j t' n' (by simpa using hj) bm;exact⟨r,by rw[show i+(j+1)=i+1+j by omega];exact List.mem_cons_of_mem _ hr⟩
  ·have hs:=hI.aX r0;rw[k1]at hs;obtain⟨_,g,cur,e,hf,hL,hg,hz,ho⟩:=hs;refine⟨a.eval x,_,rfl,⟨g,cur,e,by rw[k4];exact hf,H3 g r0 i _ (by simp) hL,hg,hz,?_⟩,j3 L1 H1 H2 (λk r j q hm hk=>H3 k r j q (List.mem_cons_of_mem _ hm) hk)⟩;refine Own.move (λk hk=>⟨?_,rfl⟩) (λk d rest _ hk=>⟨H3 k r0 i _ (by simp) hk,rfl⟩) ho;rcases hk with hk|⟨_,_,hk,_⟩
   ·exact H1 k hk
   ·cases hk
 | [],_,_::_,_,_,h=>h.elim
 | (_,.ro)::_,_,[],_,_,h=>h.elim
 | (_,.mut _)::_,_,[],_,_,h=>h.elim
 | (_,.mut _)::_,_,_::_,_,_,h=>h.elim
 | (_,.ptr _)::_,_,[],_,_,h=>h.elim
 | (_,.bU _)::_,_,[],_,_,h=>h.elim
 | (_,.bU _)::_,_,_::_,_,_,h=>h.elim
theorem abm:{ps:List (Ty×Mode)}->{i:Nat}->{x:(cD ps).den}->{cs:List Value}->{v:V}->fP w L0 i ps x cs->xi ps x=some v ->
  ∃j t n y c,ps[j]?=some (t,.ptr n)/\v = .box none n t y/\cs[j]?=some c/\tY w L0 (λk=>L0 k = .au) (i+j) n t y c
 | [],_,_,_,_,_,hv=>by cases hv
 | (t,.mut n)::ps,i,x,cs,v,h,hv=>by cases hv
 | (t,.bU n)::ps,i,x,cs,v,h,hv=>by cases hv
 | (t,.ptr n)::ps,i,x,cs,v,h,hv=>by
  simp only[fP]at h;obtain⟨c,bl,rfl,h1,_⟩:=h;simp only[xi,Option.some.injEq]at hv;exact⟨0,t,n,x.1,c,rfl,hv.symm,rfl,h1⟩
 | (t,.ro)::ps,i,x,cs,v,h,hv=>by
  simp only[fP]at h;obtain⟨c,bl,rfl,h⟩:=h;simp only[xi]at hv;obtain⟨j,t',n,y,c',h1,h2,h3,h4⟩:=abm h hv;exact⟨j+1,t',n,y,c',by simpa using h1,h2,by simpa using h3,by rw[show i+(j+1)=i+1+j by omega];exact h4⟩
theorem vF:{ps:List (Ty×Mode)}->pM ps=true->∀(j:Nat) (t:Ty) (n:Nat),ps[j]?=some (t,.ptr n)->t.depth<=n
 | [],_,j,t,n,hj=>by simp at hj
 | (t0,.ptr n0)::ps,h,j,t,n,hj=>by
  simp only[pM,Bool.and_eq_true,decide_eq_true_eq]at h;cases j with
  | zero =>
   simp only[List.getElem?_cons_zero,Option.some.injEq,Prod.mk.injEq,Mode.ptr.injEq]at hj;obtain⟨rfl,rfl⟩:=hj;exact h.1
  | succ j=>exact vF h.2 j t n (by simpa using hj)
 | (t0,.mut n0)::ps,h,j,t,n,hj=>by
  cases j with
  | zero=>simp at hj
  | succ j=>exact vF (ps:=ps) h j t n (by simpa using hj)
 | (t0,.ro)::ps,h,j,t,n,hj=>by
  cases j with
  | zero=>simp at hj
  | succ j=>exact vF (ps:=ps) h j t n (by simpa using hj)
 | (t0,.bU n0)::ps,h,j,t,n,hj=>by
  cases j with
  | zero=>simp at hj
  | succ j=>exact vF (ps:=ps) h j t n (by simpa using hj)
theorem ale[ae]{ls:List Nat}{ps:List (Ty×Mode)}{rs:List (Ty×Nat)}{m d:Nat}(hI:Inv w0 L0 N vs T a w L)(KO:i≠m)(bd:Left w w' (λk=>cN (some (r,i)) ls (L k)) L' ps rs):
  (∀k q',L' k = .own i q'->dJ (some (r,i)) m d L L' k = .own r q') /\
  ∀{n:Nat} {t:Ty} {x:t.den} {q:List Nat} {o:Nat} {cs:List Value},(t.depth<=n\/ls=[]) ->
   Own w' L' (λk=>L' k = .au) i n t x q o cs->Own w' (dJ (some (r,i)) m d L L') (SL (dJ (some (r,i)) m d L L') none) r n t x q o cs:=by
 have bA:∀k q',L' k = .own i q'->dJ (some (r,i)) m d L L' k = .own r q':=by
  intro k q' hk;have hp:gu (some (r,i)) (L k):=by
   apply Classical.byContradiction;intro hp;have ax:k<w.heap.size:=hI.lt (λe=>hp (.inl e));have h9:=(bd.aV k ax (km hp)).1;rw[hk]at h9;rcases km (ls:=ls) hp with h|h<;>rw[h]at h9<;>cases h9
  rw[jH hp,hk];simp[mU,KO]
 refine⟨bA,λ{n t x q o cs} hl h=>?_⟩;rcases hl with hl|hl
 ·exact Own.move (S:=λ_=>False) (λk hk=>hk.elim) (λk dd rest _ hk=>⟨bA k _ hk,rfl⟩) (Own.full hl h)
 ·subst hl;refine Own.move (λk hk=>⟨.inl ?_,rfl⟩) (λk dd rest _ hk=>⟨bA k _ hk,rfl⟩) h;by_cases hp:gu (some (r,i)) (L k)
  ·rw[jH hp,hk];rfl
  ·have ax:k<w.heap.size:=hI.lt (λe=>hp (.inl e));have h9:=(bd.aV k ax (km hp)).1;rw[hk]at h9;rw[oe hp];cases gT:L k with
   | au=>rfl
   | own s q' =>
    rw[gT]at h9;unfold cN at h9;dsimp only at h9;split at h9
    ·cases h9
    ·simp at h9
   | other=>rw[gT]at h9;cases h9
   | free=>exact absurd (.inl gT) hp
theorem arA[ae](hI:Inv w0 L0 N vs T a w L)(ed:fY P bj){d:Nat}  
  (ho:o.op = .call { callee:=.value (.func f),args,argTypes:=cG }) (aA:o.dst=some d) (hd:d<N) (hid:(T.getD d .dead).idle=true)
  (h:(JQ C bj vs N d f args.toList).aj T ups log):Step P o w0 L0 N vs (ai T ups) a w:=by
 unfold JQ at h;split at h
 ·exact h.elim
 ·rename_i F hF;obtain⟨⟨fn,iw,gf,mX⟩,aH⟩:=ed f F hF;have hb:=M.aq h;clear h;obtain⟨A,l1,l2,rfl,h1,h⟩:=hb;obtain⟨er,gd,pX,gQ⟩:=JE hI h1;have aT:=Go.Conc.run_call_body (P:=P) (a:=a) (w:=w) ho iw gf mX;have lL:∀r∈A.ls,r≠d:=λr hr=>dm hid (V.fg (er r hr));rcases eZ:A.mu with _|⟨⟨r0,i⟩,_|⟨p2,rest⟩⟩
  ·rw[eZ]at h;exact h.elim
  ·rw[eZ]at h;dsimp only at h;cases hc:(A.ls.contains r0 || !decide (r0<N) || !(A.ls.isEmpty||pM F.ps))with
   | true=>rw[hc]at h;exact h.elim
   | false =>
    rw[hc]at h;obtain⟨r,fa,h⟩:=h;dsimp only at h;simp only[Bool.or_eq_false_iff,Bool.not_eq_false',decide_eq_true_eq]at hc;obtain⟨⟨eo,dw⟩,ft⟩:=hc;have jd:r0∉A.ls:=λhm=>by rw[List.contains_iff_mem.2 hm]at eo;cases eo
    split at h
    ·rename_i v u' hv gY;obtain⟨Ts,l3,l4,rfl,dP,iZ,nA⟩:=M.aq h;obtain⟨rfl,_⟩:=nA;have bL:Ts=T:=by rw[ly dP (by rw[Nat.zero_add,hI.len])];rfl
     subst bL;obtain⟨_,t,n,y,h2,h5,h6⟩:=gd r0 i (by rw[eZ];simp);simp only[Nat.sub_zero]at h2 h6;have sK:i<F.ps.length:=(List.getElem?_eq_some_iff.1 h2).1;have wH:r0≠d:=dm hid (by rw[h5];rfl);have jc:∀(j:Nat) (t:Ty) (m:Mode),F.ps[j]?=some (t,m)->m.back=true->j=i:=by
      intro j t m hj hm;obtain⟨r',aZ⟩:=pX j t m hj hm;rw[eZ]at aZ;simp only[List.mem_singleton,Prod.mk.injEq]at aZ;omega
     have ni:jB w (λk=>cN (some (r0,i)) A.ls (L k)) F.ps:=by
      refine⟨λk hk=>by rw[hI.free k hk];rfl,λk k' s q h h'=>?_,λk s q h=>?_,ae.aV hI.fr.gP λk hk h0=>⟨?_,(hI.fr.aV k hk h0).2⟩⟩
      ·obtain⟨r1,e1,e2⟩:=lq h;obtain⟨r2,e3,e4⟩:=lq h';rw[e1]at e3;injection e3 with e3;injection e3 with e3 _;subst e3;exact hI.inj k k' _ _ e2 e4
      ·obtain⟨r1,e1,e2⟩:=lq h;injection e1 with e1;injection e1 with e1 e3;subst e1 e3;exact⟨t,.ptr n,h2,rfl⟩
      ·rw[(hI.fr.aV k hk h0).1];rcases h0 with h0|h0<;>rw[h0]<;>simp[cN]
     have dK:=gQ (λk=>cN (some (r0,i)) A.ls (L k)) (λk hk=>by rw[hk];rfl) (λk r q hr hk=>by
      rw[hk];unfold cN;dsimp only;rw[if_neg (λe:r=r0=>jd (by rw[<-e];exact hr)),if_pos (by simpa using hr)]) (λk r j q hm hk=>by
      rw[hk];rw[eZ]at hm;simp only[List.mem_singleton,Prod.mk.injEq]at hm;obtain⟨rfl,rfl⟩:=hm;simp[cN])
     intro K Q hK;unfold Oper.wp;rw[aT,Oper.upon_enter];refine Calls.mono (aH A.x r fa w _ (args.map a.eval) ni (by simpa using dK)) ?_
     rintro e w' ⟨cs,L',rfl,bd,cc,jR⟩
     dsimp only;rw[aA];have jR:fP w' L' 0 F.ps r.2 (args.toList.map a.eval):=by simpa using jR
     refine hK _ _ (dJ (some (r0,i)) F.ps.length d L L') ?_;have iU:ai Ts (((r0,u')::cb (ct r0 d) 0 Ts)++[(d,v)])=(ai Ts ((r0,u')::cb (ct r0 d) 0 Ts)).set d v:=by
      rw[lg];rfl
     have nj:(ai Ts ((r0,u')::cb (ct r0 d) 0 Ts)).length=N:=by rw[cC,hI.len]
     have bW:(ai Ts (((r0,u')::cb (ct r0 d) 0 Ts)++[(d,v)])).getD d .dead=v:=by
      rw[iU,aJ,if_pos ⟨rfl,by rw[nj];exact hd⟩]
     have bt:∀s,s≠d->(ai Ts (((r0,u')::cb (ct r0 d) 0 Ts)++[(d,v)])).getD s .dead=(ai Ts ((r0,u')::cb (ct r0 d) 0 Ts)).getD s .dead:=by
      intro s hs;rw[iU,aJ,if_neg (λe=>hs e.1)]
     have eB:∀s v,(s,v)∈((r0,u')::cb (ct r0 d) 0 Ts)->(s=r0/\v=u')\/(v = .dead/\s≠r0/\(Ts.getD s .dead).on r0=true):=by
      intro s v hm;rcases List.mem_cons.1 hm with hm|hm
      ·injection hm with h1 h2;exact .inl ⟨h1,h2⟩
      ·obtain⟨h1,_,_,h2⟩:=(pH s v).1 hm;simp only[Nat.sub_zero,ct,Bool.and_eq_true,bne_iff_ne]at h2;exact .inr ⟨h1,h2.1.2,h2.1.1⟩
     have bG:(ai Ts ((r0,u')::cb (ct r0 d) 0 Ts)).getD r0 .dead=u':=by
      refine ij (by rw[hI.len];exact dw) (by simp) (λv hm=>?_);rcases eB r0 v hm with⟨_,h⟩|⟨_,h,_⟩
      ·exact h
      ·exact absurd rfl h
     have oy:∀s,s≠d->s≠r0->(Ts.getD s .dead).on r0=true->(ai Ts ((r0,u')::cb (ct r0 d) 0 Ts)).getD s .dead = .dead/\(Ts.getD s .dead).aO=false:=by
      intro s bO hs ag;have gX:s<N:=by
       rcases Nat.lt_or_ge s N with h|h
       ·exact h
       ·rw[ez (by rw[hI.len];exact h)]at ag;simp[V.on,V.root]at ag
      have hg:ct r0 d s (Ts.getD s .dead)=true:=by
       unfold ct;rw[ag];simp[hs,bO]
      refine⟨ij (by rw[hI.len];exact gX) ?_ (λv hm=>?_),?_⟩
      ·rw[List.mem_map];exact⟨(s,.dead),List.mem_cons_of_mem _ ((pH s .dead).2 ⟨rfl,Nat.zero_le _,by rw[Nat.zero_add,hI.len];exact gX,by rw[Nat.sub_zero];exact hg⟩),rfl⟩
      ·rcases eB s v hm with⟨h,_⟩|⟨h,_⟩
       ·exact absurd h hs
       ·exact h
      ·exact Dg iZ s (by rw[hI.len];exact gX) (by rw[Nat.zero_add];exact hg)
     have ox:∀s,s≠r0->(Ts.getD s .dead).on r0=false->(ai Ts ((r0,u')::cb (ct r0 d) 0 Ts)).getD s .dead=Ts.getD s .dead:=by
      intro s hs ag;refine eX _ _ _ (λhm=>?_);obtain⟨u,hu,he⟩:=List.mem_map.1 hm;rcases eB s u.2 (by rw[<-he];exact hu)with⟨h,_⟩|⟨_,_,h⟩
      ·exact hs h
      ·rw[ag]at h;cases h
     have wq:∀r∈A.ls,((ai Ts (((r0,u')::cb (ct r0 d) 0 Ts)++[(d,v)])).getD r .dead).deep=true:=by
      intro r hr;have gi:r≠r0:=λe=>jd (e▸hr);have ho:=V.fg (er r hr);rw[bt r (lL r hr)];cases ag:(Ts.getD r .dead).on r0 with
      | false=>rw[ox r gi ag];exact er r hr
      | true =>
       have h:=(oy r (lL r hr) gi ag).2;rw[h]at ho;cases ho
     obtain⟨j,t',n',y',c',m1,m2,m3,g,cur,e,m4,m5,m6,m7,m8⟩:=abm jR gY;have cR:=jc j t' _ m1 (by simp);subst cR;rw[h2]at m1;injection m1 with m1;injection m1 with m1 kS;injection kS with kS;subst m1 kS;rw[h6]at m3;injection m3 with m3;subst m3;rw[Nat.zero_add]at m5 m8;have DQ:j≠F.ps.length:=by omega
     obtain⟨b1,b2⟩:=ale (d:=d) hI DQ bd;obtain⟨k1,k2,k3⟩:=xy (T':=ai Ts (((r0,u')::cb (ct r0 d) 0 Ts)++[(d,v)])) (d:=d) hI bd rfl wq cc hv;have amw:t.depth<=n\/A.ls=[]:=by
      simp only[Bool.or_eq_true,List.isEmpty_iff]at ft;rcases ft with h|h
      ·exact .inr h
      ·exact .inl (vF h j t n h2)
     refine Inv.JU hI hd hid rfl (λr i h=>by injection h with h;injection h with _ h;subst h;exact sK) bd (by rw[cC,hI.len]) (λj' t n hj hm=>by rw[jc j' t n hj hm];rfl) ?_ ?_ ?_ bW k1 k2 (λr i h=>by injection h with h;injection h with h _;subst h;exact jd) k3
     ·intro r i h;injection h with h;injection h with h h';subst h h';rw[bt r0 wH,bG,m2];exact⟨by rw[h5];rfl,.inr rfl,rfl,by simp,g,cur,e,m4,b1 _ _ m5,m6,m7,b2 amw m8⟩
     ·intro s r i h bO bu ag;injection h with h;injection h with h h';subst h h';rw[bt s bO];exact .inl (oy s bO bu ag)
     ·intro s bO hs;obtain⟨e1,e2⟩:=hs r0 j rfl;rw[bt s bO];exact ox s e1 e2
    ·exact h.elim
  ·rw[eZ]at h;exact h.elim
theorem arC[ae](hI:Inv w0 L0 N vs T a w L)(ed:fY P bj)       
  (ho:o.op = .call { callee:=.value (.func f),args,argTypes:=cG }) (aA:o.dst=some d) (hd:d<N) (hid:(T.getD d .dead).idle=true)
  (h:(JS C bj vs N d f args.toList).aj T ups log):Step P o w0 L0 N vs (ai T ups) a w:=by
 unfold JS at h;split at h
 ·exact h.elim
 ·generalize Jw _=b at h;cases b with
  | true=>exact arA hI ed ho aA hd hid h
  | false=>exact arB hI ed ho aA hd hid h
end
def Kd(t:Ty)(n:Nat)(x:Operand):M (t.den×Nat):=
 match x with
 | .tmp s=>.get s λv=>match v with
  | .view r [] _=>.get r λu=>match u with
   | .d none k t' y=>if h:t'=t then (if (t.depth<=k/\t.depth<=n\/k=n/\n≠0)/\t.depth≠0 then .ret (h▸y,r)else .fail)else .fail
   | _=>.fail
  | .d none k t' y=>if h:t'=t then (if (t.depth<=k/\t.depth<=n\/k=n/\n≠0)/\t.depth≠0 then .ret (h▸y,s)else .fail)else .fail
  | _=>.fail
 | _=>.fail
def r8(C:Ctx):Nat->(ps:List (Ty×Mode))->List Operand->M (lv ps)
 | _,[],[]=>.ret ⟨(),[],[]⟩
 | i,(t,.ro)::ps,x::xs=>(py C t x).bind λy=>(r8 C (i+1) ps xs).bind λr=>.ret ⟨(y.1,r.x),y.2++r.ls,r.mu⟩
 | i,(t,.bU n)::ps,x::xs=>(Kd t n x).bind λy=>(r8 C (i+1) ps xs).bind λr=>.ret ⟨(y.1,r.x),r.ls,(y.2,i)::r.mu⟩
 | _,_,_=>.fail
def JP(C:Ctx)(bj:dI)(vs:List Nat)(N d:Nat)(f:FuncId)(args:List Operand):M (List (Nat×V)):=
 match bj f with
 | none=>.fail
 | some F=>(r8 C 0 F.ps args).bind λA=>match A.mu with
  | [(r0,_)]=>cond (A.ls.contains r0 || !decide (r0<N)) .fail (.cL (.pair (cX F.rs) (cD F.ps)) (F.al A.x) λr=>match mg vs A.ls F.rs r.1 with
   | some v=>cond (vs.contains r0) ((allM 0 N).bind λTs=>.bn (mO (ct r0 d) 0 Ts) (.ret (((r0,.dead)::cb (ct r0 d) 0 Ts)++[(d,v)]))) (.ret [(r0,.dead),(d,v)])
   | none=>.fail)
  | _=>.fail
def Jv:List (Ty×Mode)->Bool
 | []=>false
 | (_,.bU _)::_=>true
 | _::ps=>Jv ps
def JT(C:Ctx)(bj:dI)(vs:List Nat)(N d:Nat)(f:FuncId)(args:List Operand):M (List (Nat×V)):=
 match bj f with
 | none=>.fail
 | some F=>cond (Jv F.ps) (JP C bj vs N d f args) (JS C bj vs N d f args)
section
variable{P:Program}{C:Ctx}{w w' w0:World}{S S':Nat->Prop}{L L' L0:Nat->ak}{s N:Nat}{vs:List Nat}{T T':List V}{tm tm':Array Value}{a:Act}
theorem alv[ae](hI:Inv w0 L0 N vs T a w L){t:Ty}{y:t.den}(h:(Kd t n x).aj T (y,r) log):
  ∃k,T.getD r .dead = .d none k t y/\(t.depth<=k/\t.depth<=n\/k=n/\n≠0)/\t.depth≠0/\a.eval x=a.tmps.getD r undef:=by
 unfold Kd at h;split at h
 ·rename_i s;obtain⟨aD,rfl,h⟩:=h;have hs:=hI.aX s;generalize hv:T.getD s .dead=v at h hs;dsimp only at h;split at h
  ·rename_i r' t2;obtain⟨log2,rfl,h⟩:=h;dsimp only at h;split at h
   ·rename_i n' t' y' hu;split at h
    ·rename_i ht;subst ht;split at h
     ·rename_i hc;obtain⟨hk,hd⟩:=hc;obtain⟨h,_⟩:=h;injection h with h1 h2;subst h1 h2;refine⟨n',hu,hk,hd,?_⟩;obtain⟨_,h1⟩:=hs;rcases h1 with⟨_,h2,_⟩|⟨_,_,_,h2,_⟩
      ·exact h2
      ·rw[hu]at h2;simp[V.dE]at h2
     ·exact h.elim
    ·exact h.elim
   ·exact h.elim
  ·rename_i n' t' y';split at h
   ·rename_i ht;subst ht;split at h
    ·rename_i hc;obtain⟨hk,hd⟩:=hc;obtain⟨h,_⟩:=h;injection h with h1 h2;subst h1 h2;exact⟨n',hv,hk,hd,rfl⟩
    ·exact h.elim
   ·exact h.elim
  ·exact h.elim
 ·exact h.elim
theorem JB[ae](hI:Inv w0 L0 N vs T a w L):{ps:List (Ty×Mode)}->{i:Nat}->{xs:List Operand}->{A:lv ps}->{log:List Nat}->(r8 C i ps xs).aj T A log ->
  (∀r∈A.ls,(T.getD r .dead).deep=true)/\(∀r j,(r,j)∈A.mu->i<=j/\∃t n k y,ps[j - i]?=some (t,.bU n)/\T.getD r .dead = .d none k t y/\(t.depth<=k/\t.depth<=n\/k=n/\n≠0)/\t.depth≠0/\(xs.map a.eval)[j - i]?=some (a.tmps.getD r undef)) /\
  (∀(j:Nat) (t:Ty) (m:Mode),ps[j]?=some (t,m)->m.back=false) /\
  ∀L1:Nat->ak,(∀k,L k = .au->L1 k = .au)->(∀k r q,r∈A.ls->L k = .own r q->L1 k = .au)->(∀k r j q,(r,j)∈A.mu->L k = .own r q->L1 k = .own j q)->dT w L1 i ps A.x (xs.map a.eval)
 | [],i,[],A,log,h=>by
  obtain⟨rfl,_⟩:=h;exact⟨by simp,by simp,by simp,λ_ _ _ _=>rfl⟩
 | (t,.ro)::ps,i,x::xs,A,log,h=>by
  simp only[r8]at h;obtain⟨⟨y,ls⟩,l1,l2,rfl,h1,h⟩:=M.aq h;obtain⟨A',l3,l4,rfl,h2,h⟩:=M.aq h;obtain⟨rfl,_⟩:=h;obtain⟨cells,k1,k2,k3⟩:=vk hI h1;obtain⟨j1,j2,j4,j3⟩:=JB hI h2;refine⟨λr hr=>?_,λr j hm=>?_,λj t' m hj=>?_,λL1 H1 H2 H3=>?_⟩
  ·rcases List.mem_append.1 hr with hr|hr
   ·exact k2 r hr
   ·exact j1 r hr
  ·obtain⟨hi,t',n',k',y',e1,e2,e3,e5,e6⟩:=j2 r j hm;have:j - i=(j - (i+1))+1:=by omega
   exact⟨by omega,t',n',k',y',by rw[this];simpa using e1,e2,e3,e5,by rw[this];simpa using e6⟩
  ·cases j with
   | zero =>
    simp only[List.getElem?_cons_zero,Option.some.injEq,Prod.mk.injEq]at hj;rw[<-hj.2];rfl
   | succ j=>exact j4 j t' m (by simpa using hj)
  ·exact⟨a.eval x,_,cells,rfl,k1,Own.dM (k3 _ H1 (λk r q hr hk=>H2 k r q (List.mem_append_left _ hr) hk)),j3 L1 H1 (λk r q hr hk=>H2 k r q (List.mem_append_right _ hr) hk) H3⟩
 | (t,.bU n)::ps,i,x::xs,A,log,h=>by
  simp only[r8]at h;obtain⟨⟨y,r0⟩,l1,l2,rfl,h1,h⟩:=M.aq h;obtain⟨A',l3,l4,rfl,h2,h⟩:=M.aq h;obtain⟨rfl,_⟩:=h;obtain⟨k0,k1,k2,k4,k5⟩:=alv hI h1;obtain⟨j1,j2,j4,j3⟩:=JB hI h2;refine⟨j1,λr j hm=>?_,λj t' m hj=>?_,λL1 H1 H2 H3=>?_⟩
  ·rcases List.mem_cons.1 hm with hm|hm
   ·injection hm with e1 e2;subst e1 e2;exact⟨Nat.le_refl _,t,n,k0,y,by simp,k1,k2,k4,by simp[k5]⟩
   ·obtain⟨hi,t',n',k',y',e1,e2,e3,e5,e6⟩:=j2 r j hm;have:j - i=(j - (i+1))+1:=by omega
    exact⟨by omega,t',n',k',y',by rw[this];simpa using e1,e2,e3,e5,by rw[this];simpa using e6⟩
  ·cases j with
   | zero =>
    simp only[List.getElem?_cons_zero,Option.some.injEq,Prod.mk.injEq]at hj;rw[<-hj.2];rfl
   | succ j=>exact j4 j t' m (by simpa using hj)
  ·have hs:=hI.aX r0;rw[k1]at hs;obtain⟨_,cells,hf,ho⟩:=hs;refine⟨a.eval x,_,cells,rfl,by rw[k5];exact hf,?_,j3 L1 H1 H2 (λk r j q hm hk=>H3 k r j q (List.mem_cons_of_mem _ hm) hk)⟩;refine Own.move (λk hk=>⟨?_,rfl⟩) (λk d rest _ hk=>⟨H3 k r0 i _ (by simp) hk,rfl⟩) (k2.elim (λk2=>Own.cap k2.1 k2.2 ho) (λk2=>k2.1▸ho));rcases hk with hk|⟨_,_,hk,_⟩
   ·exact H1 k hk
   ·cases hk
 | [],_,_::_,_,_,h=>h.elim
 | (_,.ro)::_,_,[],_,_,h=>h.elim
 | (_,.mut _)::_,_,[],_,_,h=>h.elim
 | (_,.mut _)::_,_,_::_,_,_,h=>h.elim
 | (_,.ptr _)::_,_,[],_,_,h=>h.elim
 | (_,.ptr _)::_,_,_::_,_,_,h=>h.elim
 | (_,.bU _)::_,_,[],_,_,h=>h.elim
theorem W4{g:Nat->V->Bool}:{i:Nat}->{l:List V}->(∀z,∀u∈l,g z u=false)->cb g i l=[]
 | _,[],_=>rfl
 | i,v::l,h=>by
  unfold cb;rw[h i v (List.mem_cons_self ..),cond_false];exact W4 λz u hu=>h z u (List.mem_cons_of_mem _ hu)
theorem W3{g:Nat->V->Bool}:{i:Nat}->{l:List V}->(∀z,∀u∈l,g z u=false)->mO g i l=true
 | _,[],_=>rfl
 | i,v::l,h=>by
  unfold mO;rw[h i v (List.mem_cons_self ..)];exact W3 λz u hu=>h z u (List.mem_cons_of_mem _ hu)
theorem arz[ae](hI:Inv w0 L0 N vs T a w L)(ed:fY P bj){d:Nat}  
  (ho:o.op = .call { callee:=.value (.func f),args,argTypes:=cG }) (aA:o.dst=some d) (hd:d<N) (hid:(T.getD d .dead).idle=true)
  (h:(JP C bj vs N d f args.toList).aj T ups log):Step P o w0 L0 N vs (ai T ups) a w:=by
 unfold JP at h;split at h
 ·exact h.elim
 ·rename_i F hF;obtain⟨⟨fn,iw,gf,mX⟩,aH⟩:=ed f F hF;have hb:=M.aq h;clear h;obtain⟨A,l1,l2,rfl,h1,h⟩:=hb;obtain⟨er,gd,sC,gQ⟩:=JB hI h1;have aT:=Go.Conc.run_call_body (P:=P) (a:=a) (w:=w) ho iw gf mX;have lL:∀r∈A.ls,r≠d:=λr hr=>dm hid (V.fg (er r hr));rcases eZ:A.mu with _|⟨⟨r0,i⟩,_|⟨p2,rest⟩⟩
  ·rw[eZ]at h;exact h.elim
  ·rw[eZ]at h;dsimp only at h;cases hc:(A.ls.contains r0 || !decide (r0<N))with
   | true=>rw[hc]at h;exact h.elim
   | false =>
    rw[hc]at h;obtain⟨r,fa,h⟩:=h;dsimp only at h;simp only[Bool.or_eq_false_iff,Bool.not_eq_false',decide_eq_true_eq]at hc;obtain⟨eo,dw⟩:=hc;have jd:r0∉A.ls:=λhm=>by rw[List.contains_iff_mem.2 hm]at eo;cases eo
    split at h
    ·rename_i v hv;have main:∀Ts,Ts=T->mO (ct r0 d) 0 Ts=true->Step P o w0 L0 N vs (ai Ts (((r0,V.dead)::cb (ct r0 d) 0 Ts)++[(d,v)])) a w:=by
      intro Ts bL iZ;subst bL;obtain⟨_,t,n,k0,y,h2,h5,avo,hk3,h6⟩:=gd r0 i (by rw[eZ];simp);simp only[Nat.sub_zero]at h2 h6;have sK:i<F.ps.length:=(List.getElem?_eq_some_iff.1 h2).1;have YY:(Ts.getD r0 .dead).aO=true:=by
       rw[h5];simp only[V.aO,Bool.and_eq_true,bne_iff_ne];omega
      have wH:r0≠d:=dm hid YY;have ni:jB w (λk=>cN (some (r0,i)) A.ls (L k)) F.ps:=by
       refine⟨λk hk=>by rw[hI.free k hk];rfl,λk k' s q h h'=>?_,λk s q h=>?_,ae.aV hI.fr.gP λk hk h0=>⟨?_,(hI.fr.aV k hk h0).2⟩⟩
       ·obtain⟨r1,e1,e2⟩:=lq h;obtain⟨r2,e3,e4⟩:=lq h';rw[e1]at e3;injection e3 with e3;injection e3 with e3 _;subst e3;exact hI.inj k k' _ _ e2 e4
       ·obtain⟨r1,e1,e2⟩:=lq h;injection e1 with e1;injection e1 with e1 e3;subst e1 e3;exact⟨t,.bU n,h2,by simp only[Mode.owned,Bool.and_eq_true,bne_iff_ne];omega⟩
       ·rw[(hI.fr.aV k hk h0).1];rcases h0 with h0|h0<;>rw[h0]<;>simp[cN]
      have dK:=gQ (λk=>cN (some (r0,i)) A.ls (L k)) (λk hk=>by rw[hk];rfl) (λk r q hr hk=>by
       rw[hk];unfold cN;dsimp only;rw[if_neg (λe:r=r0=>jd (by rw[<-e];exact hr)),if_pos (by simpa using hr)]) (λk r j q hm hk=>by
       rw[hk];rw[eZ]at hm;simp only[List.mem_singleton,Prod.mk.injEq]at hm;obtain⟨rfl,rfl⟩:=hm;simp[cN])
      intro K Q hK;unfold Oper.wp;rw[aT,Oper.upon_enter];refine Calls.mono (aH A.x r fa w _ (args.map a.eval) ni (by simpa using dK)) ?_
      rintro e w' ⟨cs,L',rfl,bd,cc,jR⟩
      dsimp only;rw[aA];refine hK _ _ (dJ (some (r0,i)) F.ps.length d L L') ?_;have iU:ai Ts (((r0,V.dead)::cb (ct r0 d) 0 Ts)++[(d,v)])=(ai Ts ((r0,V.dead)::cb (ct r0 d) 0 Ts)).set d v:=by
       rw[lg];rfl
      have nj:(ai Ts ((r0,V.dead)::cb (ct r0 d) 0 Ts)).length=N:=by rw[cC,hI.len]
      have bW:(ai Ts (((r0,V.dead)::cb (ct r0 d) 0 Ts)++[(d,v)])).getD d .dead=v:=by
       rw[iU,aJ,if_pos ⟨rfl,by rw[nj];exact hd⟩]
      have bt:∀s,s≠d->(ai Ts (((r0,V.dead)::cb (ct r0 d) 0 Ts)++[(d,v)])).getD s .dead=(ai Ts ((r0,V.dead)::cb (ct r0 d) 0 Ts)).getD s .dead:=by
       intro s hs;rw[iU,aJ,if_neg (λe=>hs e.1)]
      have eB:∀s v,(s,v)∈((r0,V.dead)::cb (ct r0 d) 0 Ts)->(s=r0/\v = .dead)\/(v = .dead/\s≠r0/\(Ts.getD s .dead).on r0=true):=by
       intro s v hm;rcases List.mem_cons.1 hm with hm|hm
       ·injection hm with h1 h2;exact .inl ⟨h1,h2⟩
       ·obtain⟨h1,_,_,h2⟩:=(pH s v).1 hm;simp only[Nat.sub_zero,ct,Bool.and_eq_true,bne_iff_ne]at h2;exact .inr ⟨h1,h2.1.2,h2.1.1⟩
      have bG:(ai Ts ((r0,V.dead)::cb (ct r0 d) 0 Ts)).getD r0 .dead = .dead:=by
       refine ij (by rw[hI.len];exact dw) (by simp) (λv hm=>?_);rcases eB r0 v hm with⟨_,h⟩|⟨_,h,_⟩
       ·exact h
       ·exact absurd rfl h
      have oy:∀s,s≠d->s≠r0->(Ts.getD s .dead).on r0=true->(ai Ts ((r0,V.dead)::cb (ct r0 d) 0 Ts)).getD s .dead = .dead/\(Ts.getD s .dead).aO=false:=by
       intro s bO hs ag;have gX:s<N:=by
        rcases Nat.lt_or_ge s N with h|h
        ·exact h
        ·rw[ez (by rw[hI.len];exact h)]at ag;simp[V.on,V.root]at ag
       have hg:ct r0 d s (Ts.getD s .dead)=true:=by
        unfold ct;rw[ag];simp[hs,bO]
       refine⟨ij (by rw[hI.len];exact gX) ?_ (λv hm=>?_),?_⟩
       ·rw[List.mem_map];exact⟨(s,.dead),List.mem_cons_of_mem _ ((pH s .dead).2 ⟨rfl,Nat.zero_le _,by rw[Nat.zero_add,hI.len];exact gX,by rw[Nat.sub_zero];exact hg⟩),rfl⟩
       ·rcases eB s v hm with⟨h,_⟩|⟨h,_⟩
        ·exact absurd h hs
        ·exact h
       ·exact Dg iZ s (by rw[hI.len];exact gX) (by rw[Nat.zero_add];exact hg)
      have ox:∀s,s≠r0->(Ts.getD s .dead).on r0=false->(ai Ts ((r0,V.dead)::cb (ct r0 d) 0 Ts)).getD s .dead=Ts.getD s .dead:=by
       intro s hs ag;refine eX _ _ _ (λhm=>?_);obtain⟨u,hu,he⟩:=List.mem_map.1 hm;rcases eB s u.2 (by rw[<-he];exact hu)with⟨h,_⟩|⟨_,_,h⟩
       ·exact hs h
       ·rw[ag]at h;cases h
      have wq:∀r∈A.ls,((ai Ts (((r0,V.dead)::cb (ct r0 d) 0 Ts)++[(d,v)])).getD r .dead).deep=true:=by
       intro r hr;have gi:r≠r0:=λe=>jd (e▸hr);have ho:=V.fg (er r hr);rw[bt r (lL r hr)];cases ag:(Ts.getD r .dead).on r0 with
       | false=>rw[ox r gi ag];exact er r hr
       | true =>
        have h:=(oy r (lL r hr) gi ag).2;rw[h]at ho;cases ho
      obtain⟨k1,k2,k3⟩:=xy (T':=ai Ts (((r0,V.dead)::cb (ct r0 d) 0 Ts)++[(d,v)])) (d:=d) hI bd rfl wq cc hv;refine Inv.JU hI hd hid rfl (λr i h=>by injection h with h;injection h with _ h;subst h;exact sK) bd (by rw[cC,hI.len]) (λj' t n hj hm=>by rw[sC j' t n hj]at hm;cases hm) ?_ ?_ ?_ bW k1 k2 (λr i h=>by injection h with h;injection h with h _;subst h;exact jd) k3
      ·intro r i h;injection h with h;injection h with h h';subst h h';rw[bt r0 wH,bG];exact⟨YY,.inl sC,rfl,trivial⟩
      ·intro s r i h bO bu ag;injection h with h;injection h with h h';subst h h';rw[bt s bO];exact .inl (oy s bO bu ag)
      ·intro s bO hs;obtain⟨e1,e2⟩:=hs r0 i rfl;rw[bt s bO];exact ox s e1 e2
     cases bf:vs.contains r0 with
     | true =>
      rw[bf,cond_true]at h;obtain⟨Ts,l3,l4,rfl,dP,iZ,nA⟩:=M.aq h;obtain⟨rfl,_⟩:=nA;have bL:Ts=T:=by rw[ly dP (by rw[Nat.zero_add,hI.len])];rfl
      have:=main Ts bL iZ
      rwa [bL]at this ⊢
     | false =>
      rw[bf,cond_false]at h;obtain⟨rfl,_⟩:=h;have cu:∀z,∀u∈T,ct r0 d z u=false:=by
       intro z u hu;obtain⟨s,hs,rfl⟩:=List.getElem_of_mem hu;cases ag:(T[s]).on r0 with
       | false=>unfold ct;rw[ag];rfl
       | true =>
        have:=hI.roots s r0 (by rw[List.getD_eq_getElem?_getD,List.getElem?_eq_getElem hs];exact ag);rw[List.contains_iff_mem.2 this]at bf;cases bf
      have h1:=main T rfl (W3 cu)
      rwa [W4 cu]at h1
    ·exact h.elim
  ·rw[eZ]at h;exact h.elim
theorem arD[ae](hI:Inv w0 L0 N vs T a w L)(ed:fY P bj)       
  (ho:o.op = .call { callee:=.value (.func f),args,argTypes:=cG }) (aA:o.dst=some d) (hd:d<N) (hid:(T.getD d .dead).idle=true)
  (h:(JT C bj vs N d f args.toList).aj T ups log):Step P o w0 L0 N vs (ai T ups) a w:=by
 unfold JT at h;split at h
 ·exact h.elim
 ·generalize Jv _=b at h;cases b with
  | true=>exact arz hI ed ho aA hd hid h
  | false=>exact arC hI ed ho aA hd hid h
end
end Go.Proofs.YthfgcmoipebheaaGreat.P.Am
