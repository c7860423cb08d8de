/- A part of the proof: Am48,Am49,Am57,Am58,Am60,Am54,Am55,Am59. No conditions. -/
import Derived.Test.YtbhogmdpmkpinaaGreatPG5
set_option linter.unusedVariables false
set_option linter.unusedSimpArgs false
namespace Go.Proofs.YtbhogmdpmkpinaaGreat.P.Am
variable{d i n r sz t:Nat}{kids log q:List Nat}{o:Oper}{ups:List (Nat×V)}{x:Operand}{m:M (List (Nat×V))}{args:Array Operand}{cH:Array TypeId}{bh:cU}{f:FuncId}{X:TypeId}{p:List St}{u:V}
structure aec where
 i:Nat
 r:Nat
 p:List St
 u:V
 n':Nat
 t:Ty
def HC(t:Ty)(n:Nat)(x:Operand):M (t.den×Nat×List St×V×Nat):=
 match x with
 | .tmp s=>.get s λv=>match v with
  | .view r p tv=>.get r λu=>(dG p u).bind λz =>
   if h:z.2.t=t then (if tv=t/\t.depth<=z.2.n/\t.depth<=n/\t.depth≠0/\z.1=none then .ret (h▸z.2.x,r,p,u,z.2.n)else .fail)else .fail
  | _=>.fail
 | _=>.fail
structure xL (ps:List (Ty×Mode)) where
 x:(dh ps).den
 ls:List Nat
 mu:List aec
def lN(C:Ctx):Nat->(ps:List (Ty×Mode))->List Operand->M (xL ps)
 | _,[],[]=>.ret ⟨(),[],[]⟩
 | i,(t,.ro)::ps,x::xs=>(pB C t x).bind λy=>(lN C (i+1) ps xs).bind λr=>.ret ⟨(y.1,r.x),y.2++r.ls,r.mu⟩
 | i,(t,.mut n)::ps,x::xs=>(HC t n x).bind λy=>(lN C (i+1) ps xs).bind λr=>.ret ⟨(y.1,r.x),r.ls,⟨i,y.2.1,y.2.2.1,y.2.2.2.1,y.2.2.2.2,t⟩::r.mu⟩
 | _,_,_=>.fail
def ch(g:Nat->V->Bool):Nat->List V->List (Nat×V)
 | _,[]=>[]
 | i,v::l=>cond (g i v) ((i,.dead)::ch g (i+1) l) (ch g (i+1) l)
def ni(g:Nat->V->Bool):Nat->List V->Bool
 | _,[]=>true
 | i,v::l=>(!(g i v) || !v.aL)&&ni g (i+1) l
def iF(r d:Nat)(u:V):Nat->V->Bool:=λz v=>v.on r&&z != r&&z != d && !qm u v
def HT(C:Ctx)(bh:cU)(vs:List Nat)(N d:Nat)(f:FuncId)(args:List Operand):M (List (Nat×V)):=
 match bh f with
 | none=>.fail
 | some F=>(lN C 0 F.ps args).bind λA=>match A.mu,F.rs with
  | [m],[(t0,n0)]=>cond (A.ls.contains m.r || !decide (m.r<N) || !decide (t0.depth=0) || !decide (n0<1000)) .fail (.cJ (.pair (cS F.rs) (cG F.ps)) (F.ao A.x) λres=>match mG vs [] F.rs res.1,tj F.ps res.2 with
   | some (.d none n1 t1 x1),some (.d none _ t' y')=>if h:t'=m.t then
     (if t1.depth=0 then (fY m.p m.u m.t (h▸y')).bind λu2=>(allM 0 N).bind λTs=>.bm (ni (iF m.r d m.u) 0 Ts) (.ret (((m.r,u2)::ch (iF m.r d m.u) 0 Ts)++[(d,.d none n1 t1 x1)]))else .fail)else .fail
   | _,_=>.fail)
  | _,_=>.fail
def Yq:List (Ty×Mode)->List Operand->Option Operand
 | (_,.ro)::ps,_::xs=>Yq ps xs
 | (_,.mut _)::_,x::_=>some x
 | _,_=>none
def HX(C:Ctx)(bh:cU)(vs:List Nat)(N d:Nat)(f:FuncId)(args:List Operand):M (List (Nat×V)):=
 match bh f with
 | none=>.fail
 | some F=>match Yq F.ps args with
  | some (.tmp s)=>.get s λv=>match v with
   | .view r p _=>.get r λu=>cond (u.dE&&p.isEmpty) (vo C bh vs N d f args) (HT C bh vs N d f args)
   | _=>vo C bh vs N d f args
  | _=>vo C bh vs N d f args
section
variable{P:Program}{C:Ctx}{w w' w0:World}{S S':Nat->Prop}{L L' L0:Nat->aj}{s N:Nat}{vs:List Nat}{T T':List V}{tm tm':Array Value}{a:Act}
theorem pJ{g:Nat->V->Bool}:{i:Nat}->{l:List V}->(s:Nat)->(v:V)->((s,v)∈ch g i l↔v = .dead/\i<=s/\s<i+l.length/\g s (l.getD (s - i) .dead)=true)
 | i,[],s,v=>by
  simp only[ch,List.not_mem_nil,false_iff]
  rintro⟨_,h1,h2,_⟩
  simp at h2;omega
 | i,x::l,s,v=>by
  have ih:=pJ (g:=g) (i:=i+1) (l:=l) s v;have e:∀h:i+1<=s,(x::l).getD (s - i) .dead=l.getD (s - (i+1)) .dead:=λh=>by
   rw[show s - i=(s - (i+1))+1 by omega];rfl
  unfold ch;cases hg:g i x with
  | true =>
   rw[cond_true,List.mem_cons,ih];constructor
   ·rintro (h|⟨h1,h2,h3,h4⟩)
    ·injection h with h1 h2;subst h1;refine⟨h2,Nat.le_refl _,by simp,by rw[Nat.sub_self];exact hg⟩
    ·exact⟨h1,by omega,by simp only[List.length_cons];omega,by rw[e h2];exact h4⟩
   ·rintro⟨h1,h2,h3,h4⟩
    by_cases hs:s=i
    ·left;rw[hs,h1]
    ·right;simp only[List.length_cons]at h3;refine⟨h1,by omega,by omega,by rw[<-e (by omega)];exact h4⟩
  | false =>
   rw[cond_false,ih];constructor
   ·rintro⟨h1,h2,h3,h4⟩
    exact⟨h1,by omega,by simp only[List.length_cons];omega,by rw[e h2];exact h4⟩
   ·rintro⟨h1,h2,h3,h4⟩
    by_cases hs:s=i
    ·subst hs;rw[Nat.sub_self]at h4;change g s x=true at h4;rw[hg]at h4;cases h4
    ·simp only[List.length_cons]at h3;refine⟨h1,by omega,by omega,by rw[<-e (by omega)];exact h4⟩
theorem BK{g:Nat->V->Bool}:{i:Nat}->{l:List V}->ni g i l=true->∀s,s<l.length->g (i+s) (l.getD s .dead)=true->(l.getD s .dead).aL=false
 | _,[],_,s,h,_=>by simp at h
 | i,x::l,hk,s,h,hg=>by
  simp only[ni,Bool.and_eq_true,Bool.or_eq_true,Bool.not_eq_true']at hk;cases s with
  | zero =>
   change g (i+0) x=true at hg;rw[Nat.add_zero]at hg;change x.aL=false;rcases hk.1 with h1|h1
   ·rw[hg]at h1;cases h1
   ·exact h1
  | succ s =>
   simp only[List.length_cons]at h;exact BK (g:=g) (i:=i+1) hk.2 s (by omega) (by rw[show i+1+s=i+(s+1)by omega];exact hg)
theorem Form.inj{t:Ty}{c1 c2:List Value}{c:Value}(h1:Form t c1 c)(h2:Form t c2 c):c1=c2:=by
 cases t with
 | agg t =>
  have h1:c = .agg c1.toArray:=h1;have h2:c = .agg c2.toArray:=h2;rw[h1]at h2;injection h2 with h2;simpa using congrArg Array.toList h2
 | _=>exact (show c1=[c]from h1).trans (show c2=[c]from h2).symm
theorem ahH[af](hI:Inv w0 L0 N vs T a w L){t:Ty}{y:t.den}{n':Nat}(h:(HC t n x).ai T (y,r,p,u,n') log):
  T.getD r .dead=u/\t.depth<=n'/\t.depth<=n/\t.depth≠0/\(∃log,(dG p u).ai T (none,⟨n',t,y⟩) log) /\
   ∃g cur e,L g = .own r (node [] 0 p).1/\w.heap[g]?=some (.cells cur e (0,0))/\Form t ((cur.toList.drop (node [] 0 p).2).take t.sz) (a.eval x)/\Own w L (SL L none) r n' t y (node [] 0 p).1 (node [] 0 p).2 ((cur.toList.drop (node [] 0 p).2).take t.sz):=by
 unfold HC at h;split at h
 ·rename_i s;obtain⟨aF,rfl,h⟩:=h;have hs:=hI.aV s;generalize hv:T.getD s .dead=v at h hs;dsimp only at h;split at h
  ·rename_i r' p' tv;obtain⟨log2,rfl,h⟩:=h;dsimp only at h;obtain⟨⟨l,k,t',x'⟩,l1,l2,rfl,h1,h⟩:=M.an h;dsimp only at h;split at h
   ·rename_i ht;subst ht;split at h
    ·rename_i hc;obtain⟨rfl,c1,c2,c3,rfl⟩:=hc;obtain⟨h,_⟩:=h;injection h with e1 e2;injection e2 with e2 e3;injection e3 with e3 e4;injection e4 with e4 e5;subst e1 e2 e3 e4 e5;have bb:=hI.aV r;obtain⟨⟨g,cur,e,k1,k2,k3,k4⟩,_,_,_,lZ⟩:=lq h1 bb;refine⟨rfl,c1,c2,c3,⟨_,h1⟩,g,cur,e,k1,k2,?_,k4⟩;obtain⟨_,h2⟩:=hs;rcases h2 with⟨h2,_,l0,n0,x0,h3,_⟩|⟨g',cur',e',_,j1,j2,j3,j4⟩
     ·rw[h3]at lZ;rcases lZ with h|h
      ·simp[V.dE]at h
      ·exact absurd h2 h
     ·obtain rfl:=hI.inj g g' r _ k1 j1;rw[k2]at j2;injection j2 with j2;injection j2 with j2 _ _;subst j2;exact j4
    ·exact h.elim
   ·exact h.elim
  ·exact h.elim
 ·exact h.elim
theorem HE[af](hI:Inv w0 L0 N vs T a w L):{ps:List (Ty×Mode)}->{i:Nat}->{xs:List Operand}->{A:xL ps}->{log:List Nat}->(lN C i ps xs).ai T A log ->
  (∀r∈A.ls,(T.getD r .dead).deep=true) /\
  (∀m∈A.mu,i<=m.i/\∃n y,ps[m.i - i]?=some (m.t,.mut n)/\m.t.depth<=n/\m.t.depth<=m.n'/\m.t.depth≠0/\T.getD m.r .dead=m.u/\(∃log,(dG m.p m.u).ai T (none,⟨m.n',m.t,y⟩) log) /\
   ∃g cur e c,L g = .own m.r (node [] 0 m.p).1/\w.heap[g]?=some (.cells cur e (0,0))/\(xs.map a.eval)[m.i - i]?=some c/\Form m.t ((cur.toList.drop (node [] 0 m.p).2).take m.t.sz) c) /\
  (∀j t n,ps[j]?=some (t,.mut n)->∃m∈A.mu,m.i=i+j) /\
  ∀L1:Nat->aj,(∀k,L k = .aq->L1 k = .aq)->(∀k r q,r∈A.ls->L k = .own r q->L1 k = .aq) ->
   (∀k m z rest,m∈A.mu->L k = .own m.r ((node [] 0 m.p).1++((node [] 0 m.p).2+z)::rest)->z<m.t.sz->L1 k = .own m.i (z::rest))->dV w L1 i ps A.x (xs.map a.eval)
 | [],i,[],A,log,h=>by
  obtain⟨rfl,_⟩:=h;exact⟨by simp,by simp,by simp,λ_ _ _ _=>rfl⟩
 | (t,.ro)::ps,i,x::xs,A,log,h=>by
  simp only[lN]at h;obtain⟨⟨y,ls⟩,l1,l2,rfl,h1,h⟩:=M.an h;obtain⟨A',l3,l4,rfl,h2,h⟩:=M.an h;obtain⟨rfl,_⟩:=h;obtain⟨cells,k1,k2,k3⟩:=vi hI h1;obtain⟨j1,j2,j4,j3⟩:=HE hI h2;refine⟨λr hr=>?_,λm hm=>?_,λj t' n hj=>?_,λL1 H1 H2 H3=>?_⟩
  ·rcases List.mem_append.1 hr with hr|hr
   ·exact k2 r hr
   ·exact j1 r hr
  ·obtain⟨hi,n',y',e1,e2,e3,e4,e5,e6,g,cur,e,c,f1,f2,f3,f4⟩:=j2 m hm;have:m.i - i=(m.i - (i+1))+1:=by omega
   exact⟨by omega,n',y',by rw[this];simpa using e1,e2,e3,e4,e5,e6,g,cur,e,c,f1,f2,by rw[this];simpa using f3,f4⟩
  ·cases j with
   | zero=>simp at hj
   | succ j =>
    obtain⟨m,hm,he⟩:=j4 j t' n (by simpa using hj);exact⟨m,hm,by omega⟩
  ·exact⟨a.eval x,_,cells,rfl,k1,Own.dN (k3 _ H1 (λk r q hr hk=>H2 k r q (List.mem_append_left _ hr) hk)),j3 L1 H1 (λk r q hr hk=>H2 k r q (List.mem_append_right _ hr) hk) H3⟩
 | (t,.mut n)::ps,i,x::xs,A,log,h=>by
  simp only[lN]at h;obtain⟨⟨y,r0,p0,u0,n0⟩,l1,l2,rfl,h1,h⟩:=M.an h;obtain⟨A',l3,l4,rfl,h2,h⟩:=M.an h;obtain⟨rfl,_⟩:=h;obtain⟨k1,k2,k3,k4,k5,g,cur,e,k6,k7,k8,k9⟩:=ahH hI h1;obtain⟨j1,j2,j4,j3⟩:=HE hI h2;refine⟨j1,λm hm=>?_,λj t' n' hj=>?_,λL1 H1 H2 H3=>?_⟩
  ·rcases List.mem_cons.1 hm with hm|hm
   ·subst hm;exact⟨Nat.le_refl _,n,y,by simp,k3,k2,k4,k1,k5,g,cur,e,a.eval x,k6,k7,by simp,k8⟩
   ·obtain⟨hi,n',y',e1,e2,e3,e4,e5,e6,g,cur,e,c,f1,f2,f3,f4⟩:=j2 m hm;have:m.i - i=(m.i - (i+1))+1:=by omega
    exact⟨by omega,n',y',by rw[this];simpa using e1,e2,e3,e4,e5,e6,g,cur,e,c,f1,f2,by rw[this];simpa using f3,f4⟩
  ·cases j with
   | zero=>exact⟨_,List.mem_cons_self ..,rfl⟩
   | succ j =>
    obtain⟨m,hm,he⟩:=j4 j t' n' (by simpa using hj);exact⟨m,List.mem_cons_of_mem _ hm,by omega⟩
  ·refine⟨a.eval x,_,_,rfl,k8,?_,j3 L1 H1 H2 (λk m z rest hm hk hz=>H3 k m z rest (List.mem_cons_of_mem _ hm) hk hz)⟩;refine Own.cap k2 k3 (Own.move (λk hk=>⟨?_,rfl⟩) (λk d rest hd hk=>⟨?_,rfl⟩) k9)
   ·rcases hk with hk|⟨_,_,hk,_⟩
    ·exact H1 k hk
    ·cases hk
   ·have:=H3 k ⟨i,r0,p0,u0,n0,t⟩ d rest (List.mem_cons_self ..) hk hd;simpa using this
 | [],_,_::_,_,_,h=>h.elim
 | (_,.ro)::_,_,[],_,_,h=>h.elim
 | (_,.mut _)::_,_,[],_,_,h=>h.elim
 | (_,.ptr _)::_,_,[],_,_,h=>h.elim
 | (_,.ptr _)::_,_,_::_,_,_,h=>h.elim
 | (_,.bV _)::_,_,[],_,_,h=>h.elim
 | (_,.bV _)::_,_,_::_,_,_,h=>h.elim
theorem HD{C:Ctx}:{ps:List (Ty×Mode)}->{i:Nat}->{xs:List Operand}->{A:xL ps}->{log:List Nat}->(lN C i ps xs).ai T A log->∀(j:Nat) (t:Ty) (n:Nat),ps[j]?≠some (t,.ptr n)
 | [],_,_,_,_,_,j,t,n=>by simp
 | (t0,.ro)::ps,i,x::xs,A,log,h,j,t,n=>by
  simp only[lN]at h;obtain⟨_,_,_,_,_,h⟩:=M.an h;obtain⟨_,_,_,_,h2,_⟩:=M.an h;cases j with
  | zero=>simp
  | succ j=>simpa using HD h2 j t n
 | (t0,.mut n0)::ps,i,x::xs,A,log,h,j,t,n=>by
  simp only[lN]at h;obtain⟨_,_,_,_,_,h⟩:=M.an h;obtain⟨_,_,_,_,h2,_⟩:=M.an h;cases j with
  | zero=>simp
  | succ j=>simpa using HD h2 j t n
 | (_,.ro)::_,_,[],_,_,h,_,_,_=>h.elim
 | (_,.mut _)::_,_,[],_,_,h,_,_,_=>h.elim
 | (_,.ptr _)::_,_,[],_,_,h,_,_,_=>h.elim
 | (_,.ptr _)::_,_,_::_,_,_,h,_,_,_=>h.elim
 | (_,.bV _)::_,_,[],_,_,h,_,_,_=>h.elim
 | (_,.bV _)::_,_,_::_,_,_,h,_,_,_=>h.elim
theorem ahI[af]{C:Ctx}{ps:List (Ty×Mode)}{xs:List Operand}{A:xL ps}(h:(lN C i ps xs).ai T A log){j:Nat}{t:Ty}{m:Mode}(hj:ps[j]?=some (t,m))(hm:m.back=true):∃n,m = .mut n:=by
 match m,hj,hm with
 | .ro,_,hm=>cases hm
 | .bV _,_,hm=>cases hm
 | .mut n,_,_=>exact⟨n,rfl⟩
 | .ptr n,hj,_=>exact absurd hj (HD h j t n)
theorem anQ[af](hI:Inv w0 L0 N vs T a w L)(ee:fw P bh){d:Nat}  
  (ho:o.op = .call { callee:=.value (.func f),args,argTypes:=cH }) (ay:o.dst=some d) (hd:d<N) (hid:(T.getD d .dead).idle=true)
  (h:(HT C bh vs N d f args.toList).ai T ups log):Step P o w0 L0 N vs (ah T ups) a w:=by
 unfold HT at h;split at h
 ·exact h.elim
 ·rename_i F hF;obtain⟨⟨fn,iL,gh,nt⟩,az⟩:=ee f F hF;have hb:=M.an h;clear h;obtain⟨A,l1,l2,rfl,h1,h⟩:=hb;obtain⟨ew,gg,pZ,hY⟩:=HE hI h1;have aN:=Go.Conc.run_call_body (P:=P) (a:=a) (w:=w) ho iL gh nt;obtain⟨xT,Frs,at9⟩:=F;dsimp only at h hY pZ gg az A;split at h
  ·rename_i m t0 n0 hA;cases hc:(A.ls.contains m.r || !decide (m.r<N) || !decide (t0.depth=0) || !decide (n0<1000))with
   | true=>rw[hc]at h;exact h.elim
   | false =>
    rw[hc]at h;simp only[Bool.or_eq_false_iff,Bool.not_eq_false',decide_eq_true_eq]at hc;obtain⟨⟨⟨eu,dr⟩,Jr⟩,iM⟩:=hc;have ju:m.r∉A.ls:=λhm=>by rw[List.contains_iff_mem.2 hm]at eu;cases eu
    obtain⟨res,fe,h⟩:=h;dsimp only at h;split at h
    ·rename_i n1 t1 x1 n2 t' y' hv qc;split at h
     ·rename_i Jt;subst Jt;split at h
      ·rename_i ht1;obtain⟨u2,l3,l4,rfl,ig,h⟩:=M.an h;obtain⟨Ts,l5,l6,rfl,dQ,jq,nM⟩:=M.an h;obtain⟨rfl,_⟩:=nM;have bI:Ts=T:=by rw[lL dQ (by rw[Nat.zero_add,hI.len])];rfl
       subst bI;obtain⟨_,n,y,h2,h3,h4,h5,h6,⟨auG,hz⟩,g0,cur,e,c,k1,k2,k3,k4⟩:=gg m (by rw[hA];simp);simp only[Nat.sub_zero]at h2 k3;have sK:m.i<xT.length:=(List.getElem?_eq_some_iff.1 h2).1;have jt:∀(j:Nat) (t:Ty) (n:Nat),xT[j]?=some (t,Mode.mut n)->j=m.i:=by
        intro j t n hj;obtain⟨m',bY,he⟩:=pZ j t n hj;rw[hA]at bY;rw[List.mem_singleton.1 bY]at he;omega
       have bb:=hI.aV m.r;rw[h6]at bb;obtain⟨_,_,_,ik,_⟩:=lq hz bb;have bC:m.r≠d:=df hid (by rw[h6];exact ik);have nC:jL w (λk=>kI m.r (node [] 0 m.p).1 (node [] 0 m.p).2 m.t.sz m.i A.ls (L k)) xT:=by
        refine⟨λk hk=>by rw[hI.free k hk];rfl,λk k' s q h h'=>?_,λk s q h=>?_,af.aR hI.fr.hG λk hk h0=>⟨?_,(hI.fr.aR k hk h0).2⟩⟩
        ·obtain⟨y1,r1,e1,e2,e3⟩:=Lc h;obtain⟨y2,r2,e4,e5,e6⟩:=Lc h';rw[e2]at e5;injection e5 with e5 e7;subst e5 e7;exact hI.inj k k' _ _ e3 e6
        ·obtain⟨y1,r1,rfl,e2,e3⟩:=Lc h;exact⟨m.t,.mut n,h2,by simp only[Mode.owned,Bool.and_eq_true,bne_iff_ne];omega⟩
        ·rw[(hI.fr.aR k hk h0).1];rcases h0 with h0|h0<;>rw[h0]<;>simp[kI]
       have dK:=hY (λk=>kI m.r (node [] 0 m.p).1 (node [] 0 m.p).2 m.t.sz m.i A.ls (L k)) (λk hk=>by rw[hk];rfl) (λk r q hr hk=>by
        rw[hk];unfold kI;dsimp only;rw[if_neg (λe0:r=m.r=>ju (by rw[<-e0];exact hr)),if_pos (by simpa using hr)]) (λk m' z rest bY hk bW=>by
        rw[hA]at bY;obtain rfl:=List.mem_singleton.1 bY;rw[hk];exact aov bW)
       intro K Q hK;unfold Oper.wp;rw[aN,Oper.upon_enter];refine Calls.mono (az A.x res fe w _ (args.map a.eval) nC (by simpa using dK)) ?_
       rintro e' w' ⟨cs,L',rfl,ba,cj,kf⟩
       dsimp only;rw[ay];have hM:ah Ts (((m.r,u2)::ch (iF m.r d m.u) 0 Ts)++[(d,V.d none n1 t1 x1)])=(ah Ts ((m.r,u2)::ch (iF m.r d m.u) 0 Ts)).set d (V.d none n1 t1 x1):=by
        rw[lx];rfl
       have nD:(ah Ts ((m.r,u2)::ch (iF m.r d m.u) 0 Ts)).length=N:=by rw[cF,hI.len]
       have bq:∀s,s≠d->(ah Ts (((m.r,u2)::ch (iF m.r d m.u) 0 Ts)++[(d,V.d none n1 t1 x1)])).getD s .dead=(ah Ts ((m.r,u2)::ch (iF m.r d m.u) 0 Ts)).getD s .dead:=by
        intro s hs;rw[hM,aH,if_neg (λe=>hs e.1)]
       have eH:∀s v,(s,v)∈((m.r,u2)::ch (iF m.r d m.u) 0 Ts)->(s=m.r/\v=u2)\/(v = .dead/\s≠m.r/\iF m.r d m.u s (Ts.getD s .dead)=true):=by
        intro s v bY;rcases List.mem_cons.1 bY with bY|bY
        ·injection bY with h1 h2;exact .inl ⟨h1,h2⟩
        ·obtain⟨h1,_,_,h2⟩:=(pJ s v).1 bY;simp only[Nat.sub_zero]at h2;refine .inr ⟨h1,?_,h2⟩
         rintro rfl
         simp[iF]at h2
       have bE:(ah Ts ((m.r,u2)::ch (iF m.r d m.u) 0 Ts)).getD m.r .dead=u2:=by
        refine iE (by rw[hI.len];exact dr) (by simp) (λv bY=>?_);rcases eH m.r v bY with⟨_,h⟩|⟨_,h,_⟩
        ·exact h
        ·exact absurd rfl h
       have pX:∀s,s≠d->s≠m.r->(Ts.getD s .dead).on m.r=true->iF m.r d m.u s (Ts.getD s .dead) = !qm m.u (Ts.getD s .dead):=by
        intro s h1 h2 h3;unfold iF;rw[h3];simp[h1,h2]
       refine hK _ _ _ (Inv.ahR (d:=d) (c:=oZ cs) (V0:=V.d none n1 t1 x1) hI hd hid h6 hz ig h3 h4 k1 k2 ba ?_ ?_ (by rw[cF,hI.len]) ?_ ?_ (λr=>rfl) ?_ ?_ ?_)
       ·intro k s q hk;rcases ba.owner k s q hk with⟨_,t,n,h,h9⟩|⟨t,md,h,hmd⟩
        ·simp only[List.mem_singleton,Prod.mk.injEq]at h;rcases h9 with h9|h9
         ·exact absurd (by rw[h.1];exact Jr) h9.2
         ·omega
        ·obtain⟨n,rfl⟩:=ahI h1 h hmd;exact jt s t n h
       ·have ajA:fQ w' L' 0 xT res.2 (args.toList.map a.eval):=by simpa using kf
        obtain⟨j,t',n',y9,c',cells,m1,m2,m3,m4,m5⟩:=Kh ajA qc;have cO:=jt j t' n' m1;subst cO;rw[h2]at m1;injection m1 with m1;injection m1 with m1 lj;injection lj with lj;subst lj;cases m2;rw[k3]at m3;injection m3 with m3;subst m3;rw[Nat.zero_add]at m5;have:cells=(cur.toList.drop (node [] 0 m.p).2).take m.t.sz:=Form.inj m4 k4;rw[<-this];exact m5
       ·rw[bq m.r bC,bE]
       ·rw[hM,aH,if_pos ⟨rfl,by rw[nD];exact hd⟩]
       ·intro L2 tm';have Co:=cj;have Co:=(jM.low (rs:=[(t0,n0)]) (decide_eq_true iM)).1 Co;simp only[je]at Co;obtain⟨c',bj,cells,rfl,r1,r2,rfl⟩:=Co;have cP:some (V.d none n0 t0 res.1.1)=some (V.d none n1 t1 x1):=by
         simp only[mG]at hv
         rwa [if_neg (by omega),if_pos (by rw[Jr];exact Nat.zero_le _)]at hv
        cases cP;exact⟨by simp,cells,r1,Own.flat Jr r2⟩
       ·intro z iP dL ag;rw[bq z iP];have oU:z<N:=by
         rcases Nat.lt_or_ge z N with h|h
         ·exact h
         ·rw[eF (by rw[hI.len];exact h)]at ag;simp[V.on,V.root]at ag
        have Cg:=pX z iP dL ag;cases hk:qm m.u (Ts.getD z .dead)with
        | true =>
         refine .inr ⟨fa _ _ _ (λbY=>?_),rfl⟩;obtain⟨uu,hu,he⟩:=List.mem_map.1 bY;rcases eH z uu.2 (by rw[<-he];exact hu)with⟨h,_⟩|⟨_,_,h⟩
         ·exact dL h
         ·rw[Cg,hk]at h;cases h
        | false =>
         rw[hk]at Cg;refine .inl ⟨iE (by rw[hI.len];exact oU) ?_ (λv bY=>?_),?_⟩
         ·rw[List.mem_map];exact⟨(z,.dead),List.mem_cons_of_mem _ ((pJ z .dead).2 ⟨rfl,Nat.zero_le _,by rw[Nat.zero_add,hI.len];exact oU,by rw[Nat.sub_zero];exact Cg⟩),rfl⟩
         ·rcases eH z v bY with⟨h,_⟩|⟨h,_⟩
          ·exact absurd h dL
          ·exact h
         ·exact BK jq z (by rw[hI.len];exact oU) (by rw[Nat.zero_add];exact Cg)
       ·intro z iP dL ag;rw[bq z iP];refine fa _ _ _ (λbY=>?_);obtain⟨uu,hu,he⟩:=List.mem_map.1 bY;rcases eH z uu.2 (by rw[<-he];exact hu)with⟨h,_⟩|⟨_,_,h⟩
        ·exact dL h
        ·unfold iF at h;rw[ag]at h;simp at h
      ·exact h.elim
     ·exact h.elim
    ·exact h.elim
  ·exact h.elim
theorem anU[af](hI:Inv w0 L0 N vs T a w L)(ee:fw P bh)       
  (ho:o.op = .call { callee:=.value (.func f),args,argTypes:=cH }) (ay:o.dst=some d) (hd:d<N) (hid:(T.getD d .dead).idle=true)
  (h:(HX C bh vs N d f args.toList).ai T ups log):Step P o w0 L0 N vs (ah T ups) a w:=by
 unfold HX at h;split at h
 ·exact h.elim
 ·split at h
  ·rename_i s _;obtain⟨eS,rfl,h⟩:=h;generalize T.getD s .dead=v at h;dsimp only at h;split at h
   ·obtain⟨log2,rfl,h⟩:=h;dsimp only at h;generalize (V.dE _&&List.isEmpty _)=b at h;cases b with
    | true=>exact K6 hI ee ho ay hd hid h
    | false=>exact anQ hI ee ho ay hd hid h
   ·exact K6 hI ee ho ay hd hid h
  ·exact K6 hI ee ho ay hd hid h
end
def nN:List St->Nat
 | []=>0
 | .a6 _ _::p=>nN p
 | .idx _ _::p=>nN p+1
theorem CT:{p:List St}->{q:List Nat}->{o:Nat}->(node q o p).1.length=q.length+nN p
 | [],_,_=>rfl
 | .a6 _ _::p,_,_=>CT (p:=p)
 | .idx sz i::p,q,o=>by
  have:=CT (p:=p) (q:=q++[o]) (o:=i.toNat*sz);simp only[node,nN];rw[this];simp only[List.length_append,List.length_singleton];omega
def xb(n r:Nat)(v:V):Bool := !v.eE r||(match v with
 | .ptr _ _ _=>true
 | .view _ p _=>decide (nN p<n)
 | _=>false)
def JU{α:Type}(n r:Nat):List Nat->M α->M α
 | [],m=>m
 | k::l,m=>.get k λv=>.bm (xb n r v) (JU n r l m)
def K7(C:Ctx)(N:Nat)(kids:List Nat)(X:TypeId)(r:Nat)(p:List St)(u:V)(x:Operand)(m:M (List (Nat×V))):M (List (Nat×V)):=
 (dG p u).bind λz =>
  if z.2.t.depth=0/\u.fx=true/\shallow p=false/\C.ty X=some z.2.t/\(u.root != some r)=true/\r<N/\r<100000 then
   (cI C X x).bind λv=>match v with
   | .d none _ t' y=>if h:t'=z.2.t then (fY p u z.2.t (h▸y)).bind λu'=>JU (nN p) r kids (.ask (vn r (jA false (r::kids))) (.ret [(r,u')]))else .fail
   | _=>.fail
  else m
section
variable{P:Program}{C:Ctx}{w w' w0:World}{S S':Nat->Prop}{L L' L0:Nat->aj}{s N:Nat}{vs:List Nat}{T T':List V}{tm tm':Array Value}{a:Act}
theorem XJ{α:Type}{m:M α}{x:α}:{l:List Nat}->{log:List Nat}->(JU n r l m).ai T x log->(∀k∈l,xb n r (T.getD k .dead)=true)/\∃aF,m.ai T x aF
 | [],log,h=>⟨by simp,log,h⟩
 | k::l,log,h=>by
  obtain⟨aF,rfl,hc,h⟩:=h;obtain⟨h1,h2⟩:=XJ (l:=l) h;refine⟨λk' aI=>?_,h2⟩;rcases List.mem_cons.1 aI with rfl|aI
  ·exact hc
  ·exact h1 k' aI
theorem an9[af](hI:Inv w0 L0 N vs T a w L)(hC:bD P C){u:V}{m:M (List (Nat×V))}(ho:o.op = .store X (.tmp t) x)(ay:o.dst=none)
  (ht:addrOf t (T.getD t .dead)=some (r,p)) (cV:∀r p,addrOf t (T.getD t .dead)=some (r,p)->∃g,a.eval (.tmp t) = .pointer (some ⟨g,(node [] 0 p).2,none⟩)/\L g = .own r (node [] 0 p).1)
  (hr:T.getD r .dead=u) (h:(K7 C N kids X r p u x m).ai T ups log) (hm:∀log,m.ai T ups log->Step P o w0 L0 N vs (ah T ups) a w):Step P o w0 L0 N vs (ah T ups) a w:=by
 obtain⟨⟨l,n',t',x'⟩,l1,l2,rfl,hz,h⟩:=M.an h;dsimp only at h;split at h
 ·rename_i hc;obtain⟨hd,Cp,We,hX,mn,dr,Jk⟩:=hc;clear hm;obtain⟨v,l3,l4,rfl,hv,h⟩:=M.an h;split at h
  ·rename_i k tv y;split at h
   ·rename_i qa;subst qa;obtain⟨u',l5,l6,rfl,wh,h⟩:=M.an h;obtain⟨I6,log2,h⟩:=XJ h;obtain⟨⟨hq,_⟩,fK,rfl,h⟩:=h;obtain⟨rfl,_⟩:=h;have az:∀z,z≠r->xb (nN p) r (T.getD z .dead)=true:=by
     intro z hz;by_cases hm:z∈kids
     ·exact I6 z hm
     ·have:=HK Jk hq z (wW (by simp[hz,hm]));rw[wX]at this;have this:(T.getD z .dead).eE r=false:=this;unfold xb;rw[this];rfl
    obtain⟨g,pW,hg⟩:=cV r p ht;have bb:=hI.aV r;rw[hr]at bb;obtain⟨⟨g',cur,e,k1,k2,k3,k4⟩,_,_,ik,lZ⟩:=lq hz bb;obtain rfl:=hI.inj g g' r _ hg k1;have nL:u.dE=false:=by cases u<;>simp[V.fx,V.dE]at Cp ⊢
    have ef:∃cs s0,Form tv cs (a.eval x)/\Own w L (SL L none) s0 k tv y [] 0 cs:=by
     rcases kB hI hv with⟨s,rfl,_,hs⟩|⟨_,hs⟩
     ·obtain⟨_,cs,hf,bP⟩:=hs;exact⟨cs,s,hf,bP⟩
     ·obtain⟨_,cs,hf,bP⟩:=hs L T a.tmps 0 w;exact⟨cs,0,hf,bP⟩
    obtain⟨cs,s0,hf,bP⟩:=ef;have dZ:=Own.one bP;have hlen:=Own.len bP;have aN:(execOp a.eval o).run P w = .ok .skip (w.setRow g (putCells cur (node [] 0 p).2 cs)):=by
     simp[execOp,ho,pW,tA (hC X _ hX) k2 hf dZ hlen k3]
    have bE:(ah T [(r,u')]).getD r .dead=u':=by
     show (T.set r u').getD r .dead=u';rw[aH,if_pos ⟨rfl,by rw[hI.len];exact dr⟩]
    have bq:∀z,z≠r->(ah T [(r,u')]).getD z .dead=T.getD z .dead:=by
     intro z hz;show (T.set r u').getD z .dead=_;rw[aH,if_neg (λh=>hz h.1)]
    intro K Q hK;unfold Oper.wp;rw[aN,Oper.upon_skip,ay];refine hK a _ _ (Inv.store (m:=n') (src:=none) hI hr hz wh (by simpa using mn) hg k2 k3 hlen (by simp) (by rw[cF,hI.len]) bE ?_ (λz hz _ _=>bq z hz) (Own.flat hd bP));intro z hz _ ag;refine .inr ⟨bq z hz,?_⟩;have hk:=az z hz;unfold xb V.eE at hk;rw[ag,Bool.true_and]at hk;generalize T.getD z .dead=vz at hk ag;cases vz with
    | ptr r2 p2 t2=>exact .inl rfl
    | view r2 p2 t2 =>
     have:r2=r:=by simpa[V.on,V.root]using ag
     subst this;refine .inr ⟨rfl,We,nL,p2,t2,rfl,λhe=>?_⟩;have hk:nN p2<nN p:=by simpa using hk
     have:=congrArg List.length he;rw[CT,CT]at this;omega
    | _=>simp at hk
   ·exact h.elim
  ·exact h.elim
 ·exact hm _ h
end
def lD(r:Nat)(q:List Nat)(o sz s:Nat):Nat->List Nat->aj:=λz q2 =>
 if z=r then match cut q q2 with
  | some (y::rest)=>if o<=y/\y<o+sz then .own s ((y - o)::rest)else .own r q2
  | _=>.own r q2
 else if z=s then .other else .own z q2
def Kr(r:Nat)(v:V):Bool := !v.on r||(match v with
 | .same _ _=>true
 | .ptr _ [.idx _ _] _=>true
 | _=>false)
def CV(r:Nat):List V->Bool
 | []=>true
 | v::l=>Kr r v&&CV r l
def CR(r:Nat):List V->Bool
 | []=>true
 | v::l => !v.on r&&CR r l
def Uw(C:Ctx)(N:Nat)(X:TypeId)(d r sz:Nat)(i:Int)(n:Nat):(ty:Ty)->ty.den->M (List (Nat×V))
 | .pair (.int k) (.slice e te),x=>if C.ty X=some te/\te.depth≠0/\n≠0/\sz=te.sz/\d<N/\r<N/\d≠r then
   .get d λvd=>.bm (vd.idle&&decide (x.1<=i)) (.cJ te (ae x.2 i) λy=>(allM 0 N).bind λTs=>.bm (CV r Ts) (.ret [(r,.bO 0 n (.pair (.int k) (.slice e te)) (i+1,x.2)),(d,.d none n te y)]))
  else .fail
 | _,_=>.fail
def Il(C:Ctx)(N:Nat)(X:TypeId)(d t:Nat):M (List (Nat×V)):=
 .get t λv=>match v with
 | .ptr r [.idx sz i] _=>.get r λu=>match u with
  | .bO 0 n ty x=>Uw C N X d r sz i n ty x
  | _=>.fail
 | _=>.fail
def vu(vs:List Nat)(N d:Nat)(fl:Bool)(x:Operand)(m:M (List (Nat×V))):M (List (Nat×V)):=
 match x with
 | .tmp s=>.get s λv=>match v with
  | .bO 0 _ (.pair (.int _) t) _=>.get d λvd=>.bm (vd.idle&&decide (d<N)&&vs.contains s) (.ret [(d,.same s t)])
  | .d none (n+1) (.slice e t) xs=>cond fl (if d<N/\s<N/\d≠s then .get d λvd=>.bm (vd.idle&&vs.contains s) ((allM 0 N).bind λTs=>.bm (CR s Ts) (.ret [(s,.bO 0 n (.pair (.int .i64) (.slice e t)) ((0:Int),xs)),(d,.same s (.slice e t))]))else .fail) m
  | _=>m
 | _=>m
def Uv(C:Ctx)(X:TypeId)(d:Nat):(ty:Ty)->ty.den->M (List (Nat×V))
 | .pair (.int _) (.slice e te),x=>if C.ty X=some (.slice e te)then .ret [(d,.d none 0 (.int .i64) (x.2.length:Int))]else .fail
 | _,_=>.fail
def Ik(C:Ctx)(d:Nat)(l:List Operand)(cH:List TypeId)(m:M (List (Nat×V))):M (List (Nat×V)):=
 match l,cH with
 | [.tmp t],[X]=>.get t λv=>match v with
  | .same r _=>.get r λu=>match u with
   | .bO 0 _ ty x=>Uv C X d ty x
   | _=>m
  | _=>m
 | _,_=>m
def Uu(C:Ctx)(vs:List Nat)(X:TypeId)(d r:Nat)(i:Int):(ty:Ty)->ty.den->M (List (Nat×V))
 | .pair (.int _) (.slice _ te),x=>if o6 C X=some te then .cJ te (ae x.2 i) λ_=>.bm (vs.contains r) (.ret [(d,.ptr r [.idx te.sz i] te)])else .fail
 | _,_=>.fail
def Ij(C:Ctx)(vs:List Nat)(X:TypeId)(d t:Nat)(y:Operand)(m:M (List (Nat×V))):M (List (Nat×V)):=
 .get t λv=>match v with
 | .same r _=>.get r λu=>match u with
  | .bO 0 _ ty x=>(cI C 0 y).bind λz=>match z with
   | .d _ _ (.int _) i=>Uu C vs X d r i ty x
   | _=>.fail
  | _=>m
 | _=>m
section
variable{P:Program}{C:Ctx}{w w' w0:World}{S S':Nat->Prop}{L L' L0:Nat->aj}{s N:Nat}{vs:List Nat}{T T':List V}{tm tm':Array Value}{a:Act}
theorem tL[af]{s:Nat}{o:Nat}{z:Nat}{q2:List Nat}{z':Nat}{q3:List Nat}(h:lD r q o sz s z q2 = .own z' q3):
  (z=r/\∃i rest,i<sz/\q2=q++(o+i)::rest/\z'=s/\q3=i::rest)\/(z=r/\z'=r/\q3=q2/\∀i rest,i<sz->q2≠q++(o+i)::rest)\/(z≠r/\z≠s/\z'=z/\q3=q2):=by
 unfold lD at h;split at h
 ·rename_i hz;split at h
  ·rename_i y rest hc;split at h
   ·rename_i hy;injection h with h1 h2;refine .inl ⟨hz,y - o,rest,by omega,?_,h1.symm,h2.symm⟩;rw[ow hc];congr 2;omega
   ·rename_i hy;injection h with h1 h2;refine .inr (.inl ⟨hz,h1.symm,h2.symm,λi fD hi he=>?_⟩);rw[he,nh]at hc;simp only[Option.some.injEq,List.cons.injEq]at hc;omega
  ·rename_i cA;injection h with h1 h2;refine .inr (.inl ⟨hz,h1.symm,h2.symm,λi fD _ he=>?_⟩);exact cA (o+i) fD (by rw[he,nh])
 ·rename_i hz;split at h
  ·cases h
  ·rename_i hs;injection h with h1 h2;exact .inr (.inr ⟨hz,hs,h1.symm,h2.symm⟩)
theorem aor[af]{s:Nat}{o:Nat}{X:Nat->Prop}(hr:X r)(hs:X s)(iN:r≠s):fF (lD r q o sz s) X:=by
 refine⟨λz q2 hX=>?_,λz q2 z' q3 hX h=>?_,λz q2 z2 q3 z' q4 h1 h2=>?_,λz q2=>?_⟩
 ·unfold lD;rw[if_neg (λe:z=r=>hX (e▸hr)),if_neg (λe:z=s=>hX (e▸hs))]
 ·rcases tL h with⟨_,_,_,_,_,rfl,_⟩|⟨_,rfl,_⟩|⟨_,_,rfl,_⟩
  ·exact hs
  ·exact hr
  ·exact hX
 ·rcases tL h1 with⟨rfl,i,rest,_,rfl,rfl,rfl⟩|⟨rfl,rfl,rfl,hn⟩|⟨g1,g2,rfl,rfl⟩
  ·rcases tL h2 with⟨rfl,i',fD,_,rfl,_,he⟩|⟨rfl,he,_⟩|⟨_,g2,he,_⟩
   ·injection he with nv he;exact⟨rfl,by rw[he,nv]⟩
   ·exact absurd he.symm iN
   ·exact absurd he.symm g2
  ·rcases tL h2 with⟨_,i',fD,_,_,he,_⟩|⟨rfl,_,he,_⟩|⟨g1,_,he,_⟩
   ·exact absurd he iN
   ·exact⟨rfl,he⟩
   ·exact absurd he.symm g1
  ·rcases tL h2 with⟨_,i',fD,_,_,he,_⟩|⟨_,he,_⟩|⟨_,_,h3,h4⟩
   ·exact absurd he g2
   ·exact absurd he g1
   ·exact⟨h3,h4⟩
 ·unfold lD
  repeat' split
  all_goals simp
theorem aoq[af]{s:Nat}{o:Nat}{rest:List Nat}(hi:i<sz):lD r q o sz s r (q++(o+i)::rest) = .own s (i::rest):=by
 unfold lD;rw[if_pos rfl,nh];dsimp only;rw[if_pos ⟨by omega,by omega⟩,show o+i - o=i by omega]
theorem aos[af]{s:Nat}{o:Nat}{q2:List Nat}(h:∀i rest,i<sz->q2≠q++(o+i)::rest):lD r q o sz s r q2 = .own r q2:=by
 unfold lD;rw[if_pos rfl];split
 ·rename_i y rest hc;split
  ·rename_i hy;exact absurd (ow hc) (by
    have:=h (y - o) rest (by omega)
    rwa [show o+(y - o)=y by omega]at this)
  ·rfl
 ·rfl
theorem amx{l:List V}(h:CV r l=true)(z:Nat):Kr r (l.getD z .dead)=true:=by
 induction l generalizing z with
 | nil=>rfl
 | cons v l ih =>
  simp only[CV,Bool.and_eq_true]at h;cases z with
  | zero=>exact h.1
  | succ z=>exact ih h.2 z
theorem amn{l:List V}(h:CR r l=true)(z:Nat):(l.getD z .dead).on r=false:=by
 induction l generalizing z with
 | nil=>rfl
 | cons v l ih =>
  simp only[CR,Bool.and_eq_true,Bool.not_eq_true']at h;cases z with
  | zero=>exact h.1
  | succ z=>exact ih h.2 z
theorem amb[af](hI:Inv w0 L0 N vs T a w L){z:Nat}(h:T.getD z .dead ≠ .dead):z<N:=by
 rcases Nat.lt_or_ge z N with h1|h1
 ·exact h1
 ·exact absurd (eF (by rw[hI.len];exact h1)) h
theorem anl[af](hI:Inv w0 L0 N vs T a w L){x:Operand}{s:Nat}{k:IntKind}{t:Ty}{y:(Ty.pair (.int k) t).den}(ho:qk o (.tmp s))(hid:(T.getD d .dead).idle=true)(hs:T.getD s .dead = .bO 0 n (.pair (.int k) t) y)(hv:s∈vs):
  aK P o vs T a w L d (.same s t):=by
 have bL:s≠d:=df hid (by rw[hs];rfl);refine⟨a.tmps.getD s undef,w,L,tw ho,eo.refl hI d,λk q hk h=>(by rw[hI.free k hk]at h;cases h),λr hr=>?_,?_,n,k,y,?_⟩
 ·have:s=r:=by simpa[V.on,V.root]using hr
  exact this▸hv
 ·rw[dY,if_neg (λh=>bL h.1)]
 ·rw[aH,if_neg (λh=>bL h.1),hs]
theorem an3[af](hI:Inv w0 L0 N vs T a w L){x:Operand}{fl:Bool}(ho:qk o x)(ay:o.dst=some d)
  (h:(vu vs N d fl x m).ai T ups log) (hm:∀log,m.ai T ups log->Step P o w0 L0 N vs (ah T ups) a w):Step P o w0 L0 N vs (ah T ups) a w:=by
 unfold vu at h;split at h
 ·rename_i s;obtain⟨aF,rfl,h⟩:=h;generalize hv:T.getD s .dead=v at h;dsimp only at h;split at h
  ·rename_i n k t y;obtain⟨l2,rfl,hc,h⟩:=h;simp only[Bool.and_eq_true,decide_eq_true_eq]at hc;obtain⟨rfl,_⟩:=h;intro K Q hK;exact aK.inv hI hc.1.2 hc.1.1 ay (anl (x:=.tmp s) hI ho hc.1.1 hv (List.contains_iff_mem.1 hc.2)) hK
  ·rename_i n e t xs;cases fl with
   | false=>exact hm _ h
   | true =>
    rw[cond_true]at h;split at h
    ·rename_i hc;obtain⟨pV,b9,iK⟩:=hc;obtain⟨l2,rfl,hid,h⟩:=h;obtain⟨Ts,l3,l4,rfl,dQ,cA,h⟩:=M.an h;obtain⟨rfl,_⟩:=h;have bI:Ts=T:=by rw[lL dQ (by rw[Nat.zero_add,hI.len])];rfl
     subst bI;simp only[Bool.and_eq_true]at hid;have VM:=hid.1;have bc:s∈vs:=List.contains_iff_mem.1 hid.2;have iO:=hI.aV s;rw[hv]at iO;obtain⟨_,cs,hf,bP⟩:=iO;have bT:(ah Ts [(s,V.bO 0 n (.pair (.int .i64) (.slice e t)) ((0:Int),xs)),(d,.same s (.slice e t))]).getD d .dead = .same s (.slice e t):=by
      show ((Ts.set s _).set d _).getD d .dead=_;rw[aH,if_pos ⟨rfl,by simp[hI.len,pV]⟩]
     have bI:(ah Ts [(s,V.bO 0 n (.pair (.int .i64) (.slice e t)) ((0:Int),xs)),(d,.same s (.slice e t))]).getD s .dead = .bO 0 n (.pair (.int .i64) (.slice e t)) ((0:Int),xs):=by
      show ((Ts.set s _).set d _).getD s .dead=_;rw[aH,if_neg (λh=>iK h.1.symm),aH,if_pos ⟨rfl,by rw[hI.len];exact b9⟩]
     have bq:∀z,z≠d->z≠s->(ah Ts [(s,V.bO 0 n (.pair (.int .i64) (.slice e t)) ((0:Int),xs)),(d,.same s (.slice e t))]).getD z .dead=Ts.getD z .dead:=by
      intro z h1 h2;show ((Ts.set s _).set d _).getD z .dead=_;rw[aH,if_neg (λh=>h1 h.1),aH,if_neg (λh=>h2 h.1)]
     refine Step.value (L':=L) ay (tw ho) ?_;have wA:(a.put (some d) (a.eval (.tmp s))).tmps.getD d undef=a.tmps.getD s undef:=by
      show (a.tmps.setIfInBounds d _).getD d undef=_;rw[dY,if_pos ⟨rfl,by rw[hI.size];exact pV⟩];rfl
     have nI:∀z,z≠d->(a.put (some d) (a.eval (.tmp s))).tmps.getD z undef=a.tmps.getD z undef:=λz hz=>kD (by simpa using Ne.symm hz);refine Inv.upd (λz=>z=s\/z=d) hI (by simp[Act.put,hI.size]) (by rw[cF,hI.len]) hI.dP hI.fr hI.free hI.inj ?_ (λ_ _ _ _=>⟨rfl,rfl⟩) ?_ ?_ ?_ ?_
     ·intro k z q hk;by_cases h1:z=d
      ·subst h1;have:=hI.owner k z q hk;rw[V.kA VM]at this;cases this
      ·by_cases h2:z=s
       ·subst h2;rw[bI];rfl
       ·rw[bq z h1 h2];exact hI.owner k z q hk
     ·intro z hz;have hz:=not_or.1 hz;exact⟨bq z hz.2 hz.1,nI z hz.2⟩
     ·intro z r ag;by_cases h1:z=d
      ·subst h1;rw[bT]at ag;have:s=r:=by simpa[V.on,V.root]using ag
       exact this▸bc
      ·by_cases h2:z=s
       ·subst h2;rw[bI]at ag;simp[V.on,V.root]at ag
       ·rw[bq z h1 h2]at ag;exact hI.roots z r ag
     ·intro z r hz ag bw;have h1:r≠d:=df VM bw;have h2:r≠s:=λe=>by
       subst e;have:=amn cA z;rw[this]at ag;cases ag
      exact⟨bq r h1 h2,nI r h1⟩
     ·intro z hz;rcases hz with rfl|rfl
      ·rw[bI,nI _ (Ne.symm iK)];simp only[aB,fG];have Cb:cs=[a.tmps.getD z undef]:=hf;simp only[Own]at bP;rcases bP with⟨h1,h2⟩|⟨g,cap,cur,h1,h2,h3,h4,h5,h6,h7⟩
       ·rw[h1]at Cb;exact .inl ⟨(List.cons.inj Cb).1.symm,h2⟩
       ·rw[h1]at Cb;refine .inr ⟨g,cap,cur,(List.cons.inj Cb).1.symm,by simpa using h2,h3,h4,h5,h6,λj hj _=>?_⟩;simpa using h7 j hj
      ·rw[bT,wA];exact⟨(nI s (Ne.symm iK)).symm,n,.i64,_,bI⟩
    ·exact h.elim
  ·exact hm _ h
 ·exact hm _ h
theorem Ze[af](hI:Inv w0 L0 N vs T a w L){tt:Ty}{ty:Ty}{x:ty.den}(ht:T.getD t .dead = .same r tt)(hr:T.getD r .dead = .bO 0 n ty x):a.tmps.getD t undef=a.tmps.getD r undef:=by
 have:=hI.aV t;rw[ht]at this;exact this.1
theorem an1[af](hI:Inv w0 L0 N vs T a w L)(hC:bD P C)(ho:o.op = .call { callee:=.builtin .len,args,argTypes:=cH })(ay:o.dst=some d)(hd:d<N)(hid:(T.getD d .dead).idle=true)
  (h:(Ik C d args.toList cH.toList m).ai T ups log) (hm:∀log,m.ai T ups log->Step P o w0 L0 N vs (ah T ups) a w):Step P o w0 L0 N vs (ah T ups) a w:=by
 obtain⟨args⟩:=args;obtain⟨cH⟩:=cH;dsimp only at h;unfold Ik at h;split at h
 ·rename_i t X;obtain⟨aF,rfl,h⟩:=h;generalize ht:T.getD t .dead=v at h;dsimp only at h;split at h
  ·rename_i r tt;obtain⟨log2,rfl,h⟩:=h;generalize hr:T.getD r .dead=u at h;dsimp only at h;split at h
   ·rename_i n ty x;unfold Uv at h;split at h
    ·rename_i k e te x;split at h
     ·rename_i hX;obtain⟨rfl,_⟩:=h;have h1:=Ze hI ht hr;have hs:=hI.aV r;rw[hr]at hs;simp only[aB,fG]at hs;have hlen:∃A c,a.eval (.tmp t) = .slice A (x.2:List te.den).length c:=by
       rcases hs with⟨h2,h3⟩|⟨g,cap,cur,h2,_⟩
       ·refine⟨none,0,?_⟩;show a.tmps.getD t undef=_;rw[h1,h2,h3];rfl
       ·exact⟨_,_,h1.trans h2⟩
      obtain⟨A,c,hlen⟩:=hlen;intro K Q hK;refine aK.inv hI hd hid ay (aK.still hI (c:=.int .i64 (x.2.length:Int)) ?_ (λ_=>rfl) aB.mkInt) hK;have hu:=(hC X _ hX).b7;have hc:(Builtin.len_ #[X] o.type #[a.eval (.tmp t)]).run P w = .ok (.int .i64 (x.2.length:Int)) w:=by
       rw[hlen];simp[Builtin.len_,run_underlying hu.1,goInt]
      simp[execOp,ho,resolve,invoke,builtin,hc]
     ·exact h.elim
    ·exact h.elim
   ·exact hm _ h
  ·exact hm _ h
 ·exact hm _ h
theorem an0[af](hI:Inv w0 L0 N vs T a w L)(hC:bD P C){y:Operand}(ho:o.op = .indexAddr X (.tmp t) y)(ay:o.dst=some d)(hd:d<N)(hid:(T.getD d .dead).idle=true)
  (h:(Ij C vs X d t y m).ai T ups log) (hm:∀log,m.ai T ups log->Step P o w0 L0 N vs (ah T ups) a w):Step P o w0 L0 N vs (ah T ups) a w:=by
 unfold Ij at h;obtain⟨aF,rfl,h⟩:=h;generalize ht:T.getD t .dead=v at h;dsimp only at h;split at h
 ·rename_i r tt;obtain⟨log2,rfl,h⟩:=h;generalize hr:T.getD r .dead=u at h;dsimp only at h;split at h
  ·rename_i n ty x;obtain⟨z,l1,l2,rfl,hz,h⟩:=M.an h;split at h
   ·rename_i ll nn ki i;have hy:=gN hI hz;unfold Uu at h;split at h
    ·rename_i k e te x _;split at h
     ·rename_i gn;obtain⟨y0,jy,bc,rfl,_⟩:=h;obtain⟨hi,jY,rfl⟩:=lT jy;have h1:=Ze hI ht hr;have hs:=hI.aV r;rw[hr]at hs;simp only[aB,fG]at hs;rcases hs with⟨_,h3⟩|⟨g,cap,cur,h2,h3,_⟩
      ·rw[h3]at hi;exact absurd hi (by simp)
      ·have fb:a.eval (.tmp t)=_:=h1.trans h2;have aN:(execOp a.eval o).run P w = .ok (.value (.pointer (some ⟨g,0+i.toNat*te.sz,none⟩))) w:=by
        simp[execOp,ho,fb,hy,Zb hC gn jY hi]
       intro K Q hK;refine aK.inv hI hd hid ay (aK.ptr hI (g:=g) ?_ h3 (λr' aW=>?_)) hK
       ·rw[aN];simp[node]
       ·have:r=r':=by simpa[V.on,V.root]using aW
        exact this▸List.contains_iff_mem.1 bc
     ·exact h.elim
    ·exact h.elim
   ·exact h.elim
  ·exact hm _ h
 ·exact hm _ h
theorem an2[af](hI:Inv w0 L0 N vs T a w L)(hC:bD P C){X:TypeId}(ho:o.op = .load X (.tmp t))(ay:o.dst=some d)
  (h:(Il C N X d t).ai T ups log):Step P o w0 L0 N vs (ah T ups) a w:=by
 unfold Il at h;obtain⟨aF,rfl,h⟩:=h;generalize ht:T.getD t .dead=v at h;dsimp only at h;split at h
 ·rename_i r sz i tt;obtain⟨log2,rfl,h⟩:=h;generalize hr:T.getD r .dead=u at h;dsimp only at h;split at h
  ·rename_i n ty x;unfold Uw at h;split at h
   ·rename_i k e te x;split at h
    ·rename_i hc;obtain⟨hX,oL,iM,rfl,pV,dr,sH⟩:=hc;obtain⟨l3,rfl,jZ,y,hy,h⟩:=h;obtain⟨Ts,l4,l5,rfl,dQ,az,h⟩:=M.an h;obtain⟨rfl,_⟩:=h;have bI:Ts=T:=by rw[lL dQ (by rw[Nat.zero_add,hI.len])];rfl
     subst bI;simp only[Bool.and_eq_true,decide_eq_true_eq]at jZ;obtain⟨hid,hle⟩:=jZ;obtain⟨hi,jY,rfl⟩:=lT hy;have a7:=hI.aV t;rw[ht]at a7;obtain⟨g0,hp,vV⟩:=a7;have hs:=hI.aV r;rw[hr]at hs;have ed:=hs;simp only[aB,fG]at hs;rcases hs with⟨_,h3⟩|⟨g,cap,cur,h2,h3,h4,h5,h6,h7,h8⟩
     ·rw[h3]at hi;exact absurd hi (by simp)
     obtain rfl:=hI.inj g0 g r _ vV (by simpa[node]using h3);have hle:x.1<=i:=hle;have ai0:=h8 i.toNat hi (Int.le_trans hle (Int.le_of_eq (Int.toNat_of_nonneg jY).symm));have aji:mM w L (SL L none) r n te (x.2[i.toNat]) (node [] 0 [St.idx te.sz i]).1 (node [] 0 [St.idx te.sz i]).2:=by
      refine⟨g0,cur,e,vV,h4,?_,ai0⟩;simp only[node];rw[h7,<-Nat.succ_mul];exact Nat.mul_le_mul_right _ (Nat.lt_of_lt_of_le hi h5)
     obtain⟨c,e9,e2,aN,hh,bp,hf,me⟩:=WA hI hC hX aji vV;have cB:a.eval (.tmp t)=_:=hp;have Jo:(execOp a.eval o).run P w = .ok (.value c) w:=by simp[execOp,ho,cB,Instr.loadAt,Instr.sureAddr,aN]
     have bT:(ah Ts [(r,V.bO 0 n (.pair (.int k) (.slice e te)) (i+1,x.2)),(d,.d none n te (x.2[i.toNat]))]).getD d .dead = .d none n te (x.2[i.toNat]):=by
      show ((Ts.set r _).set d _).getD d .dead=_;rw[aH,if_pos ⟨rfl,by simp[hI.len,pV]⟩]
     have bE:(ah Ts [(r,V.bO 0 n (.pair (.int k) (.slice e te)) (i+1,x.2)),(d,.d none n te (x.2[i.toNat]))]).getD r .dead = .bO 0 n (.pair (.int k) (.slice e te)) (i+1,x.2):=by
      show ((Ts.set r _).set d _).getD r .dead=_;rw[aH,if_neg (λh=>sH h.1.symm),aH,if_pos ⟨rfl,by rw[hI.len];exact dr⟩]
     have bq:∀z,z≠d->z≠r->(ah Ts [(r,V.bO 0 n (.pair (.int k) (.slice e te)) (i+1,x.2)),(d,.d none n te (x.2[i.toNat]))]).getD z .dead=Ts.getD z .dead:=by
      intro z h1 h2;show ((Ts.set r _).set d _).getD z .dead=_;rw[aH,if_neg (λh=>h1 h.1),aH,if_neg (λh=>h2 h.1)]
     have wA:(a.put (some d) c).tmps.getD d undef=c:=by
      show (a.tmps.setIfInBounds d _).getD d undef=_;rw[dY,if_pos ⟨rfl,by rw[hI.size];exact pV⟩]
     have nI:∀z,z≠d->(a.put (some d) c).tmps.getD z undef=a.tmps.getD z undef:=λz hz=>kD (by simpa using Ne.symm hz);have VS:∀z,(Ts.getD z .dead).on r=true->(∃t',Ts.getD z .dead = .same r t')\/∃fE i' t',Ts.getD z .dead = .ptr r [.idx fE i'] t':=by
      intro z ag;have hz:=amx az z;unfold Kr at hz;rw[ag,Bool.not_true,Bool.false_or]at hz;generalize Ts.getD z .dead=v at hz ag;cases v with
      | same r' t' =>
       have:r'=r:=by simpa[V.on,V.root]using ag
       exact .inl ⟨t',by rw[this]⟩
      | ptr r' p t' =>
       have:r'=r:=by simpa[V.on,V.root]using ag
       subst this
       match p,hz with
       | [.idx fE i'],_=>exact .inr ⟨fE,i',t',rfl⟩
      | _=>cases hz
     have I7:∀k' q',L k' = .own r q'->(∀i' rest,i'<te.sz->q'≠[0]++(i.toNat*te.sz+i')::rest)->aS (lD r [0] (i.toNat*te.sz) te.sz d) w L (λ_=>.free) k' = .own r q':=by
      intro k' q' hk hq;rw[cX hI (by rw[hk];simp),hk];exact aos hq
     refine Step.value (L':=aS (lD r [0] (i.toNat*te.sz) te.sz d) w L (λ_=>.free)) ay Jo ?_;refine Inv.gP (X:=λz=>z=r\/z=d\/(Ts.getD z .dead).on r=true) (nl:=λ_=>.free) hI (aor (.inl rfl) (.inr (.inl rfl)) (Ne.symm sH)) (Wd.refl hI _) (λ_ _ _ _ _ h=>by cases h) (by simp[Act.put,hI.size]) (by rw[cF,hI.len]) hI.dP ?_ ?_ ?_ ?_ ?_
     ·intro k' z q bW h;by_cases h1:z=r
      ·subst h1;rw[bE];rfl
      ·by_cases h9:z=d
       ·subst h9;rw[bT];simp[V.aL,iM,oL]
       ·rw[bq z h9 h1];unfold aS at h;split at h
        ·obtain⟨s0,q0,e0,f0⟩:=eV h;rcases tL f0 with⟨_,_,_,_,_,j3,_⟩|⟨_,j3,_⟩|⟨_,_,j3,j4⟩
         ·exact absurd j3 h9
         ·exact absurd j3 h1
         ·subst j3;exact hI.owner k' _ _ e0
        ·cases h
     ·intro z r' bW ag aW;have bW:=not_or.1 bW;have ff:=not_or.1 bW.2;rcases aW with rfl|rfl|aW
      ·exact absurd ag ff.2
      ·exact V.kA hid
      ·rcases VS r' aW with⟨_,he⟩|⟨_,_,_,he⟩<;>rw[he]<;>rfl
     ·intro z bW;have bW:=not_or.1 bW;have ff:=not_or.1 bW.2;exact⟨bq z ff.1 bW.1,nI z ff.1⟩
     ·intro z r' bW ag;by_cases h1:z=r
      ·subst h1;rw[bE]at ag;simp[V.on,V.root]at ag
      ·by_cases h9:z=d
       ·subst h9;rw[bT]at ag;simp[V.on,V.root]at ag
       ·rw[bq z h9 h1]at ag;exact hI.roots z r' ag
     ·intro z bW;by_cases h1:z=r
      ·subst h1;rw[bE,nI _ (Ne.symm sH)];simp only[aB,fG];refine .inr ⟨g0,cap,cur,h2,I7 _ _ h3 (λi' rest _ h=>by have:=congrArg List.length h;simp at this),h4,h5,h6,h7,λj hj VX=>?_⟩;have VX:i+1<=(j:Int):=VX;refine Own.move (λk' hk=>?_) (λk' dd rest iJ hk=>⟨?_,rfl⟩) (h8 j hj (Int.le_trans hle (by omega)))
       ·rcases hk with hk|⟨_,_,hk,_⟩
        ·exact⟨.inl (ez hI hk),rfl⟩
        ·cases hk
       ·refine I7 _ _ hk (λi' fD sJ he=>?_);simp only[List.cons_append,List.nil_append,List.cons.injEq,true_and]at he;have lU:(i.toNat+1)*te.sz<=j*te.sz:=Nat.mul_le_mul_right _ (by omega);rw[Nat.add_mul,Nat.one_mul]at lU;omega
      ·by_cases h9:z=d
       ·subst h9;rw[bT,wA];refine⟨by simp,_,hf,?_⟩;refine Own.move (λk' hk=>?_) (λk' dd rest iJ hk=>⟨?_,rfl⟩) me
        ·rcases hk with hk|⟨_,_,hk,_⟩
         ·exact⟨.inl (ez hI hk),rfl⟩
         ·cases hk
        ·rw[cX hI (by rw[hk];simp),hk];simp only[eN,node,Nat.zero_add,List.nil_append];exact aoq iJ
       ·rw[bq z h9 h1,nI z h9];have ag:(Ts.getD z .dead).on r=true:=by
         rcases bW with h|h|h
         ·exact absurd h h1
         ·exact absurd h h9
         ·exact h
        have p9:=hI.aV z;rcases VS z ag with⟨t',he⟩|⟨fE,i',t',he⟩
        ·rw[he]at p9 ⊢;obtain⟨j1,n1,k1,x1,j2⟩:=p9;rw[hr]at j2;cases j2;exact⟨j1.trans (nI r (Ne.symm sH)).symm,n,k,_,bE⟩
        ·rw[he]at p9 ⊢;obtain⟨g2,j1,j2⟩:=p9;exact⟨g2,j1,I7 _ _ j2 (λi' rest _ h=>by have:=congrArg List.length h;simp[node]at this)⟩
    ·exact h.elim
   ·exact h.elim
  ·exact h.elim
 ·exact h.elim
end
def si:Nat->Ty->Bool
 | m,.pair a b=>(a.depth==0||m.testBit 0)&&si (m / 2) b
 | m,t=>t.depth==0||m.testBit 0
def nS(m:Nat)(ta:Ty)(x:ta.den):V:=cond (si m ta) (.box none ta.depth (.agg ta) x) (.bO 1 m (.agg ta) x)
def CL(C:Ctx)(vs:List Nat)(N:Nat)(kids:List Nat)(X:TypeId)(r i off m0:Nat)(ta:Ty)(x0:ta.den)(x:Operand):M (List (Nat×V)):=
 match x with
 | .tmp s=>.get s λv=>match v with
  | .d none k t1 y=>match comp i ta x0 with
   | some (o,⟨t2,_⟩)=>if o=off/\t2=t1/\t1.depth≠0/\t1.depth<=k/\C.ty X=some t1/\vs.contains s=false/\s≠r/\r<N/\m0.testBit i=false/\ta.depth≠0 then
     (iT i ta x0 (λt' x'=>fh [] t' x' t1 y)).bind λx2=>iB false r s kids (.ret [(r,nS (m0 ||| 2 ^ i) ta x2),(s,.dead)])
    else .fail
   | none=>.fail
  | _=>.fail
 | _=>.fail
def J9(C:Ctx)(vs:List Nat)(N:Nat)(kids:List Nat)(X:TypeId)(r:Nat)(p:List St)(u:V)(x:Operand)(m:M (List (Nat×V))):M (List (Nat×V)):=
 match p with
 | [.a6 i off]=>match u with
  | .box none 0 (.agg ta) x0=>CL C vs N kids X r i off 0 ta x0 x
  | .bO 1 m0 (.agg ta) x0=>CL C vs N kids X r i off m0 ta x0 x
  | _=>m
 | _=>m
section
variable{P:Program}{C:Ctx}{w w' w0:World}{S S':Nat->Prop}{L L' L0:Nat->aj}{s N:Nat}{vs:List Nat}{T T':List V}{tm tm':Array Value}{a:Act}
theorem cd.move[af](H1:∀k,L k = .aq->L' k = .aq/\w'.heap[k]?=w.heap[k]?):{t:Ty}->{m:Nat}->{x:t.den}->{o:Nat}->{cs:List Value} ->
  (∀k d rest,d<t.sz->L k = .own r ((o+d)::rest)->L' k = .own r ((o+d)::rest)/\w'.heap[k]?=w.heap[k]?)->cd w L r m t x o cs->cd w' L' r m t x o cs:=by
 have HS:∀k,SL L none k->SL L' none k/\w'.heap[k]?=w.heap[k]?:=by
  rintro k (hk|⟨_,_,hk,_⟩)
  ·exact⟨.inl (H1 k hk).1,(H1 k hk).2⟩
  ·cases hk
 intro t;induction t with
 | pair a b _ ih =>
  intro m x o cs H2 h;obtain⟨c0,c1,h1,h2,h3⟩:=h;refine⟨c0,c1,h1,Own.move HS (λk d rest hd hk=>H2 k d rest (by simp only[Ty.sz];omega) hk) h2,ih (λk d rest hd hk=>?_) h3⟩;have:=H2 k (a.sz+d) rest (by simp only[Ty.sz];omega) (by rw[hk,Nat.add_assoc])
  rwa [<-Nat.add_assoc]at this
 | _=>intro m x o cs H2 h;simp only[cd]at h ⊢;exact Own.move HS H2 h
theorem cd.of0[af]:{t:Ty}->{x:t.den}->{o:Nat}->{cs:List Value}->Own w L (SL L none) r 0 t x [] o cs->cd w L r 0 t x o cs:=by
 intro t;induction t with
 | pair a b _ ih =>
  intro x o cs h;simp only[Own]at h;obtain⟨c0,c1,h1,h2,h3⟩:=h;exact⟨c0,c1,h1,by simpa using h2,ih h3⟩
 | _=>intro x o cs h;simp only[cd];simpa using h
theorem cd.full[af]:{t:Ty}->{m:Nat}->{x:t.den}->{o:Nat}->{cs:List Value}->{D:Nat}->t.depth<=D->si m t=true->cd w L r m t x o cs->Own w L (SL L none) r D t x [] o cs:=by
 have one:∀{t:Ty} {m:Nat} {x:t.den} {o:Nat} {cs:List Value} {D:Nat},t.depth<=D->(t.depth==0||m.testBit 0)=true->Own w L (SL L none) r (cond (m.testBit 0) t.depth 0) t x [] o cs->Own w L (SL L none) r D t x [] o cs:=by
  intro t m x o cs D hD hf h;cases hb:m.testBit 0 with
  | true=>rw[hb]at h;exact Own.cap (Nat.le_refl _) hD h
  | false =>
   rw[hb,Bool.or_false]at hf;exact Own.flat (by simpa using hf) h
 intro t;induction t with
 | pair a b _ ih =>
  intro m x o cs D hD hf h;obtain⟨c0,c1,h1,h2,h3⟩:=h;simp only[si,Bool.and_eq_true]at hf;simp only[Ty.depth]at hD;simp only[Own];exact⟨c0,c1,h1,one (by omega) hf.1 h2,ih (by omega) hf.2 h3⟩
 | _=>intro m x o cs D hD hf h;simp only[cd]at h;exact one hD hf h
theorem amA(m i:Nat):(m ||| 2 ^ (i+1)).testBit 0=m.testBit 0/\(m ||| 2 ^ (i+1)) / 2=m / 2 ||| 2 ^ i:=by
 refine⟨?_,?_⟩
 ·rw[Nat.testBit_or,Nat.testBit_two_pow];simp
 ·rw[Nat.or_div_two,Nat.pow_succ,Nat.mul_div_cancel _ (by omega)]
theorem YK(m:Nat):(m ||| 2 ^ 0).testBit 0=true/\(m ||| 2 ^ 0) / 2=m / 2:=by
 refine⟨?_,?_⟩
 ·rw[Nat.testBit_or,Nat.testBit_two_pow];simp
 ·rw[Nat.or_div_two];simp
theorem Ym{t1 t':Ty}{x1:t1.den}{y:t'.den}{z:t1.den}(h:(fh [] t1 x1 t' y).ai T z log):∃e:t'=t1,z=e▸y:=by
 simp only[fh]at h;split at h
 ·rename_i e;exact⟨e,h.1⟩
 ·exact h.elim
theorem cd.mod[af](H1:∀k,L k = .aq->L' k = .aq/\w'.heap[k]?=w.heap[k]?):{t:Ty}->{i m:Nat}->{x x':t.den}->{o:Nat}->{cs bj:List Value}->{t1:Ty}->{y x1:t1.den}->{o1:Nat}->{log:List Nat} ->
  comp i t x=some (o1,⟨t1,x1⟩)->(iT i t x (λt' x'=>fh [] t' x' t1 y)).ai T x' log ->
  (∀k d rest,d<t.sz->¬(o1<=d/\d<o1+t1.sz)->L k = .own r ((o+d)::rest)->L' k = .own r ((o+d)::rest)/\w'.heap[k]?=w.heap[k]?) ->
  bj.length=cs.length->(∀j,j<o1\/o1+t1.sz<=j->bj[j]?=cs[j]?)->Own w' L' (SL L' none) r t1.depth t1 y [] (o+o1) ((bj.drop o1).take t1.sz) ->
  cd w L r m t x o cs->cd w' L' r (m ||| 2 ^ i) t x' o bj:=by
 have HS:∀k,SL L none k->SL L' none k/\w'.heap[k]?=w.heap[k]?:=by
  rintro k (hk|⟨_,_,hk,_⟩)
  ·exact⟨.inl (H1 k hk).1,(H1 k hk).2⟩
  ·cases hk
 intro t;induction t with
 | pair a b _ ih =>
  intro i m x x' o cs bj t1 y x1 o1 log hc hm H2 hl fJ hy h;have hlen:=cd.len h;obtain⟨c0,c1,rfl,h2,h3⟩:=h;have ke:=Own.len h2;cases i with
  | zero =>
   simp only[comp,Option.some.injEq,Prod.mk.injEq]at hc;obtain⟨rfl,hc⟩:=hc;cases hc;simp only[iT]at hm;obtain⟨z,l1,l2,rfl,hz,h5,_⟩:=M.an hm;obtain⟨e,rfl⟩:=Ym hz;subst h5;obtain⟨k1,k2⟩:=YK m;refine⟨bj.take a.sz,c1,?_,?_,?_⟩
   ·apply List.ext_getElem?;intro j;by_cases hj:j<a.sz
    ·rw[List.getElem?_append_left (by rw[List.length_take];simp only[List.length_append]at hl;omega),List.getElem?_take_of_lt hj]
    ·have hll:(bj.take a.sz).length=a.sz:=by rw[List.length_take];simp only[List.length_append]at hl;omega
     rw[List.getElem?_append_right (by omega),hll,fJ j (.inr (by omega)),List.getElem?_append_right (by omega),ke]
   ·rw[k1];simpa using hy
   ·rw[k2];refine cd.move H1 (λk d rest hd hk=>?_) h3;have:=H2 k (a.sz+d) rest (by simp only[Ty.sz];omega) (by omega) (by rw[hk,Nat.add_assoc])
    rwa [<-Nat.add_assoc]at this
  | succ i =>
   simp only[comp,Option.map_eq_some_iff]at hc;obtain⟨⟨o2,t2,x2⟩,hc,he⟩:=hc;simp only[Prod.mk.injEq]at he;obtain⟨rfl,he⟩:=he;cases he;simp only[iT]at hm;obtain⟨z,l1,l2,rfl,hz,h5,_⟩:=M.an hm;subst h5;obtain⟨k1,k2⟩:=amA m i;have VW:bj.length=a.sz+b.sz:=by rw[hl];simpa[Ty.sz]using hlen
   refine⟨c0,bj.drop a.sz,?_,?_,?_⟩
   ·apply List.ext_getElem?;intro j;by_cases hj:j<a.sz
    ·rw[List.getElem?_append_left (by omega),fJ j (.inl (by omega)),List.getElem?_append_left (by omega)]
    ·rw[List.getElem?_append_right (by omega),List.getElem?_drop,ke,show a.sz+(j - a.sz)=j by omega]
   ·rw[k1];exact Own.move HS (λk d rest hd hk=>H2 k d rest (by simp only[Ty.sz];omega) (by omega) hk) h2
   ·rw[k2];refine ih hc hz (λk d rest hd hn hk=>?_) ?_ (λj hj=>?_) ?_ h3
    ·have:=H2 k (a.sz+d) rest (by simp only[Ty.sz];omega) (by omega) (by rw[hk,Nat.add_assoc])
     rwa [<-Nat.add_assoc]at this
    ·simp only[List.length_append]at hl;rw[List.length_drop];omega
    ·rw[List.getElem?_drop,fJ _ (by omega),List.getElem?_append_right (by omega),ke,show a.sz+j - a.sz=j by omega]
    ·rw[List.drop_drop,<-Nat.add_assoc]at *
     exact hy
 | _ =>
  intro i m x x' o cs bj t1 y x1 o1 log hc hm H2 hl fJ hy h;cases i with
  | zero =>
   simp only[comp,Option.some.injEq,Prod.mk.injEq]at hc;obtain⟨rfl,hc⟩:=hc;cases hc;simp only[iT]at hm;obtain⟨e,rfl⟩:=Ym hm;have hlen:=cd.len h;simp only[cd];rw[(YK m).1];rw[List.drop_zero,List.take_of_length_le (by omega)]at hy;exact hy
  | succ i=>simp[comp]at hc
theorem Ye{m:Nat}{ta:Ty}{x:ta.den}:(nS m ta x).aL=true/\(nS m ta x).root=none:=by
 unfold nS;cases si m ta<;>exact⟨rfl,rfl⟩
theorem Zu[af](hI:Inv w0 L0 N vs T a w L)(hC:bD P C){o:Oper}{X:TypeId}{t off m0:Nat}{ta:Ty}{x0:ta.den}(ho:o.op = .store X (.tmp t) x)(ay:o.dst=none)
  (cV:∃g,a.eval (.tmp t) = .pointer (some ⟨g,off,none⟩)/\L g = .own r [])
  (dK:∃g cur e,a.tmps.getD r undef = .pointer (some ⟨g,0,none⟩)/\L g = .own r []/\w.heap[g]?=some (.cells cur e (0,0))/\cur.size=ta.sz/\cd w L r m0 ta x0 0 cur.toList)
  (bC:(T.getD r .dead).dE=false) (h:(CL C vs N kids X r i off m0 ta x0 x).ai T ups log):Step P o w0 L0 N vs (ah T ups) a w:=by
 unfold CL at h;split at h
 ·rename_i s;obtain⟨aF,rfl,h⟩:=h;generalize hv:T.getD s .dead=v at h;dsimp only at h;split at h
  ·rename_i k t1 y;split at h
   ·rename_i o1 t2 x1 VD;split at h
    ·rename_i hc;obtain⟨rfl,rfl,oL,VI,hX,bc,bt,dr,Vx,kl⟩:=hc;obtain⟨x2,l1,l2,rfl,wh,h⟩:=M.an h;obtain⟨cN,log2,h⟩:=jQ h;obtain⟨rfl,_⟩:=h;have Ws:s∉vs:=λhm=>by rw[List.contains_iff_mem.2 hm]at bc;cases bc
     obtain⟨g,hp,hg⟩:=cV;obtain⟨g',cur,e,c1,c2,c3,c4,c5⟩:=dK;obtain rfl:=hI.inj g g' r _ hg c2;have iO:=hI.aV s;rw[hv]at iO;obtain⟨_,cs,hf,bP⟩:=iO;have dZ:=Own.one bP;have hlen:=Own.len bP;obtain⟨pT,_⟩:=cd.Un c5 VD;have bp:o1+t2.sz<=cur.size:=by rw[c4];exact pT
     have aN:(execOp a.eval o).run P w = .ok .skip (w.setRow g (putCells cur o1 cs)):=by
      have vR:Form t2 cs (a.eval (.tmp s)):=hf;simp[execOp,ho,hp,tA (hC X _ hX) c3 vR dZ hlen bp]
     have b9:s<N:=amb hI (by rw[hv];simp);have nH:∀z,z≠s->(T.getD z .dead).on r=true->∃p' t',T.getD z .dead = .ptr r p' t'/\shallow p'=true:=by
      intro z im ag;have hb:(T.getD z .dead).eE r=false:=cN z im;unfold V.eE at hb;rw[ag,Bool.true_and]at hb;generalize T.getD z .dead=v at hb ag;cases v with
      | ptr r2 p2 t2 =>
       have:r2=r:=by simpa[V.on,V.root]using ag
       subst this;exact⟨p2,t2,rfl,by simpa using hb⟩
      | _=>simp at hb
     have bI:(ah T [(r,nS (m0 ||| 2 ^ i) ta x2),(s,.dead)]).getD s .dead = .dead:=by
      show ((T.set r _).set s _).getD s .dead=_;rw[aH,if_pos ⟨rfl,by simp[hI.len,b9]⟩]
     have bE:(ah T [(r,nS (m0 ||| 2 ^ i) ta x2),(s,.dead)]).getD r .dead=nS (m0 ||| 2 ^ i) ta x2:=by
      show ((T.set r _).set s _).getD r .dead=_;rw[aH,if_neg (λh=>bt h.1.symm),aH,if_pos ⟨rfl,by rw[hI.len];exact dr⟩]
     have bq:∀z,z≠r->z≠s->(ah T [(r,nS (m0 ||| 2 ^ i) ta x2),(s,.dead)]).getD z .dead=T.getD z .dead:=by
      intro z h1 h2;show ((T.set r _).set s _).getD z .dead=_;rw[aH,if_neg (λh=>h2 h.1),aH,if_neg (λh=>h1 h.1)]
     have cW:some s≠some r:=by simpa using bt
     have lg:∀k,k≠g->(w.setRow g (putCells cur o1 cs)).heap[k]?=w.heap[k]?:=λk hk=>setRow_other w g k _ hk;have jX:fF (dO r [] o1 t2.sz t2.depth (some s)) (λz=>z=r\/z=s\/(T.getD z .dead).on r=true):=Zq cW (.inl rfl) (λs' h=>by cases h;exact .inr (.inl rfl));have I8:∀kk z,L kk = .own r z->¬kQ [] o1 t2.sz z->aS (dO r [] o1 t2.sz t2.depth (some s)) w L (λ_=>.free) kk = .own r z:=by
      intro kk z hk hu;rw[cX hI (by rw[hk];simp),hk];simp only[eN,dO];rw[if_pos trivial,if_neg];intro h;simp only[Bool.and_eq_true]at h;exact hu (qN.1 h.2)
     have gi:∀{q},kQ [] o1 t2.sz q->q≠[]:=by
      rintro q ⟨d,rest,_,rfl⟩ h;simp at h
     have gH:aS (dO r [] o1 t2.sz t2.depth (some s)) w L (λ_=>.free) g = .own r []:=I8 g [] hg (λh=>gi h rfl);intro K Q hK;unfold Oper.wp;rw[aN,Oper.upon_skip,ay];refine hK a _ (aS (dO r [] o1 t2.sz t2.depth (some s)) w L (λ_=>.free)) ?_;refine Inv.gP (X:=λz=>z=r\/z=s\/(T.getD z .dead).on r=true) hI jX ?_ (λ_ _ _ _ _ h=>by cases h) hI.size (by rw[cF,hI.len]) hI.dP ?_ ?_ ?_ ?_ ?_
     ·refine⟨rfl,rfl,rfl,by simp[World.setRow],Nat.le_refl _,λkk hk hx=>lg kk ?_,λ_ _=>rfl,λ_ _ _ _ h=>by cases h⟩
      rintro rfl
      exact hx r _ hg (.inl rfl)
     ·intro kk z q sw h;by_cases h1:z=r
      ·subst h1;rw[bE];exact Ye.1
      ·unfold aS at h;split at h
       ·obtain⟨s0,q0,e0,f0⟩:=eV h;rcases qJ cW f0 with⟨_,rfl,_⟩|⟨_,rfl,_⟩|⟨h2,h3,rfl,rfl⟩
        ·exact absurd rfl h1
        ·exact absurd rfl h1
        ·have h3:z≠s:=λe=>h3 (by rw[e]);rw[bq z h1 h3];exact hI.owner kk z q e0
       ·cases h
     ·intro z r' bW ag aW;have bW:=not_or.1 bW;have ff:=not_or.1 bW.2;rcases aW with rfl|rfl|aW
      ·exact absurd ag ff.2
      ·exact absurd (hI.roots z r' ag) Ws
      ·by_cases h2:r'=s
       ·subst h2;exact absurd (hI.roots z r' ag) Ws
       ·obtain⟨p',t',he,_⟩:=nH r' h2 aW;rw[he];rfl
     ·intro z bW;have bW:=not_or.1 bW;have ff:=not_or.1 bW.2;exact⟨bq z bW.1 ff.1,rfl⟩
     ·intro z r' bW ag;by_cases h1:z=r
      ·subst h1;rw[bE]at ag;simp[V.on,Ye.2]at ag
      ·by_cases h2:z=s
       ·subst h2;rw[bI]at ag;simp[V.on,V.root]at ag
       ·rw[bq z h1 h2]at ag;exact hI.roots z r' ag
     ·intro z bW;by_cases h1:z=r
      ·subst h1;rw[bE];have mb:cd (w.setRow g (putCells cur o1 cs)) (aS (dO z [] o1 t2.sz t2.depth (some s)) w L (λ_=>.free)) z (m0 ||| 2 ^ i) ta x2 0 (putCells cur o1 cs).toList:=by
        refine cd.mod (λkk hk=>⟨ez hI hk,lg kk (by rintro rfl;rw[hg]at hk;cases hk)⟩) VD wh (λkk d rest hd hn hk=>?_) ?_ (λj hj=>?_) ?_ c5
        ·refine⟨I8 kk _ hk (λhu=>?_),lg kk (by rintro rfl;rw[hg]at hk;injection hk with _ hk;cases hk)⟩;obtain⟨d',fD,oK,he⟩:=hu;simp only[List.nil_append,List.cons.injEq]at he;omega
        ·have:=C6 (cur:=cur) (o:=o1) (cs:=cs) (by omega);simpa using this
        ·have:=C5 (cur:=cur) (o:=o1) (cs:=cs) (by omega) j (by omega);simpa using this
        ·have pS:=C4 (cur:=cur) (o:=o1) (cs:=cs) (by omega);rw[hlen]at pS;rw[pS];refine Own.fi VI (λkk hk=>?_) (λkk d rest hd hk=>?_) bP
         ·rcases hk with hk|⟨_,_,hk,_⟩
          ·exact⟨.inl (ez hI hk),lg kk (by rintro rfl;rw[hg]at hk;cases hk)⟩
          ·cases hk
         ·have hh:aS (dO z [] o1 t2.sz t2.depth (some s)) w L (λ_=>.free) kk=if rest.length<t2.depth then .own z ((o1+d)::rest)else .aq:=by
           rw[cX hI (by rw[hk];simp),hk];simp only[eN,dO,List.nil_append,Nat.zero_add];rw[if_neg bt,if_pos trivial,if_pos hd]
          refine⟨lg kk (by rintro rfl;rw[hg]at hk;injection hk with hk _;exact bt hk.symm),λhl=>?_,λhl=>.inl ?_⟩
          ·rw[hh,if_pos hl];simp
          ·show aS _ _ _ _ kk=_;rw[hh,if_neg (by omega)]
       have VL:=setRow_heap w g cur (putCells cur o1 cs) e (0,0) c3;have Wp:=C6 (cur:=cur) (o:=o1) (cs:=cs) (by omega);unfold nS;cases hfu:si (m0 ||| 2 ^ i) ta with
       | true =>
        refine⟨by simp,g,putCells cur o1 cs,e,c1,gH,VL,by rw[Wp];exact c4,?_⟩;simp only[Own];exact cd.full (Nat.le_refl _) hfu mb
       | false=>exact⟨g,putCells cur o1 cs,e,c1,gH,VL,by rw[Wp];exact c4,mb⟩
      ·by_cases h2:z=s
       ·subst h2;rw[bI];trivial
       ·have ag:(T.getD z .dead).on r=true:=by
         rcases bW with h|h|h
         ·exact absurd h h1
         ·exact absurd h h2
         ·exact h
        rw[bq z h1 h2];obtain⟨p',t',he,ey⟩:=nH z h2 ag;have p9:=hI.aV z;rw[he]at p9 ⊢;obtain⟨g2,j1,j2⟩:=p9;refine⟨g2,j1,?_⟩;rw[qF ey]at j2 ⊢;exact I8 g2 [] j2 (λh=>gi h rfl)
    ·exact h.elim
   ·exact h.elim
  ·exact h.elim
 ·exact h.elim
theorem an6[af](hI:Inv w0 L0 N vs T a w L)(hC:bD P C){t:Nat}(ho:o.op = .store X (.tmp t) x)(ay:o.dst=none)
  (ht:addrOf t (T.getD t .dead)=some (r,p)) (cV:∀r p,addrOf t (T.getD t .dead)=some (r,p)->∃g,a.eval (.tmp t) = .pointer (some ⟨g,(node [] 0 p).2,none⟩)/\L g = .own r (node [] 0 p).1)
  (hr:T.getD r .dead=u) (h:(J9 C vs N kids X r p u x m).ai T ups log) (hm:∀log,m.ai T ups log->Step P o w0 L0 N vs (ah T ups) a w):Step P o w0 L0 N vs (ah T ups) a w:=by
 unfold J9 at h;split at h
 ·rename_i i off;have I0:=cV r _ ht;simp only[node,Nat.zero_add]at I0;have bb:=hI.aV r;rw[hr]at bb;split at h
  ·rename_i ta x0;obtain⟨_,g,cur,e,h1,h2,h3,h4,h5⟩:=bb;simp only[Own]at h5;exact Zu (ta:=ta) (x0:=x0) hI hC ho ay I0 ⟨g,cur,e,h1,h2,h3,h4,cd.of0 (t:=ta) h5⟩ (by rw[hr];rfl) h
  ·rename_i m0 ta x0;exact Zu hI hC ho ay I0 bb (by rw[hr];rfl) h
  ·exact hm _ h
 ·exact hm _ h
end
def xc(r:Nat)(v:V):Bool := !v.eE r||(match v with
 | .ptr _ _ _=>true
 | .view _ [] _=>true
 | _=>false)
def JW{α:Type}(r:Nat):List Nat->M α->M α
 | [],m=>m
 | k::l,m=>.get k λv=>.bm (xc r v) (JW r l m)
def K8(C:Ctx)(N:Nat)(kids:List Nat)(X:TypeId)(r:Nat)(p:List St)(u:V)(x:Operand)(m:M (List (Nat×V))):M (List (Nat×V)):=
 (dG p u).bind λz =>
  if z.2.t.depth=0/\u.dE=true/\C.ty X=some z.2.t/\(u.root != some r)=true/\r<N/\r<100000 then
   (cI C X x).bind λv=>match v with
   | .d none _ t' y=>if h:t'=z.2.t then (fY p u z.2.t (h▸y)).bind λu'=>JW r kids (.ask (vn r (jA false (r::kids))) (.ret [(r,u')]))else .fail
   | _=>.fail
  else m
section
variable{P:Program}{C:Ctx}{w w' w0:World}{S S':Nat->Prop}{L L' L0:Nat->aj}{s N:Nat}{vs:List Nat}{T T':List V}{tm tm':Array Value}{a:Act}
theorem XK{α:Type}{m:M α}{x:α}:{l:List Nat}->{log:List Nat}->(JW r l m).ai T x log->(∀k∈l,xc r (T.getD k .dead)=true)/\∃aF,m.ai T x aF
 | [],log,h=>⟨by simp,log,h⟩
 | k::l,log,h=>by
  obtain⟨aF,rfl,hc,h⟩:=h;obtain⟨h1,h2⟩:=XK (l:=l) h;refine⟨λk' aI=>?_,h2⟩;rcases List.mem_cons.1 aI with rfl|aI
  ·exact hc
  ·exact h1 k' aI
theorem aoa[af](hI:Inv w0 L0 N vs T a w L)(hC:bD P C){m:M (List (Nat×V))}(ho:o.op = .store X (.tmp t) x)(ay:o.dst=none)
  (ht:addrOf t (T.getD t .dead)=some (r,p)) (cV:∀r p,addrOf t (T.getD t .dead)=some (r,p)->∃g,a.eval (.tmp t) = .pointer (some ⟨g,(node [] 0 p).2,none⟩)/\L g = .own r (node [] 0 p).1)
  (hr:T.getD r .dead=u) (h:(K8 C N kids X r p u x m).ai T ups log) (hm:∀log,m.ai T ups log->Step P o w0 L0 N vs (ah T ups) a w):Step P o w0 L0 N vs (ah T ups) a w:=by
 obtain⟨⟨l,n',t',x'⟩,l1,l2,rfl,hz,h⟩:=M.an h;dsimp only at h;split at h
 ·rename_i hc;obtain⟨hd,nL,hX,mn,dr,Jk⟩:=hc;clear hm;obtain⟨v,l3,l4,rfl,hv,h⟩:=M.an h;split at h
  ·rename_i k tv y;split at h
   ·rename_i qa;subst qa;obtain⟨u',l5,l6,rfl,wh,h⟩:=M.an h;obtain⟨I6,log2,h⟩:=XK h;obtain⟨⟨hq,_⟩,fK,rfl,h⟩:=h;obtain⟨rfl,_⟩:=h;have az:∀z,z≠r->xc r (T.getD z .dead)=true:=by
     intro z hz;by_cases hm:z∈kids
     ·exact I6 z hm
     ·have:=HK Jk hq z (wW (by simp[hz,hm]));rw[wX]at this;have this:(T.getD z .dead).eE r=false:=this;unfold xc;rw[this];rfl
    obtain⟨g,pW,hg⟩:=cV r p ht;have bb:=hI.aV r;rw[hr]at bb;obtain⟨⟨g',cur,e,k1,k2,k3,k4⟩,_,_,ik,lZ⟩:=lq hz bb;obtain rfl:=hI.inj g g' r _ hg k1;have ef:∃cs s0,Form tv cs (a.eval x)/\Own w L (SL L none) s0 k tv y [] 0 cs:=by
     rcases kB hI hv with⟨s,rfl,_,hs⟩|⟨_,hs⟩
     ·obtain⟨_,cs,hf,bP⟩:=hs;exact⟨cs,s,hf,bP⟩
     ·obtain⟨_,cs,hf,bP⟩:=hs L T a.tmps 0 w;exact⟨cs,0,hf,bP⟩
    obtain⟨cs,s0,hf,bP⟩:=ef;have dZ:=Own.one bP;have hlen:=Own.len bP;have aN:(execOp a.eval o).run P w = .ok .skip (w.setRow g (putCells cur (node [] 0 p).2 cs)):=by
     simp[execOp,ho,pW,tA (hC X _ hX) k2 hf dZ hlen k3]
    have bE:(ah T [(r,u')]).getD r .dead=u':=by
     show (T.set r u').getD r .dead=u';rw[aH,if_pos ⟨rfl,by rw[hI.len];exact dr⟩]
    have bq:∀z,z≠r->(ah T [(r,u')]).getD z .dead=T.getD z .dead:=by
     intro z hz;show (T.set r u').getD z .dead=_;rw[aH,if_neg (λh=>hz h.1)]
    intro K Q hK;unfold Oper.wp;rw[aN,Oper.upon_skip,ay];refine hK a _ _ (Inv.store (m:=n') (src:=none) hI hr hz wh (by simpa using mn) hg k2 k3 hlen (by simp) (by rw[cF,hI.len]) bE ?_ (λz hz _ _=>bq z hz) (Own.flat hd bP));intro z hz _ ag;refine .inr ⟨bq z hz,?_⟩;have hk:=az z hz;unfold xc V.eE at hk;rw[ag,Bool.true_and]at hk;generalize T.getD z .dead=vz at hk ag;cases vz with
    | ptr r2 p2 t2=>exact .inl rfl
    | view r2 p2 t2 =>
     cases p2 with
     | nil=>exact .inl (by simpa[ca]using nL)
     | cons _ _=>simp at hk
    | _=>simp at hk
   ·exact h.elim
  ·exact h.elim
 ·exact hm _ h
end
def qg(N:Nat):List Nat->M (List (Nat×V))->M (List (Nat×V))
 | [],m=>m
 | s::l,m=>.get s λv=>match v with
  | .d none n t x =>
   if n≠0/\t.depth≠0/\s<N then
    iB true s s [] (((qg N l m).eU [(s,.d none 0 t x)]).bind λups=>.ret ((s,.d none 0 t x)::ups))
   else qg N l m
  | _=>qg N l m
def tf(lev N:Nat):List Nat->M (List (Nat×V))->M (List (Nat×V))
 | [],m=>m
 | s::l,m=>.get s λv=>cond (v.qi&&v.root.isNone&&decide (lev<v.lvl)&&decide (s<N))
   (iB true s s [] (((tf lev N l m).eU [(s,fI lev v)]).bind λups=>.ret ((s,fI lev v)::ups)))
   (tf lev N l m)
section
variable{P:Program}{C:Ctx}{w w' w0:World}{L L' L0:Nat->aj}{s N:Nat}{vs:List Nat}{a:Act}
theorem wL[af]:{l:List Nat}->{T:List V}->{L:Nat->aj}->{ups:List (Nat×V)}->{log:List Nat}->Inv w0 L0 N vs T a w L->(qg N l m).ai T ups log ->
  ∃T1 L1 bH log2,Inv w0 L0 N vs T1 a w L1/\m.ai T1 bH log2/\ah T ups=ah T1 bH
 | [],T,L,ups,log,hI,h=>⟨T,L,ups,log,hI,h,rfl⟩
 | s::l,T,L,ups,log,hI,h=>by
  simp only[qg]at h;obtain⟨aF,rfl,h⟩:=h;dsimp only at h;split at h
  ·rename_i n t x hv;split at h
   ·rename_i hc;obtain⟨hn,hd,b9⟩:=hc;obtain⟨cN,log2,h⟩:=jQ h;obtain⟨bH,l3,l4,rfl,h1,h2⟩:=M.an h;obtain⟨rfl,_⟩:=h2;have bb:s<T.length:=by rw[hI.len];exact b9
    have nE:∀z,(T.set s (.d none 0 t x)).getD z .dead=(eK [(s,.d none 0 t x)] z).getD (T.getD z .dead):=λz=>by
     simp only[eK];rw[aH];by_cases h1:z=s
     ·subst h1;simp[bb]
     ·have e1:(s==z)=false:=by simpa using Ne.symm h1
      rw[e1];simp[h1]
    obtain⟨fK,h1⟩:=oY (T':=T.set s (.d none 0 t x)) (by simp) (λz hz=>by
     simp only[List.map_cons,List.map_nil,List.mem_cons,List.not_mem_nil,or_false]at hz;rw[hz];exact bb) nE _ h1
    obtain⟨L1,bu⟩:=Inv.freeze (T':=T.set s (.d none 0 t x)) hI (X:=λz=>z==s) (lev:=λ_=>0) (λz r hr=>by
      have hr:r=s:=by simpa using hr
      subst hr;by_cases hz:z=r
      ·subst hz;rw[hv];rfl
      ·simpa using cN z hz) (λz hz=>by
      have hz:z=s:=by simpa using hz
      subst hz;rw[hv];rfl) (λz _=>Nat.zero_le _) (by simp[hI.len]) (λz=>by
      rw[aH];by_cases hz:z=s
      ·subst hz;rw[if_pos ⟨rfl,bb⟩,hv];simp[fI]
      ·have:(z==s)=false:=by simpa using hz
       rw[if_neg (λh=>hz h.1),this];rfl)
    obtain⟨T1,L2,jF,jz,k1,k2,k3⟩:=wL bu h1;exact⟨T1,L2,jF,jz,k1,k2,k3⟩
   ·exact wL hI h
  ·exact wL hI h
theorem CG[af]{lev:Nat}:{l:List Nat}->{T:List V}->{L:Nat->aj}->{ups:List (Nat×V)}->{log:List Nat}->Inv w0 L0 N vs T a w L->(tf lev N l m).ai T ups log ->
  ∃T1 L1 bH log2,Inv w0 L0 N vs T1 a w L1/\m.ai T1 bH log2/\ah T ups=ah T1 bH
 | [],T,L,ups,log,hI,h=>⟨T,L,ups,log,hI,h,rfl⟩
 | s::l,T,L,ups,log,hI,h=>by
  simp only[tf]at h;obtain⟨aF,rfl,h⟩:=h;dsimp only at h;cases hc:((T.getD s .dead).qi&&(T.getD s .dead).root.isNone&&decide (lev<(T.getD s .dead).lvl)&&decide (s<N))with
  | false =>
   rw[hc,cond_false]at h;exact CG hI h
  | true =>
   rw[hc,cond_true]at h;simp only[Bool.and_eq_true,decide_eq_true_eq]at hc;obtain⟨⟨⟨hn,wC⟩,hd⟩,b9⟩:=hc;obtain⟨cN,log2,h⟩:=jQ h;obtain⟨bH,l3,l4,rfl,h1,h2⟩:=M.an h;obtain⟨rfl,_⟩:=h2;have bb:s<T.length:=by rw[hI.len];exact b9
   have nE:∀z,(T.set s (fI lev (T.getD s .dead))).getD z .dead=(eK [(s,fI lev (T.getD s .dead))] z).getD (T.getD z .dead):=λz=>by
    simp only[eK];rw[aH];by_cases h1:z=s
    ·subst h1;simp[bb]
    ·have e1:(s==z)=false:=by simpa using Ne.symm h1
     rw[e1];simp[h1]
   obtain⟨fK,h1⟩:=oY (T':=T.set s (fI lev (T.getD s .dead))) (by simp) (λz hz=>by
    simp only[List.map_cons,List.map_nil,List.mem_cons,List.not_mem_nil,or_false]at hz;rw[hz];exact bb) nE _ h1
   have mn:(T.getD s .dead).on s=false:=by
    unfold V.on;rw[Option.isNone_iff_eq_none.1 wC];rfl
   obtain⟨L1,bu⟩:=Inv.freeze (T':=T.set s (fI lev (T.getD s .dead))) hI (X:=λz=>z==s) (lev:=λ_=>lev) (λz r hr=>by
     have hr:r=s:=by simpa using hr
     subst hr;by_cases hz:z=r
     ·subst hz;exact mn
     ·simpa using cN z hz) (λz hz=>by
     have hz:z=s:=by simpa using hz
     subst hz;exact hn) (λz hz=>by
     have hz:z=s:=by simpa using hz
     subst hz;exact Nat.le_of_lt hd) (by simp[hI.len]) (λz=>by
     rw[aH];by_cases hz:z=s
     ·subst hz;rw[if_pos ⟨rfl,bb⟩];simp
     ·have:(z==s)=false:=by simpa using hz
      rw[if_neg (λh=>hz h.1),this];rfl)
   obtain⟨T1,L2,jF,jz,k1,k2,k3⟩:=CG bu h1;exact⟨T1,L2,jF,jz,k1,k2,k3⟩
end
def r9(s:Nat):V->M (Nat×D)
 | .box none k t' y=>.ret (s,⟨k,t',y⟩)
 | .ptr r [] _=>.get r λu=>match u with
  | .box none k t' y=>.ret (r,⟨k,t',y⟩)
  | _=>.fail
 | _=>.fail
def KE(t:Ty)(n:Nat)(x:Operand):M (t.den×Nat):=
 match x with
 | .tmp s=>.get s λv=>(r9 s v).bind λz=>if h:z.2.t=t then (if z.2.n=n then .ret (h▸z.2.x,z.1)else .fail)else .fail
 | _=>.fail
def r6(C:Ctx):Nat->(ps:List (Ty×Mode))->List Operand->M (lI ps)
 | _,[],[]=>.ret ⟨(),[],[]⟩
 | i,(t,.ro)::ps,x::xs=>(pB C t x).bind λy=>(r6 C (i+1) ps xs).bind λr=>.ret ⟨(y.1,r.x),y.2++r.ls,r.mu⟩
 | i,(t,.ptr n)::ps,x::xs=>(KE t n x).bind λy=>(r6 C (i+1) ps xs).bind λr=>.ret ⟨(y.1,r.x),r.ls,(y.2,i)::r.mu⟩
 | _,_,_=>.fail
def w5:(ps:List (Ty×Mode))->(cG ps).den->Option V
 | [],_=>none
 | (t,.ptr n)::_,x=>some (.box none n t x.1)
 | (_,.mut _)::_,_=>none
 | (_,.bV _)::_,_=>none
 | (_,.ro)::ps,x=>w5 ps x
def pO:List (Ty×Mode)->Bool
 | []=>true
 | (t,.ptr n)::ps=>decide (t.depth<=n)&&pO ps
 | _::ps=>pO ps
def cw(r d:Nat):Nat->V->Bool:=λz v=>v.on r&&z != r&&z != d
def HW(C:Ctx)(bh:cU)(vs:List Nat)(N d:Nat)(f:FuncId)(args:List Operand):M (List (Nat×V)):=
 match bh f with
 | none=>.fail
 | some F=>(r6 C 0 F.ps args).bind λA=>match A.mu with
  | [(r0,_)]=>cond (A.ls.contains r0 || !decide (r0<N) || !(A.ls.isEmpty||pO F.ps)) .fail (.cJ (.pair (cS F.rs) (cG F.ps)) (F.ao A.x) λr=>match mG vs A.ls F.rs r.1,w5 F.ps r.2 with
   | some v,some u'=>(allM 0 N).bind λTs=>.bm (ni (cw r0 d) 0 Ts) (.ret (((r0,u')::ch (cw r0 d) 0 Ts)++[(d,v)]))
   | _,_=>.fail)
  | _=>.fail
def HA:List (Ty×Mode)->Bool
 | []=>false
 | (_,.ptr _)::_=>true
 | _::ps=>HA ps
def HY(C:Ctx)(bh:cU)(vs:List Nat)(N d:Nat)(f:FuncId)(args:List Operand):M (List (Nat×V)):=
 match bh f with
 | none=>.fail
 | some F=>cond (HA F.ps) (HW C bh vs N d f args) (HX C bh vs N d f args)
section
variable{P:Program}{C:Ctx}{w w' w0:World}{S S':Nat->Prop}{L L' L0:Nat->aj}{s N:Nat}{vs:List Nat}{T T':List V}{tm tm':Array Value}{a:Act}
theorem TX[af](hI:Inv w0 L0 N vs T a w L){s:Nat}{z:D}(h:(r9 s (T.getD s .dead)).ai T (r,z) log):
  T.getD r .dead = .box none z.n z.t z.x/\a.tmps.getD s undef=a.tmps.getD r undef:=by
 have hs:=hI.aV s;generalize hv:T.getD s .dead=v at h hs;unfold r9 at h;split at h
 ·obtain⟨h,_⟩:=h;injection h with h1 h2;subst h1 h2;exact⟨hv,rfl⟩
 ·rename_i r' t';obtain⟨aF,rfl,h⟩:=h;have hr:=hI.aV r';generalize hu:T.getD r' .dead=u at h hr;dsimp only at h;split at h
  ·obtain⟨h,_⟩:=h;injection h with h1 h2;subst h1 h2;obtain⟨g,e1,e2⟩:=hs;obtain⟨_,g',cur,e,e3,e4,_⟩:=hr;obtain rfl:=hI.inj g g' _ _ e2 e4;exact⟨hu,by rw[e1,e3];rfl⟩
  ·exact h.elim
 ·exact h.elim
theorem amK[af](hI:Inv w0 L0 N vs T a w L){t:Ty}{y:t.den}(h:(KE t n x).ai T (y,r) log):
  T.getD r .dead = .box none n t y/\a.eval x=a.tmps.getD r undef:=by
 unfold KE at h;split at h
 ·rename_i s;obtain⟨aF,rfl,h⟩:=h;have hb:=M.an (m:=r9 s (T.getD s .dead)) h;clear h;obtain⟨⟨r',z⟩,l1,l2,rfl,h1,h⟩:=hb;obtain⟨k1,k2⟩:=TX hI h1;obtain⟨n',t',y'⟩:=z;dsimp only at h k1;split at h
  ·rename_i ht;subst ht;split at h
   ·rename_i hk;subst hk;obtain⟨h,_⟩:=h;injection h with h1 h2;subst h1 h2;exact⟨k1,k2⟩
   ·exact h.elim
  ·exact h.elim
 ·exact h.elim
theorem HI[af](hI:Inv w0 L0 N vs T a w L):{ps:List (Ty×Mode)}->{i:Nat}->{xs:List Operand}->{A:lI ps}->{log:List Nat}->(r6 C i ps xs).ai T A log ->
  (∀r∈A.ls,(T.getD r .dead).deep=true)/\(∀r j,(r,j)∈A.mu->i<=j/\∃t n y,ps[j - i]?=some (t,.ptr n)/\T.getD r .dead = .box none n t y/\(xs.map a.eval)[j - i]?=some (a.tmps.getD r undef)) /\
  (∀j t m,ps[j]?=some (t,m)->m.back=true->∃r,(r,i+j)∈A.mu) /\
  ∀L1:Nat->aj,(∀k,L k = .aq->L1 k = .aq)->(∀k r q,r∈A.ls->L k = .own r q->L1 k = .aq)->(∀k r j q,(r,j)∈A.mu->L k = .own r q->L1 k = .own j q)->dV w L1 i ps A.x (xs.map a.eval)
 | [],i,[],A,log,h=>by
  obtain⟨rfl,_⟩:=h;exact⟨by simp,by simp,by simp,λ_ _ _ _=>rfl⟩
 | (t,.ro)::ps,i,x::xs,A,log,h=>by
  simp only[r6]at h;obtain⟨⟨y,ls⟩,l1,l2,rfl,h1,h⟩:=M.an h;obtain⟨A',l3,l4,rfl,h2,h⟩:=M.an h;obtain⟨rfl,_⟩:=h;obtain⟨cells,k1,k2,k3⟩:=vi hI h1;obtain⟨j1,j2,j4,j3⟩:=HI hI h2;refine⟨λr hr=>?_,λr j hm=>?_,λj t' n hj bn=>?_,λL1 H1 H2 H3=>?_⟩
  ·rcases List.mem_append.1 hr with hr|hr
   ·exact k2 r hr
   ·exact j1 r hr
  ·obtain⟨hi,t',n',y',e1,e2,e3⟩:=j2 r j hm;have:j - i=(j - (i+1))+1:=by omega
   exact⟨by omega,t',n',y',by rw[this];simpa using e1,e2,by rw[this];simpa using e3⟩
  ·cases j with
   | zero =>
    simp only[List.getElem?_cons_zero,Option.some.injEq,Prod.mk.injEq]at hj;rw[<-hj.2]at bn;cases bn
   | succ j =>
    obtain⟨r,hr⟩:=j4 j t' n (by simpa using hj) bn;exact⟨r,by rw[show i+(j+1)=i+1+j by omega];exact hr⟩
  ·exact⟨a.eval x,_,cells,rfl,k1,Own.dN (k3 _ H1 (λk r q hr hk=>H2 k r q (List.mem_append_left _ hr) hk)),j3 L1 H1 (λk r q hr hk=>H2 k r q (List.mem_append_right _ hr) hk) H3⟩
 | (t,.ptr n)::ps,i,x::xs,A,log,h=>by
  simp only[r6]at h;obtain⟨⟨y,r0⟩,l1,l2,rfl,h1,h⟩:=M.an h;obtain⟨A',l3,l4,rfl,h2,h⟩:=M.an h;obtain⟨rfl,_⟩:=h;obtain⟨k1,k4⟩:=amK hI h1;obtain⟨j1,j2,j4,j3⟩:=HI hI h2;refine⟨j1,λr j hm=>?_,λj t' n' hj bn=>?_,λL1 H1 H2 H3=>?_⟩
  ·rcases List.mem_cons.1 hm with hm|hm
   ·injection hm with e1 e2;subst e1 e2;exact⟨Nat.le_refl _,t,n,y,by simp,k1,by simp[k4]⟩
   ·obtain⟨hi,t',n',y',e1,e2,e3⟩:=j2 r j hm;have:j - i=(j - (i+1))+1:=by omega
    exact⟨by omega,t',n',y',by rw[this];simpa using e1,e2,by rw[this];simpa using e3⟩
  ·cases j with
   | zero=>exact⟨r0,by simp⟩
   | succ j =>
    obtain⟨r,hr⟩:=j4 j t' n' (by simpa using hj) bn;exact⟨r,by rw[show i+(j+1)=i+1+j by omega];exact List.mem_cons_of_mem _ hr⟩
  ·have hs:=hI.aV r0;rw[k1]at hs;obtain⟨_,g,cur,e,hf,hL,hg,hz,ho⟩:=hs;refine⟨a.eval x,_,rfl,⟨g,cur,e,by rw[k4];exact hf,H3 g r0 i _ (by simp) hL,hg,hz,?_⟩,j3 L1 H1 H2 (λk r j q hm hk=>H3 k r j q (List.mem_cons_of_mem _ hm) hk)⟩;refine Own.move (λk hk=>⟨?_,rfl⟩) (λk d rest _ hk=>⟨H3 k r0 i _ (by simp) hk,rfl⟩) ho;rcases hk with hk|⟨_,_,hk,_⟩
   ·exact H1 k hk
   ·cases hk
 | [],_,_::_,_,_,h=>h.elim
 | (_,.ro)::_,_,[],_,_,h=>h.elim
 | (_,.mut _)::_,_,[],_,_,h=>h.elim
 | (_,.mut _)::_,_,_::_,_,_,h=>h.elim
 | (_,.ptr _)::_,_,[],_,_,h=>h.elim
 | (_,.bV _)::_,_,[],_,_,h=>h.elim
 | (_,.bV _)::_,_,_::_,_,_,h=>h.elim
theorem Yr:{ps:List (Ty×Mode)}->{i:Nat}->{x:(cG ps).den}->{cs:List Value}->{v:V}->fQ w L0 i ps x cs->w5 ps x=some v ->
  ∃j t n y c,ps[j]?=some (t,.ptr n)/\v = .box none n t y/\cs[j]?=some c/\tX w L0 (λk=>L0 k = .aq) (i+j) n t y c
 | [],_,_,_,_,_,hv=>by cases hv
 | (t,.mut n)::ps,i,x,cs,v,h,hv=>by cases hv
 | (t,.bV n)::ps,i,x,cs,v,h,hv=>by cases hv
 | (t,.ptr n)::ps,i,x,cs,v,h,hv=>by
  simp only[fQ]at h;obtain⟨c,bj,rfl,h1,_⟩:=h;simp only[w5,Option.some.injEq]at hv;exact⟨0,t,n,x.1,c,rfl,hv.symm,rfl,h1⟩
 | (t,.ro)::ps,i,x,cs,v,h,hv=>by
  simp only[fQ]at h;obtain⟨c,bj,rfl,h⟩:=h;simp only[w5]at hv;obtain⟨j,t',n,y,c',h1,h2,h3,h4⟩:=Yr h hv;exact⟨j+1,t',n,y,c',by simpa using h1,h2,by simpa using h3,by rw[show i+(j+1)=i+1+j by omega];exact h4⟩
theorem vE:{ps:List (Ty×Mode)}->pO ps=true->∀(j:Nat) (t:Ty) (n:Nat),ps[j]?=some (t,.ptr n)->t.depth<=n
 | [],_,j,t,n,hj=>by simp at hj
 | (t0,.ptr n0)::ps,h,j,t,n,hj=>by
  simp only[pO,Bool.and_eq_true,decide_eq_true_eq]at h;cases j with
  | zero =>
   simp only[List.getElem?_cons_zero,Option.some.injEq,Prod.mk.injEq,Mode.ptr.injEq]at hj;obtain⟨rfl,rfl⟩:=hj;exact h.1
  | succ j=>exact vE h.2 j t n (by simpa using hj)
 | (t0,.mut n0)::ps,h,j,t,n,hj=>by
  cases j with
  | zero=>simp at hj
  | succ j=>exact vE (ps:=ps) h j t n (by simpa using hj)
 | (t0,.ro)::ps,h,j,t,n,hj=>by
  cases j with
  | zero=>simp at hj
  | succ j=>exact vE (ps:=ps) h j t n (by simpa using hj)
 | (t0,.bV n0)::ps,h,j,t,n,hj=>by
  cases j with
  | zero=>simp at hj
  | succ j=>exact vE (ps:=ps) h j t n (by simpa using hj)
theorem ahL[af]{ls:List Nat}{ps:List (Ty×Mode)}{rs:List (Ty×Nat)}{m d:Nat}(hI:Inv w0 L0 N vs T a w L)(I5:i≠m)(ba:Left w w' (λk=>cL (some (r,i)) ls (L k)) L' ps rs):
  (∀k q',L' k = .own i q'->dH (some (r,i)) m d L L' k = .own r q') /\
  ∀{n:Nat} {t:Ty} {x:t.den} {q:List Nat} {o:Nat} {cs:List Value},(t.depth<=n\/ls=[]) ->
   Own w' L' (λk=>L' k = .aq) i n t x q o cs->Own w' (dH (some (r,i)) m d L L') (SL (dH (some (r,i)) m d L L') none) r n t x q o cs:=by
 have bw:∀k q',L' k = .own i q'->dH (some (r,i)) m d L L' k = .own r q':=by
  intro k q' hk;have hp:gw (some (r,i)) (L k):=by
   apply Classical.byContradiction;intro hp;have ax:k<w.heap.size:=hI.lt (λe=>hp (.inl e));have h9:=(ba.aR k ax (kH hp)).1;rw[hk]at h9;rcases kH (ls:=ls) hp with h|h<;>rw[h]at h9<;>cases h9
  rw[jP hp,hk];simp[nk,I5]
 refine⟨bw,λ{n t x q o cs} hl h=>?_⟩;rcases hl with hl|hl
 ·exact Own.move (S:=λ_=>False) (λk hk=>hk.elim) (λk dd rest _ hk=>⟨bw k _ hk,rfl⟩) (Own.full hl h)
 ·subst hl;refine Own.move (λk hk=>⟨.inl ?_,rfl⟩) (λk dd rest _ hk=>⟨bw k _ hk,rfl⟩) h;by_cases hp:gw (some (r,i)) (L k)
  ·rw[jP hp,hk];rfl
  ·have ax:k<w.heap.size:=hI.lt (λe=>hp (.inl e));have h9:=(ba.aR k ax (kH hp)).1;rw[hk]at h9;rw[ot hp];cases ie:L k with
   | aq=>rfl
   | own s q' =>
    rw[ie]at h9;unfold cL at h9;dsimp only at h9;split at h9
    ·cases h9
    ·simp at h9
   | other=>rw[ie]at h9;cases h9
   | free=>exact absurd (.inl ie) hp
theorem anT[af](hI:Inv w0 L0 N vs T a w L)(ee:fw P bh){d:Nat}  
  (ho:o.op = .call { callee:=.value (.func f),args,argTypes:=cH }) (ay:o.dst=some d) (hd:d<N) (hid:(T.getD d .dead).idle=true)
  (h:(HW C bh vs N d f args.toList).ai T ups log):Step P o w0 L0 N vs (ah T ups) a w:=by
 unfold HW at h;split at h
 ·exact h.elim
 ·rename_i F hF;obtain⟨⟨fn,iL,gh,nt⟩,az⟩:=ee f F hF;have hb:=M.an h;clear h;obtain⟨A,l1,l2,rfl,h1,h⟩:=hb;obtain⟨ew,gg,pZ,hY⟩:=HI hI h1;have aN:=Go.Conc.run_call_body (P:=P) (a:=a) (w:=w) ho iL gh nt;have ma:∀r∈A.ls,r≠d:=λr hr=>df hid (V.fj (ew r hr));rcases fc:A.mu with _|⟨⟨r0,i⟩,_|⟨p2,rest⟩⟩
  ·rw[fc]at h;exact h.elim
  ·rw[fc]at h;dsimp only at h;cases hc:(A.ls.contains r0 || !decide (r0<N) || !(A.ls.isEmpty||pO F.ps))with
   | true=>rw[hc]at h;exact h.elim
   | false =>
    rw[hc]at h;obtain⟨r,fe,h⟩:=h;dsimp only at h;simp only[Bool.or_eq_false_iff,Bool.not_eq_false',decide_eq_true_eq]at hc;obtain⟨⟨eu,dr⟩,dJ⟩:=hc;have ju:r0∉A.ls:=λhm=>by rw[List.contains_iff_mem.2 hm]at eu;cases eu
    split at h
    ·rename_i v u' hv qc;obtain⟨Ts,l3,l4,rfl,dQ,jq,nM⟩:=M.an h;obtain⟨rfl,_⟩:=nM;have bI:Ts=T:=by rw[lL dQ (by rw[Nat.zero_add,hI.len])];rfl
     subst bI;obtain⟨_,t,n,y,h2,h5,h6⟩:=gg r0 i (by rw[fc];simp);simp only[Nat.sub_zero]at h2 h6;have sK:i<F.ps.length:=(List.getElem?_eq_some_iff.1 h2).1;have wB:r0≠d:=df hid (by rw[h5];rfl);have jt:∀(j:Nat) (t:Ty) (m:Mode),F.ps[j]?=some (t,m)->m.back=true->j=i:=by
      intro j t m hj hm;obtain⟨r',aW⟩:=pZ j t m hj hm;rw[fc]at aW;simp only[List.mem_singleton,Prod.mk.injEq]at aW;omega
     have nC:jL w (λk=>cL (some (r0,i)) A.ls (L k)) F.ps:=by
      refine⟨λk hk=>by rw[hI.free k hk];rfl,λk k' s q h h'=>?_,λk s q h=>?_,af.aR hI.fr.hG λk hk h0=>⟨?_,(hI.fr.aR k hk h0).2⟩⟩
      ·obtain⟨r1,e1,e2⟩:=lE h;obtain⟨r2,e3,e4⟩:=lE h';rw[e1]at e3;injection e3 with e3;injection e3 with e3 _;subst e3;exact hI.inj k k' _ _ e2 e4
      ·obtain⟨r1,e1,e2⟩:=lE h;injection e1 with e1;injection e1 with e1 e3;subst e1 e3;exact⟨t,.ptr n,h2,rfl⟩
      ·rw[(hI.fr.aR k hk h0).1];rcases h0 with h0|h0<;>rw[h0]<;>simp[cL]
     have dK:=hY (λk=>cL (some (r0,i)) A.ls (L k)) (λk hk=>by rw[hk];rfl) (λk r q hr hk=>by
      rw[hk];unfold cL;dsimp only;rw[if_neg (λe:r=r0=>ju (by rw[<-e];exact hr)),if_pos (by simpa using hr)]) (λk r j q hm hk=>by
      rw[hk];rw[fc]at hm;simp only[List.mem_singleton,Prod.mk.injEq]at hm;obtain⟨rfl,rfl⟩:=hm;simp[cL])
     intro K Q hK;unfold Oper.wp;rw[aN,Oper.upon_enter];refine Calls.mono (az A.x r fe w _ (args.map a.eval) nC (by simpa using dK)) ?_
     rintro e w' ⟨cs,L',rfl,ba,cj,kf⟩
     dsimp only;rw[ay];have kf:fQ w' L' 0 F.ps r.2 (args.toList.map a.eval):=by simpa using kf
     refine hK _ _ (dH (some (r0,i)) F.ps.length d L L') ?_;have hM:ah Ts (((r0,u')::ch (cw r0 d) 0 Ts)++[(d,v)])=(ah Ts ((r0,u')::ch (cw r0 d) 0 Ts)).set d v:=by
      rw[lx];rfl
     have nD:(ah Ts ((r0,u')::ch (cw r0 d) 0 Ts)).length=N:=by rw[cF,hI.len]
     have bT:(ah Ts (((r0,u')::ch (cw r0 d) 0 Ts)++[(d,v)])).getD d .dead=v:=by
      rw[hM,aH,if_pos ⟨rfl,by rw[nD];exact hd⟩]
     have bq:∀s,s≠d->(ah Ts (((r0,u')::ch (cw r0 d) 0 Ts)++[(d,v)])).getD s .dead=(ah Ts ((r0,u')::ch (cw r0 d) 0 Ts)).getD s .dead:=by
      intro s hs;rw[hM,aH,if_neg (λe=>hs e.1)]
     have eH:∀s v,(s,v)∈((r0,u')::ch (cw r0 d) 0 Ts)->(s=r0/\v=u')\/(v = .dead/\s≠r0/\(Ts.getD s .dead).on r0=true):=by
      intro s v hm;rcases List.mem_cons.1 hm with hm|hm
      ·injection hm with h1 h2;exact .inl ⟨h1,h2⟩
      ·obtain⟨h1,_,_,h2⟩:=(pJ s v).1 hm;simp only[Nat.sub_zero,cw,Bool.and_eq_true,bne_iff_ne]at h2;exact .inr ⟨h1,h2.1.2,h2.1.1⟩
     have bE:(ah Ts ((r0,u')::ch (cw r0 d) 0 Ts)).getD r0 .dead=u':=by
      refine iE (by rw[hI.len];exact dr) (by simp) (λv hm=>?_);rcases eH r0 v hm with⟨_,h⟩|⟨_,h,_⟩
      ·exact h
      ·exact absurd rfl h
     have oH:∀s,s≠d->s≠r0->(Ts.getD s .dead).on r0=true->(ah Ts ((r0,u')::ch (cw r0 d) 0 Ts)).getD s .dead = .dead/\(Ts.getD s .dead).aL=false:=by
      intro s bL hs ag;have il:s<N:=by
       rcases Nat.lt_or_ge s N with h|h
       ·exact h
       ·rw[eF (by rw[hI.len];exact h)]at ag;simp[V.on,V.root]at ag
      have hg:cw r0 d s (Ts.getD s .dead)=true:=by
       unfold cw;rw[ag];simp[hs,bL]
      refine⟨iE (by rw[hI.len];exact il) ?_ (λv hm=>?_),?_⟩
      ·rw[List.mem_map];exact⟨(s,.dead),List.mem_cons_of_mem _ ((pJ s .dead).2 ⟨rfl,Nat.zero_le _,by rw[Nat.zero_add,hI.len];exact il,by rw[Nat.sub_zero];exact hg⟩),rfl⟩
      ·rcases eH s v hm with⟨h,_⟩|⟨h,_⟩
       ·exact absurd h hs
       ·exact h
      ·exact BK jq s (by rw[hI.len];exact il) (by rw[Nat.zero_add];exact hg)
     have oG:∀s,s≠r0->(Ts.getD s .dead).on r0=false->(ah Ts ((r0,u')::ch (cw r0 d) 0 Ts)).getD s .dead=Ts.getD s .dead:=by
      intro s hs ag;refine fa _ _ _ (λhm=>?_);obtain⟨u,hu,he⟩:=List.mem_map.1 hm;rcases eH s u.2 (by rw[<-he];exact hu)with⟨h,_⟩|⟨_,_,h⟩
      ·exact hs h
      ·rw[ag]at h;cases h
     have we:∀r∈A.ls,((ah Ts (((r0,u')::ch (cw r0 d) 0 Ts)++[(d,v)])).getD r .dead).deep=true:=by
      intro r hr;have gm:r≠r0:=λe=>ju (e▸hr);have ho:=V.fj (ew r hr);rw[bq r (ma r hr)];cases ag:(Ts.getD r .dead).on r0 with
      | false=>rw[oG r gm ag];exact ew r hr
      | true =>
       have h:=(oH r (ma r hr) gm ag).2;rw[h]at ho;cases ho
     obtain⟨j,t',n',y',c',m1,m2,m3,g,cur,e,m4,m5,m6,m7,m8⟩:=Yr kf qc;have cO:=jt j t' _ m1 (by simp);subst cO;rw[h2]at m1;injection m1 with m1;injection m1 with m1 lj;injection lj with lj;subst m1 lj;rw[h6]at m3;injection m3 with m3;subst m3;rw[Nat.zero_add]at m5 m8;have Cj:j≠F.ps.length:=by omega
     obtain⟨b1,b2⟩:=ahL (d:=d) hI Cj ba;obtain⟨k1,k2,k3⟩:=xj (T':=ah Ts (((r0,u')::ch (cw r0 d) 0 Ts)++[(d,v)])) (d:=d) hI ba rfl we cj hv;have ai6:t.depth<=n\/A.ls=[]:=by
      simp only[Bool.or_eq_true,List.isEmpty_iff]at dJ;rcases dJ with h|h
      ·exact .inr h
      ·exact .inl (vE h j t n h2)
     refine Inv.H0 hI hd hid rfl (λr i h=>by injection h with h;injection h with _ h;subst h;exact sK) ba (by rw[cF,hI.len]) (λj' t n hj hm=>by rw[jt j' t n hj hm];rfl) ?_ ?_ ?_ bT k1 k2 (λr i h=>by injection h with h;injection h with h _;subst h;exact ju) k3
     ·intro r i h;injection h with h;injection h with h h';subst h h';rw[bq r0 wB,bE,m2];exact⟨by rw[h5];rfl,.inr rfl,rfl,by simp,g,cur,e,m4,b1 _ _ m5,m6,m7,b2 ai6 m8⟩
     ·intro s r i h bL bt ag;injection h with h;injection h with h h';subst h h';rw[bq s bL];exact .inl (oH s bL bt ag)
     ·intro s bL hs;obtain⟨e1,e2⟩:=hs r0 j rfl;rw[bq s bL];exact oG s e1 e2
    ·exact h.elim
  ·rw[fc]at h;exact h.elim
theorem anV[af](hI:Inv w0 L0 N vs T a w L)(ee:fw P bh)       
  (ho:o.op = .call { callee:=.value (.func f),args,argTypes:=cH }) (ay:o.dst=some d) (hd:d<N) (hid:(T.getD d .dead).idle=true)
  (h:(HY C bh vs N d f args.toList).ai T ups log):Step P o w0 L0 N vs (ah T ups) a w:=by
 unfold HY at h;split at h
 ·exact h.elim
 ·generalize HA _=b at h;cases b with
  | true=>exact anT hI ee ho ay hd hid h
  | false=>exact anU hI ee ho ay hd hid h
end
def Ir(t:Ty)(n:Nat)(x:Operand):M (t.den×Nat):=
 match x with
 | .tmp s=>.get s λv=>match v with
  | .view r [] _=>.get r λu=>match u with
   | .d none k t' y=>if h:t'=t then (if (t.depth<=k/\t.depth<=n\/k=n/\n≠0)/\t.depth≠0 then .ret (h▸y,r)else .fail)else .fail
   | _=>.fail
  | .d none k t' y=>if h:t'=t then (if (t.depth<=k/\t.depth<=n\/k=n/\n≠0)/\t.depth≠0 then .ret (h▸y,s)else .fail)else .fail
  | _=>.fail
 | _=>.fail
def r5(C:Ctx):Nat->(ps:List (Ty×Mode))->List Operand->M (lI ps)
 | _,[],[]=>.ret ⟨(),[],[]⟩
 | i,(t,.ro)::ps,x::xs=>(pB C t x).bind λy=>(r5 C (i+1) ps xs).bind λr=>.ret ⟨(y.1,r.x),y.2++r.ls,r.mu⟩
 | i,(t,.bV n)::ps,x::xs=>(Ir t n x).bind λy=>(r5 C (i+1) ps xs).bind λr=>.ret ⟨(y.1,r.x),r.ls,(y.2,i)::r.mu⟩
 | _,_,_=>.fail
def HV(C:Ctx)(bh:cU)(vs:List Nat)(N d:Nat)(f:FuncId)(args:List Operand):M (List (Nat×V)):=
 match bh f with
 | none=>.fail
 | some F=>(r5 C 0 F.ps args).bind λA=>match A.mu with
  | [(r0,_)]=>cond (A.ls.contains r0 || !decide (r0<N)) .fail (.cJ (.pair (cS F.rs) (cG F.ps)) (F.ao A.x) λr=>match mG vs A.ls F.rs r.1 with
   | some v=>cond (vs.contains r0) ((allM 0 N).bind λTs=>.bm (ni (cw r0 d) 0 Ts) (.ret (((r0,.dead)::ch (cw r0 d) 0 Ts)++[(d,v)]))) (.ret [(r0,.dead),(d,v)])
   | none=>.fail)
  | _=>.fail
def Hz:List (Ty×Mode)->Bool
 | []=>false
 | (_,.bV _)::_=>true
 | _::ps=>Hz ps
def HZ(C:Ctx)(bh:cU)(vs:List Nat)(N d:Nat)(f:FuncId)(args:List Operand):M (List (Nat×V)):=
 match bh f with
 | none=>.fail
 | some F=>cond (Hz F.ps) (HV C bh vs N d f args) (HY C bh vs N d f args)
section
variable{P:Program}{C:Ctx}{w w' w0:World}{S S':Nat->Prop}{L L' L0:Nat->aj}{s N:Nat}{vs:List Nat}{T T':List V}{tm tm':Array Value}{a:Act}
theorem ah1[af](hI:Inv w0 L0 N vs T a w L){t:Ty}{y:t.den}(h:(Ir t n x).ai T (y,r) log):
  ∃k,T.getD r .dead = .d none k t y/\(t.depth<=k/\t.depth<=n\/k=n/\n≠0)/\t.depth≠0/\a.eval x=a.tmps.getD r undef:=by
 unfold Ir at h;split at h
 ·rename_i s;obtain⟨aF,rfl,h⟩:=h;have hs:=hI.aV s;generalize hv:T.getD s .dead=v at h hs;dsimp only at h;split at h
  ·rename_i r' t2;obtain⟨log2,rfl,h⟩:=h;dsimp only at h;split at h
   ·rename_i n' t' y' hu;split at h
    ·rename_i ht;subst ht;split at h
     ·rename_i hc;obtain⟨hk,hd⟩:=hc;obtain⟨h,_⟩:=h;injection h with h1 h2;subst h1 h2;refine⟨n',hu,hk,hd,?_⟩;obtain⟨_,h1⟩:=hs;rcases h1 with⟨_,h2,_⟩|⟨_,_,_,h2,_⟩
      ·exact h2
      ·rw[hu]at h2;simp[V.dE]at h2
     ·exact h.elim
    ·exact h.elim
   ·exact h.elim
  ·rename_i n' t' y';split at h
   ·rename_i ht;subst ht;split at h
    ·rename_i hc;obtain⟨hk,hd⟩:=hc;obtain⟨h,_⟩:=h;injection h with h1 h2;subst h1 h2;exact⟨n',hv,hk,hd,rfl⟩
    ·exact h.elim
   ·exact h.elim
  ·exact h.elim
 ·exact h.elim
theorem HF[af](hI:Inv w0 L0 N vs T a w L):{ps:List (Ty×Mode)}->{i:Nat}->{xs:List Operand}->{A:lI ps}->{log:List Nat}->(r5 C i ps xs).ai T A log ->
  (∀r∈A.ls,(T.getD r .dead).deep=true)/\(∀r j,(r,j)∈A.mu->i<=j/\∃t n k y,ps[j - i]?=some (t,.bV n)/\T.getD r .dead = .d none k t y/\(t.depth<=k/\t.depth<=n\/k=n/\n≠0)/\t.depth≠0/\(xs.map a.eval)[j - i]?=some (a.tmps.getD r undef)) /\
  (∀(j:Nat) (t:Ty) (m:Mode),ps[j]?=some (t,m)->m.back=false) /\
  ∀L1:Nat->aj,(∀k,L k = .aq->L1 k = .aq)->(∀k r q,r∈A.ls->L k = .own r q->L1 k = .aq)->(∀k r j q,(r,j)∈A.mu->L k = .own r q->L1 k = .own j q)->dV w L1 i ps A.x (xs.map a.eval)
 | [],i,[],A,log,h=>by
  obtain⟨rfl,_⟩:=h;exact⟨by simp,by simp,by simp,λ_ _ _ _=>rfl⟩
 | (t,.ro)::ps,i,x::xs,A,log,h=>by
  simp only[r5]at h;obtain⟨⟨y,ls⟩,l1,l2,rfl,h1,h⟩:=M.an h;obtain⟨A',l3,l4,rfl,h2,h⟩:=M.an h;obtain⟨rfl,_⟩:=h;obtain⟨cells,k1,k2,k3⟩:=vi hI h1;obtain⟨j1,j2,j4,j3⟩:=HF hI h2;refine⟨λr hr=>?_,λr j hm=>?_,λj t' m hj=>?_,λL1 H1 H2 H3=>?_⟩
  ·rcases List.mem_append.1 hr with hr|hr
   ·exact k2 r hr
   ·exact j1 r hr
  ·obtain⟨hi,t',n',k',y',e1,e2,e3,e5,e6⟩:=j2 r j hm;have:j - i=(j - (i+1))+1:=by omega
   exact⟨by omega,t',n',k',y',by rw[this];simpa using e1,e2,e3,e5,by rw[this];simpa using e6⟩
  ·cases j with
   | zero =>
    simp only[List.getElem?_cons_zero,Option.some.injEq,Prod.mk.injEq]at hj;rw[<-hj.2];rfl
   | succ j=>exact j4 j t' m (by simpa using hj)
  ·exact⟨a.eval x,_,cells,rfl,k1,Own.dN (k3 _ H1 (λk r q hr hk=>H2 k r q (List.mem_append_left _ hr) hk)),j3 L1 H1 (λk r q hr hk=>H2 k r q (List.mem_append_right _ hr) hk) H3⟩
 | (t,.bV n)::ps,i,x::xs,A,log,h=>by
  simp only[r5]at h;obtain⟨⟨y,r0⟩,l1,l2,rfl,h1,h⟩:=M.an h;obtain⟨A',l3,l4,rfl,h2,h⟩:=M.an h;obtain⟨rfl,_⟩:=h;obtain⟨k0,k1,k2,k4,k5⟩:=ah1 hI h1;obtain⟨j1,j2,j4,j3⟩:=HF hI h2;refine⟨j1,λr j hm=>?_,λj t' m hj=>?_,λL1 H1 H2 H3=>?_⟩
  ·rcases List.mem_cons.1 hm with hm|hm
   ·injection hm with e1 e2;subst e1 e2;exact⟨Nat.le_refl _,t,n,k0,y,by simp,k1,k2,k4,by simp[k5]⟩
   ·obtain⟨hi,t',n',k',y',e1,e2,e3,e5,e6⟩:=j2 r j hm;have:j - i=(j - (i+1))+1:=by omega
    exact⟨by omega,t',n',k',y',by rw[this];simpa using e1,e2,e3,e5,by rw[this];simpa using e6⟩
  ·cases j with
   | zero =>
    simp only[List.getElem?_cons_zero,Option.some.injEq,Prod.mk.injEq]at hj;rw[<-hj.2];rfl
   | succ j=>exact j4 j t' m (by simpa using hj)
  ·have hs:=hI.aV r0;rw[k1]at hs;obtain⟨_,cells,hf,ho⟩:=hs;refine⟨a.eval x,_,cells,rfl,by rw[k5];exact hf,?_,j3 L1 H1 H2 (λk r j q hm hk=>H3 k r j q (List.mem_cons_of_mem _ hm) hk)⟩;refine Own.move (λk hk=>⟨?_,rfl⟩) (λk d rest _ hk=>⟨H3 k r0 i _ (by simp) hk,rfl⟩) (k2.elim (λk2=>Own.cap k2.1 k2.2 ho) (λk2=>k2.1▸ho));rcases hk with hk|⟨_,_,hk,_⟩
   ·exact H1 k hk
   ·cases hk
 | [],_,_::_,_,_,h=>h.elim
 | (_,.ro)::_,_,[],_,_,h=>h.elim
 | (_,.mut _)::_,_,[],_,_,h=>h.elim
 | (_,.mut _)::_,_,_::_,_,_,h=>h.elim
 | (_,.ptr _)::_,_,[],_,_,h=>h.elim
 | (_,.ptr _)::_,_,_::_,_,_,h=>h.elim
 | (_,.bV _)::_,_,[],_,_,h=>h.elim
theorem Us{g:Nat->V->Bool}:{i:Nat}->{l:List V}->(∀z,∀u∈l,g z u=false)->ch g i l=[]
 | _,[],_=>rfl
 | i,v::l,h=>by
  unfold ch;rw[h i v (List.mem_cons_self ..),cond_false];exact Us λz u hu=>h z u (List.mem_cons_of_mem _ hu)
theorem Ur{g:Nat->V->Bool}:{i:Nat}->{l:List V}->(∀z,∀u∈l,g z u=false)->ni g i l=true
 | _,[],_=>rfl
 | i,v::l,h=>by
  unfold ni;rw[h i v (List.mem_cons_self ..)];exact Ur λz u hu=>h z u (List.mem_cons_of_mem _ hu)
theorem anS[af](hI:Inv w0 L0 N vs T a w L)(ee:fw P bh){d:Nat}  
  (ho:o.op = .call { callee:=.value (.func f),args,argTypes:=cH }) (ay:o.dst=some d) (hd:d<N) (hid:(T.getD d .dead).idle=true)
  (h:(HV C bh vs N d f args.toList).ai T ups log):Step P o w0 L0 N vs (ah T ups) a w:=by
 unfold HV at h;split at h
 ·exact h.elim
 ·rename_i F hF;obtain⟨⟨fn,iL,gh,nt⟩,az⟩:=ee f F hF;have hb:=M.an h;clear h;obtain⟨A,l1,l2,rfl,h1,h⟩:=hb;obtain⟨ew,gg,sB,hY⟩:=HF hI h1;have aN:=Go.Conc.run_call_body (P:=P) (a:=a) (w:=w) ho iL gh nt;have ma:∀r∈A.ls,r≠d:=λr hr=>df hid (V.fj (ew r hr));rcases fc:A.mu with _|⟨⟨r0,i⟩,_|⟨p2,rest⟩⟩
  ·rw[fc]at h;exact h.elim
  ·rw[fc]at h;dsimp only at h;cases hc:(A.ls.contains r0 || !decide (r0<N))with
   | true=>rw[hc]at h;exact h.elim
   | false =>
    rw[hc]at h;obtain⟨r,fe,h⟩:=h;dsimp only at h;simp only[Bool.or_eq_false_iff,Bool.not_eq_false',decide_eq_true_eq]at hc;obtain⟨eu,dr⟩:=hc;have ju:r0∉A.ls:=λhm=>by rw[List.contains_iff_mem.2 hm]at eu;cases eu
    split at h
    ·rename_i v hv;have main:∀Ts,Ts=T->ni (cw r0 d) 0 Ts=true->Step P o w0 L0 N vs (ah Ts (((r0,V.dead)::ch (cw r0 d) 0 Ts)++[(d,v)])) a w:=by
      intro Ts bI jq;subst bI;obtain⟨_,t,n,k0,y,h2,h5,aun,hk3,h6⟩:=gg r0 i (by rw[fc];simp);simp only[Nat.sub_zero]at h2 h6;have sK:i<F.ps.length:=(List.getElem?_eq_some_iff.1 h2).1;have Wl:(Ts.getD r0 .dead).aL=true:=by
       rw[h5];simp only[V.aL,Bool.and_eq_true,bne_iff_ne];omega
      have wB:r0≠d:=df hid Wl;have nC:jL w (λk=>cL (some (r0,i)) A.ls (L k)) F.ps:=by
       refine⟨λk hk=>by rw[hI.free k hk];rfl,λk k' s q h h'=>?_,λk s q h=>?_,af.aR hI.fr.hG λk hk h0=>⟨?_,(hI.fr.aR k hk h0).2⟩⟩
       ·obtain⟨r1,e1,e2⟩:=lE h;obtain⟨r2,e3,e4⟩:=lE h';rw[e1]at e3;injection e3 with e3;injection e3 with e3 _;subst e3;exact hI.inj k k' _ _ e2 e4
       ·obtain⟨r1,e1,e2⟩:=lE h;injection e1 with e1;injection e1 with e1 e3;subst e1 e3;exact⟨t,.bV n,h2,by simp only[Mode.owned,Bool.and_eq_true,bne_iff_ne];omega⟩
       ·rw[(hI.fr.aR k hk h0).1];rcases h0 with h0|h0<;>rw[h0]<;>simp[cL]
      have dK:=hY (λk=>cL (some (r0,i)) A.ls (L k)) (λk hk=>by rw[hk];rfl) (λk r q hr hk=>by
       rw[hk];unfold cL;dsimp only;rw[if_neg (λe:r=r0=>ju (by rw[<-e];exact hr)),if_pos (by simpa using hr)]) (λk r j q hm hk=>by
       rw[hk];rw[fc]at hm;simp only[List.mem_singleton,Prod.mk.injEq]at hm;obtain⟨rfl,rfl⟩:=hm;simp[cL])
      intro K Q hK;unfold Oper.wp;rw[aN,Oper.upon_enter];refine Calls.mono (az A.x r fe w _ (args.map a.eval) nC (by simpa using dK)) ?_
      rintro e w' ⟨cs,L',rfl,ba,cj,kf⟩
      dsimp only;rw[ay];refine hK _ _ (dH (some (r0,i)) F.ps.length d L L') ?_;have hM:ah Ts (((r0,V.dead)::ch (cw r0 d) 0 Ts)++[(d,v)])=(ah Ts ((r0,V.dead)::ch (cw r0 d) 0 Ts)).set d v:=by
       rw[lx];rfl
      have nD:(ah Ts ((r0,V.dead)::ch (cw r0 d) 0 Ts)).length=N:=by rw[cF,hI.len]
      have bT:(ah Ts (((r0,V.dead)::ch (cw r0 d) 0 Ts)++[(d,v)])).getD d .dead=v:=by
       rw[hM,aH,if_pos ⟨rfl,by rw[nD];exact hd⟩]
      have bq:∀s,s≠d->(ah Ts (((r0,V.dead)::ch (cw r0 d) 0 Ts)++[(d,v)])).getD s .dead=(ah Ts ((r0,V.dead)::ch (cw r0 d) 0 Ts)).getD s .dead:=by
       intro s hs;rw[hM,aH,if_neg (λe=>hs e.1)]
      have eH:∀s v,(s,v)∈((r0,V.dead)::ch (cw r0 d) 0 Ts)->(s=r0/\v = .dead)\/(v = .dead/\s≠r0/\(Ts.getD s .dead).on r0=true):=by
       intro s v hm;rcases List.mem_cons.1 hm with hm|hm
       ·injection hm with h1 h2;exact .inl ⟨h1,h2⟩
       ·obtain⟨h1,_,_,h2⟩:=(pJ s v).1 hm;simp only[Nat.sub_zero,cw,Bool.and_eq_true,bne_iff_ne]at h2;exact .inr ⟨h1,h2.1.2,h2.1.1⟩
      have bE:(ah Ts ((r0,V.dead)::ch (cw r0 d) 0 Ts)).getD r0 .dead = .dead:=by
       refine iE (by rw[hI.len];exact dr) (by simp) (λv hm=>?_);rcases eH r0 v hm with⟨_,h⟩|⟨_,h,_⟩
       ·exact h
       ·exact absurd rfl h
      have oH:∀s,s≠d->s≠r0->(Ts.getD s .dead).on r0=true->(ah Ts ((r0,V.dead)::ch (cw r0 d) 0 Ts)).getD s .dead = .dead/\(Ts.getD s .dead).aL=false:=by
       intro s bL hs ag;have il:s<N:=by
        rcases Nat.lt_or_ge s N with h|h
        ·exact h
        ·rw[eF (by rw[hI.len];exact h)]at ag;simp[V.on,V.root]at ag
       have hg:cw r0 d s (Ts.getD s .dead)=true:=by
        unfold cw;rw[ag];simp[hs,bL]
       refine⟨iE (by rw[hI.len];exact il) ?_ (λv hm=>?_),?_⟩
       ·rw[List.mem_map];exact⟨(s,.dead),List.mem_cons_of_mem _ ((pJ s .dead).2 ⟨rfl,Nat.zero_le _,by rw[Nat.zero_add,hI.len];exact il,by rw[Nat.sub_zero];exact hg⟩),rfl⟩
       ·rcases eH s v hm with⟨h,_⟩|⟨h,_⟩
        ·exact absurd h hs
        ·exact h
       ·exact BK jq s (by rw[hI.len];exact il) (by rw[Nat.zero_add];exact hg)
      have oG:∀s,s≠r0->(Ts.getD s .dead).on r0=false->(ah Ts ((r0,V.dead)::ch (cw r0 d) 0 Ts)).getD s .dead=Ts.getD s .dead:=by
       intro s hs ag;refine fa _ _ _ (λhm=>?_);obtain⟨u,hu,he⟩:=List.mem_map.1 hm;rcases eH s u.2 (by rw[<-he];exact hu)with⟨h,_⟩|⟨_,_,h⟩
       ·exact hs h
       ·rw[ag]at h;cases h
      have we:∀r∈A.ls,((ah Ts (((r0,V.dead)::ch (cw r0 d) 0 Ts)++[(d,v)])).getD r .dead).deep=true:=by
       intro r hr;have gm:r≠r0:=λe=>ju (e▸hr);have ho:=V.fj (ew r hr);rw[bq r (ma r hr)];cases ag:(Ts.getD r .dead).on r0 with
       | false=>rw[oG r gm ag];exact ew r hr
       | true =>
        have h:=(oH r (ma r hr) gm ag).2;rw[h]at ho;cases ho
      obtain⟨k1,k2,k3⟩:=xj (T':=ah Ts (((r0,V.dead)::ch (cw r0 d) 0 Ts)++[(d,v)])) (d:=d) hI ba rfl we cj hv;refine Inv.H0 hI hd hid rfl (λr i h=>by injection h with h;injection h with _ h;subst h;exact sK) ba (by rw[cF,hI.len]) (λj' t n hj hm=>by rw[sB j' t n hj]at hm;cases hm) ?_ ?_ ?_ bT k1 k2 (λr i h=>by injection h with h;injection h with h _;subst h;exact ju) k3
      ·intro r i h;injection h with h;injection h with h h';subst h h';rw[bq r0 wB,bE];exact⟨Wl,.inl sB,rfl,trivial⟩
      ·intro s r i h bL bt ag;injection h with h;injection h with h h';subst h h';rw[bq s bL];exact .inl (oH s bL bt ag)
      ·intro s bL hs;obtain⟨e1,e2⟩:=hs r0 i rfl;rw[bq s bL];exact oG s e1 e2
     cases bc:vs.contains r0 with
     | true =>
      rw[bc,cond_true]at h;obtain⟨Ts,l3,l4,rfl,dQ,jq,nM⟩:=M.an h;obtain⟨rfl,_⟩:=nM;have bI:Ts=T:=by rw[lL dQ (by rw[Nat.zero_add,hI.len])];rfl
      have:=main Ts bI jq
      rwa [bI]at this ⊢
     | false =>
      rw[bc,cond_false]at h;obtain⟨rfl,_⟩:=h;have cA:∀z,∀u∈T,cw r0 d z u=false:=by
       intro z u hu;obtain⟨s,hs,rfl⟩:=List.getElem_of_mem hu;cases ag:(T[s]).on r0 with
       | false=>unfold cw;rw[ag];rfl
       | true =>
        have:=hI.roots s r0 (by rw[List.getD_eq_getElem?_getD,List.getElem?_eq_getElem hs];exact ag);rw[List.contains_iff_mem.2 this]at bc;cases bc
      have h1:=main T rfl (Ur cA)
      rwa [Us cA]at h1
    ·exact h.elim
  ·rw[fc]at h;exact h.elim
theorem anW[af](hI:Inv w0 L0 N vs T a w L)(ee:fw P bh)       
  (ho:o.op = .call { callee:=.value (.func f),args,argTypes:=cH }) (ay:o.dst=some d) (hd:d<N) (hid:(T.getD d .dead).idle=true)
  (h:(HZ C bh vs N d f args.toList).ai T ups log):Step P o w0 L0 N vs (ah T ups) a w:=by
 unfold HZ at h;split at h
 ·exact h.elim
 ·generalize Hz _=b at h;cases b with
  | true=>exact anS hI ee ho ay hd hid h
  | false=>exact anV hI ee ho ay hd hid h
end
end Go.Proofs.YtbhogmdpmkpinaaGreat.P.Am
