/- A part of the proof: Am48,Am49,Am57,Am58,Am60,Am54,Am55,Am59. No conditions. -/
import Derived.Test.YtbhogmdpmkpinaaGreatPG5
set_option linter.unusedVariables false
set_option linter.unusedSimpArgs false
namespace Go.Proofs.YtbhogmdpmkpinaaGreat.P.Am
variable{d i n r sz t:Nat}{kids log q:List Nat}{o:Oper}{ups:List (Nat×V)}{x:Operand}{args:Array Operand}{cn:Array TypeId}{m:M (List (Nat×V))}{bf:dx}{f:FuncId}{X:TypeId}{p:List St}{u:V}
structure aaO where
 i:Nat
 r:Nat
 p:List St
 u:V
 n':Nat
 t:Ty
def Gd(t:Ty)(n:Nat)(x:Operand):M (t.den×Nat×List St×V×Nat):=
 match x with
 | .tmp s=>.get s λv=>match v with
  | .view r p tv=>.get r λu=>(dp p u).bind λz =>
   if h:z.2.t=t then (if tv=t/\t.depth<=z.2.n/\t.depth<=n/\t.depth≠0/\z.1=none then .ret (h▸z.2.x,r,p,u,z.2.n)else .fail)else .fail
  | _=>.fail
 | _=>.fail
structure vY (ps:List (Ty×Mode)) where
 x:(cW ps).den
 ls:List Nat
 mu:List aaO
def kP(C:Ctx):Nat->(ps:List (Ty×Mode))->List Operand->M (vY ps)
 | _,[],[]=>.ret ⟨(),[],[]⟩
 | i,(t,.ro)::ps,x::xs=>(oG C t x).bind λy=>(kP C (i+1) ps xs).bind λr=>.ret ⟨(y.1,r.x),y.2++r.ls,r.mu⟩
 | i,(t,.mut n)::ps,x::xs=>(Gd t n x).bind λy=>(kP C (i+1) ps xs).bind λr=>.ret ⟨(y.1,r.x),r.ls,⟨i,y.2.1,y.2.2.1,y.2.2.2.1,y.2.2.2.2,t⟩::r.mu⟩
 | _,_,_=>.fail
def b7(g:Nat->V->Bool):Nat->List V->List (Nat×V)
 | _,[]=>[]
 | i,v::l=>cond (g i v) ((i,.dead)::b7 g (i+1) l) (b7 g (i+1) l)
def q9(g:Nat->V->Bool):Nat->List V->Bool
 | _,[]=>true
 | i,v::l=>(!(g i v) || !v.aD)&&q9 g (i+1) l
def gH(r d:Nat)(u:V):Nat->V->Bool:=λz v=>v.on r&&z != r&&z != d && !pB u v
def Gu(C:Ctx)(bf:dx)(vs:List Nat)(N d:Nat)(f:FuncId)(args:List Operand):M (List (Nat×V)):=
 match bf f with
 | none=>.fail
 | some F=>(kP C 0 F.ps args).bind λA=>match A.mu,F.rs with
  | [m],[(t0,n0)]=>cond (A.ls.contains m.r || !decide (m.r<N) || !decide (t0.depth=0) || !decide (n0<1000)) .fail (.cr (.pair (cG F.rs) (cm F.ps)) (F.ao A.x) λres=>match lF vs [] F.rs res.1,rY F.ps res.2 with
   | some (.d none n1 t1 x1),some (.d none _ t' y')=>if h:t'=m.t then
     (if t1.depth=0 then (fw m.p m.u m.t (h▸y')).bind λu2=>(allM 0 N).bind λTs=>.bc (q9 (gH m.r d m.u) 0 Ts) (.ret (((m.r,u2)::b7 (gH m.r d m.u) 0 Ts)++[(d,.d none n1 t1 x1)]))else .fail)else .fail
   | _,_=>.fail)
  | _,_=>.fail
def VJ:List (Ty×Mode)->List Operand->Option Operand
 | (_,.ro)::ps,_::xs=>VJ ps xs
 | (_,.mut _)::_,x::_=>some x
 | _,_=>none
def Gy(C:Ctx)(bf:dx)(vs:List Nat)(N d:Nat)(f:FuncId)(args:List Operand):M (List (Nat×V)):=
 match bf f with
 | none=>.fail
 | some F=>match VJ F.ps args with
  | some (.tmp s)=>.get s λv=>match v with
   | .view r p _=>.get r λu=>cond (u.dm&&p.isEmpty) (tL C bf vs N d f args) (Gu C bf vs N d f args)
   | _=>tL C bf vs N d f args
  | _=>tL C bf vs N d f args
section
variable{P:Program}{C:Ctx}{w w' w0:World}{S S':Nat->Prop}{L L' L0:Nat->aj}{s N:Nat}{vs:List Nat}{T T':List V}{tm tm':Array Value}{a:Act}
theorem oQ{g:Nat->V->Bool}:{i:Nat}->{l:List V}->(s:Nat)->(v:V)->((s,v)∈b7 g i l↔v = .dead/\i<=s/\s<i+l.length/\g s (l.getD (s - i) .dead)=true)
 | i,[],s,v=>by
  simp only[b7,List.not_mem_nil,false_iff]
  rintro⟨_,h1,h2,_⟩
  simp at h2;omega
 | i,x::l,s,v=>by
  have ih:=oQ (g:=g) (i:=i+1) (l:=l) s v;have e:∀h:i+1<=s,(x::l).getD (s - i) .dead=l.getD (s - (i+1)) .dead:=λh=>by
   rw[show s - i=(s - (i+1))+1 by omega];rfl
  unfold b7;cases hg:g i x with
  | true =>
   rw[cond_true,List.mem_cons,ih];constructor
   ·rintro (h|⟨h1,h2,h3,h4⟩)
    ·injection h with h1 h2;subst h1;refine⟨h2,Nat.le_refl _,by simp,by rw[Nat.sub_self];exact hg⟩
    ·exact⟨h1,by omega,by simp only[List.length_cons];omega,by rw[e h2];exact h4⟩
   ·rintro⟨h1,h2,h3,h4⟩
    by_cases hs:s=i
    ·left;rw[hs,h1]
    ·right;simp only[List.length_cons]at h3;refine⟨h1,by omega,by omega,by rw[<-e (by omega)];exact h4⟩
  | false =>
   rw[cond_false,ih];constructor
   ·rintro⟨h1,h2,h3,h4⟩
    exact⟨h1,by omega,by simp only[List.length_cons];omega,by rw[e h2];exact h4⟩
   ·rintro⟨h1,h2,h3,h4⟩
    by_cases hs:s=i
    ·subst hs;rw[Nat.sub_self]at h4;change g s x=true at h4;rw[hg]at h4;cases h4
    ·simp only[List.length_cons]at h3;refine⟨h1,by omega,by omega,by rw[<-e (by omega)];exact h4⟩
theorem A1{g:Nat->V->Bool}:{i:Nat}->{l:List V}->q9 g i l=true->∀s,s<l.length->g (i+s) (l.getD s .dead)=true->(l.getD s .dead).aD=false
 | _,[],_,s,h,_=>by simp at h
 | i,x::l,hk,s,h,hg=>by
  simp only[q9,Bool.and_eq_true,Bool.or_eq_true,Bool.not_eq_true']at hk;cases s with
  | zero =>
   change g (i+0) x=true at hg;rw[Nat.add_zero]at hg;change x.aD=false;rcases hk.1 with h1|h1
   ·rw[hg]at h1;cases h1
   ·exact h1
  | succ s =>
   simp only[List.length_cons]at h;exact A1 (g:=g) (i:=i+1) hk.2 s (by omega) (by rw[show i+1+s=i+(s+1)by omega];exact hg)
theorem Form.inj{t:Ty}{c1 c2:List Value}{c:Value}(h1:Form t c1 c)(h2:Form t c2 c):c1=c2:=by
 cases t with
 | agg t =>
  have h1:c = .agg c1.toArray:=h1;have h2:c = .agg c2.toArray:=h2;rw[h1]at h2;injection h2 with h2;simpa using congrArg Array.toList h2
 | _=>exact (show c1=[c]from h1).trans (show c2=[c]from h2).symm
theorem aeI[ae](hI:Inv w0 L0 N vs T a w L){t:Ty}{y:t.den}{n':Nat}(h:(Gd t n x).ai T (y,r,p,u,n') log):
  T.getD r .dead=u/\t.depth<=n'/\t.depth<=n/\t.depth≠0/\(∃log,(dp p u).ai T (none,⟨n',t,y⟩) log) /\
   ∃g cur e,L g = .own r (node [] 0 p).1/\w.heap[g]?=some (.cells cur e (0,0))/\Form t ((cur.toList.drop (node [] 0 p).2).take t.sz) (a.eval x)/\Own w L (SL L none) r n' t y (node [] 0 p).1 (node [] 0 p).2 ((cur.toList.drop (node [] 0 p).2).take t.sz):=by
 unfold Gd at h;split at h
 ·rename_i s;obtain⟨ay,rfl,h⟩:=h;have hs:=hI.aS s;generalize hv:T.getD s .dead=v at h hs;dsimp only at h;split at h
  ·rename_i r' p' tv;obtain⟨log2,rfl,h⟩:=h;dsimp only at h;obtain⟨⟨l,k,t',x'⟩,l1,l2,rfl,h1,h⟩:=M.ak h;dsimp only at h;split at h
   ·rename_i ht;subst ht;split at h
    ·rename_i hc;obtain⟨rfl,c1,c2,c3,rfl⟩:=hc;obtain⟨h,_⟩:=h;injection h with e1 e2;injection e2 with e2 e3;injection e3 with e3 e4;injection e4 with e4 e5;subst e1 e2 e3 e4 e5;have ba:=hI.aS r;obtain⟨⟨g,cur,e,k1,k2,k3,k4⟩,_,_,_,kY⟩:=ky h1 ba;refine⟨rfl,c1,c2,c3,⟨_,h1⟩,g,cur,e,k1,k2,?_,k4⟩;obtain⟨_,h2⟩:=hs;rcases h2 with⟨h2,_,l0,n0,x0,h3,_⟩|⟨g',cur',e',_,j1,j2,j3,j4⟩
     ·rw[h3]at kY;rcases kY with h|h
      ·simp[V.dm]at h
      ·exact absurd h2 h
     ·obtain rfl:=hI.inj g g' r _ k1 j1;rw[k2]at j2;injection j2 with j2;injection j2 with j2 _ _;subst j2;exact j4
    ·exact h.elim
   ·exact h.elim
  ·exact h.elim
 ·exact h.elim
theorem Gf[ae](hI:Inv w0 L0 N vs T a w L):{ps:List (Ty×Mode)}->{i:Nat}->{xs:List Operand}->{A:vY ps}->{log:List Nat}->(kP C i ps xs).ai T A log ->
  (∀r∈A.ls,(T.getD r .dead).deep=true) /\
  (∀m∈A.mu,i<=m.i/\∃n y,ps[m.i - i]?=some (m.t,.mut n)/\m.t.depth<=n/\m.t.depth<=m.n'/\m.t.depth≠0/\T.getD m.r .dead=m.u/\(∃log,(dp m.p m.u).ai T (none,⟨m.n',m.t,y⟩) log) /\
   ∃g cur e c,L g = .own m.r (node [] 0 m.p).1/\w.heap[g]?=some (.cells cur e (0,0))/\(xs.map a.eval)[m.i - i]?=some c/\Form m.t ((cur.toList.drop (node [] 0 m.p).2).take m.t.sz) c) /\
  (∀j t n,ps[j]?=some (t,.mut n)->∃m∈A.mu,m.i=i+j) /\
  ∀L1:Nat->aj,(∀k,L k = .al->L1 k = .al)->(∀k r q,r∈A.ls->L k = .own r q->L1 k = .al) ->
   (∀k m z rest,m∈A.mu->L k = .own m.r ((node [] 0 m.p).1++((node [] 0 m.p).2+z)::rest)->z<m.t.sz->L1 k = .own m.i (z::rest))->dE w L1 i ps A.x (xs.map a.eval)
 | [],i,[],A,log,h=>by
  obtain⟨rfl,_⟩:=h;exact⟨by simp,by simp,by simp,λ_ _ _ _=>rfl⟩
 | (t,.ro)::ps,i,x::xs,A,log,h=>by
  simp only[kP]at h;obtain⟨⟨y,ls⟩,l1,l2,rfl,h1,h⟩:=M.ak h;obtain⟨A',l3,l4,rfl,h2,h⟩:=M.ak h;obtain⟨rfl,_⟩:=h;obtain⟨cells,k1,k2,k3⟩:=tE hI h1;obtain⟨j1,j2,j4,j3⟩:=Gf hI h2;refine⟨λr hr=>?_,λm hm=>?_,λj t' n hj=>?_,λL1 H1 H2 H3=>?_⟩
  ·rcases List.mem_append.1 hr with hr|hr
   ·exact k2 r hr
   ·exact j1 r hr
  ·obtain⟨hi,n',y',e1,e2,e3,e4,e5,e6,g,cur,e,c,f1,f2,f3,f4⟩:=j2 m hm;have:m.i - i=(m.i - (i+1))+1:=by omega
   exact⟨by omega,n',y',by rw[this];simpa using e1,e2,e3,e4,e5,e6,g,cur,e,c,f1,f2,by rw[this];simpa using f3,f4⟩
  ·cases j with
   | zero=>simp at hj
   | succ j =>
    obtain⟨m,hm,he⟩:=j4 j t' n (by simpa using hj);exact⟨m,hm,by omega⟩
  ·exact⟨a.eval x,_,cells,rfl,k1,Own.du (k3 _ H1 (λk r q hr hk=>H2 k r q (List.mem_append_left _ hr) hk)),j3 L1 H1 (λk r q hr hk=>H2 k r q (List.mem_append_right _ hr) hk) H3⟩
 | (t,.mut n)::ps,i,x::xs,A,log,h=>by
  simp only[kP]at h;obtain⟨⟨y,r0,p0,u0,n0⟩,l1,l2,rfl,h1,h⟩:=M.ak h;obtain⟨A',l3,l4,rfl,h2,h⟩:=M.ak h;obtain⟨rfl,_⟩:=h;obtain⟨k1,k2,k3,k4,k5,g,cur,e,k6,k7,k8,k9⟩:=aeI hI h1;obtain⟨j1,j2,j4,j3⟩:=Gf hI h2;refine⟨j1,λm hm=>?_,λj t' n' hj=>?_,λL1 H1 H2 H3=>?_⟩
  ·rcases List.mem_cons.1 hm with hm|hm
   ·subst hm;exact⟨Nat.le_refl _,n,y,by simp,k3,k2,k4,k1,k5,g,cur,e,a.eval x,k6,k7,by simp,k8⟩
   ·obtain⟨hi,n',y',e1,e2,e3,e4,e5,e6,g,cur,e,c,f1,f2,f3,f4⟩:=j2 m hm;have:m.i - i=(m.i - (i+1))+1:=by omega
    exact⟨by omega,n',y',by rw[this];simpa using e1,e2,e3,e4,e5,e6,g,cur,e,c,f1,f2,by rw[this];simpa using f3,f4⟩
  ·cases j with
   | zero=>exact⟨_,List.mem_cons_self ..,rfl⟩
   | succ j =>
    obtain⟨m,hm,he⟩:=j4 j t' n' (by simpa using hj);exact⟨m,List.mem_cons_of_mem _ hm,by omega⟩
  ·refine⟨a.eval x,_,_,rfl,k8,?_,j3 L1 H1 H2 (λk m z rest hm hk hz=>H3 k m z rest (List.mem_cons_of_mem _ hm) hk hz)⟩;refine Own.cap k2 k3 (Own.move (λk hk=>⟨?_,rfl⟩) (λk d rest hd hk=>⟨?_,rfl⟩) k9)
   ·rcases hk with hk|⟨_,_,hk,_⟩
    ·exact H1 k hk
    ·cases hk
   ·have:=H3 k ⟨i,r0,p0,u0,n0,t⟩ d rest (List.mem_cons_self ..) hk hd;simpa using this
 | [],_,_::_,_,_,h=>h.elim
 | (_,.ro)::_,_,[],_,_,h=>h.elim
 | (_,.mut _)::_,_,[],_,_,h=>h.elim
 | (_,.ptr _)::_,_,[],_,_,h=>h.elim
 | (_,.ptr _)::_,_,_::_,_,_,h=>h.elim
 | (_,.bQ _)::_,_,[],_,_,h=>h.elim
 | (_,.bQ _)::_,_,_::_,_,_,h=>h.elim
theorem Ge{C:Ctx}:{ps:List (Ty×Mode)}->{i:Nat}->{xs:List Operand}->{A:vY ps}->{log:List Nat}->(kP C i ps xs).ai T A log->∀(j:Nat) (t:Ty) (n:Nat),ps[j]?≠some (t,.ptr n)
 | [],_,_,_,_,_,j,t,n=>by simp
 | (t0,.ro)::ps,i,x::xs,A,log,h,j,t,n=>by
  simp only[kP]at h;obtain⟨_,_,_,_,_,h⟩:=M.ak h;obtain⟨_,_,_,_,h2,_⟩:=M.ak h;cases j with
  | zero=>simp
  | succ j=>simpa using Ge h2 j t n
 | (t0,.mut n0)::ps,i,x::xs,A,log,h,j,t,n=>by
  simp only[kP]at h;obtain⟨_,_,_,_,_,h⟩:=M.ak h;obtain⟨_,_,_,_,h2,_⟩:=M.ak h;cases j with
  | zero=>simp
  | succ j=>simpa using Ge h2 j t n
 | (_,.ro)::_,_,[],_,_,h,_,_,_=>h.elim
 | (_,.mut _)::_,_,[],_,_,h,_,_,_=>h.elim
 | (_,.ptr _)::_,_,[],_,_,h,_,_,_=>h.elim
 | (_,.ptr _)::_,_,_::_,_,_,h,_,_,_=>h.elim
 | (_,.bQ _)::_,_,[],_,_,h,_,_,_=>h.elim
 | (_,.bQ _)::_,_,_::_,_,_,h,_,_,_=>h.elim
theorem aeJ[ae]{C:Ctx}{ps:List (Ty×Mode)}{xs:List Operand}{A:vY ps}(h:(kP C i ps xs).ai T A log){j:Nat}{t:Ty}{m:Mode}(hj:ps[j]?=some (t,m))(hm:m.back=true):∃n,m = .mut n:=by
 match m,hj,hm with
 | .ro,_,hm=>cases hm
 | .bQ _,_,hm=>cases hm
 | .mut n,_,_=>exact⟨n,rfl⟩
 | .ptr n,hj,_=>exact absurd hj (Ge h j t n)
theorem akG[ae](hI:Inv w0 L0 N vs T a w L)(dJ:fA P bf){d:Nat}  
  (ho:o.op = .call { callee:=.value (.func f),args,argTypes:=cn }) (av:o.dst=some d) (hd:d<N) (hid:(T.getD d .dead).idle=true)
  (h:(Gu C bf vs N d f args.toList).ai T ups log):Step P o w0 L0 N vs (ah T ups) a w:=by
 unfold Gu at h;split at h
 ·exact h.elim
 ·rename_i F hF;obtain⟨⟨fn,gO,fG,lZ⟩,aI⟩:=dJ f F hF;have hb:=M.ak h;clear h;obtain⟨A,l1,l2,rfl,h1,h⟩:=hb;obtain⟨dO,fF,o9,gn⟩:=Gf hI h1;have aJ:=Go.Conc.run_call_body (P:=P) (a:=a) (w:=w) ho gO fG lZ;obtain⟨wg,Frs,aqW⟩:=F;dsimp only at h gn o9 fF aI A;split at h
  ·rename_i m t0 n0 hA;cases hc:(A.ls.contains m.r || !decide (m.r<N) || !decide (t0.depth=0) || !decide (n0<1000))with
   | true=>rw[hc]at h;exact h.elim
   | false =>
    rw[hc]at h;simp only[Bool.or_eq_false_iff,Bool.not_eq_false',decide_eq_true_eq]at hc;obtain⟨⟨⟨dN,c8⟩,HP⟩,gP⟩:=hc;have iF:m.r∉A.ls:=λhm=>by rw[List.contains_iff_mem.2 hm]at dN;cases dN
    obtain⟨res,eH,h⟩:=h;dsimp only at h;split at h
    ·rename_i n1 t1 x1 n2 t' y' hv pq;split at h
     ·rename_i HR;subst HR;split at h
      ·rename_i ht1;obtain⟨u2,l3,l4,rfl,mh,h⟩:=M.ak h;obtain⟨Ts,l5,l6,rfl,dA,jR,mB⟩:=M.ak h;obtain⟨rfl,_⟩:=mB;have bJ:Ts=T:=by rw[kN dA (by rw[Nat.zero_add,hI.len])];rfl
       subst bJ;obtain⟨_,n,y,h2,h3,h4,h5,h6,⟨aru,hz⟩,g0,cur,e,c,k1,k2,k3,k4⟩:=fF m (by rw[hA];simp);simp only[Nat.sub_zero]at h2 k3;have rF:m.i<wg.length:=(List.getElem?_eq_some_iff.1 h2).1;have iE:∀(j:Nat) (t:Ty) (n:Nat),wg[j]?=some (t,Mode.mut n)->j=m.i:=by
        intro j t n hj;obtain⟨m',bS,he⟩:=o9 j t n hj;rw[hA]at bS;rw[List.mem_singleton.1 bS]at he;omega
       have ba:=hI.aS m.r;rw[h6]at ba;obtain⟨_,_,_,gr,_⟩:=ky hz ba;have br:m.r≠d:=cV hid (by rw[h6];exact gr);have mf:jb w (λk=>jG m.r (node [] 0 m.p).1 (node [] 0 m.p).2 m.t.sz m.i A.ls (L k)) wg:=by
        refine⟨λk hk=>by rw[hI.free k hk];rfl,λk k' s q h h'=>?_,λk s q h=>?_,ae.aO hI.fr.gm λk hk h0=>⟨?_,(hI.fr.aO k hk h0).2⟩⟩
        ·obtain⟨y1,r1,e1,e2,e3⟩:=JE h;obtain⟨y2,r2,e4,e5,e6⟩:=JE h';rw[e2]at e5;injection e5 with e5 e7;subst e5 e7;exact hI.inj k k' _ _ e3 e6
        ·obtain⟨y1,r1,rfl,e2,e3⟩:=JE h;exact⟨m.t,.mut n,h2,by simp only[Mode.owned,Bool.and_eq_true,bne_iff_ne];omega⟩
        ·rw[(hI.fr.aO k hk h0).1];rcases h0 with h0|h0<;>rw[h0]<;>simp[jG]
       have dr:=gn (λk=>jG m.r (node [] 0 m.p).1 (node [] 0 m.p).2 m.t.sz m.i A.ls (L k)) (λk hk=>by rw[hk];rfl) (λk r q hr hk=>by
        rw[hk];unfold jG;dsimp only;rw[if_neg (λe0:r=m.r=>iF (by rw[<-e0];exact hr)),if_pos (by simpa using hr)]) (λk m' z rest bS hk bR=>by
        rw[hA]at bS;obtain rfl:=List.mem_singleton.1 bS;rw[hk];exact alm bR)
       intro K Q hK;unfold Oper.wp;rw[aJ,Oper.upon_enter];refine Calls.mono (aI A.x res eH w _ (args.map a.eval) mf (by simpa using dr)) ?_
       rintro e' w' ⟨cs,L',rfl,aZ,bX,jn⟩
       dsimp only;rw[av];have iz:ah Ts (((m.r,u2)::b7 (gH m.r d m.u) 0 Ts)++[(d,V.d none n1 t1 x1)])=(ah Ts ((m.r,u2)::b7 (gH m.r d m.u) 0 Ts)).set d (V.d none n1 t1 x1):=by
        rw[kA];rfl
       have mg:(ah Ts ((m.r,u2)::b7 (gH m.r d m.u) 0 Ts)).length=N:=by rw[cj,hI.len]
       have bg:∀s,s≠d->(ah Ts (((m.r,u2)::b7 (gH m.r d m.u) 0 Ts)++[(d,V.d none n1 t1 x1)])).getD s .dead=(ah Ts ((m.r,u2)::b7 (gH m.r d m.u) 0 Ts)).getD s .dead:=by
        intro s hs;rw[iz,az,if_neg (λe=>hs e.1)]
       have dY:∀s v,(s,v)∈((m.r,u2)::b7 (gH m.r d m.u) 0 Ts)->(s=m.r/\v=u2)\/(v = .dead/\s≠m.r/\gH m.r d m.u s (Ts.getD s .dead)=true):=by
        intro s v bS;rcases List.mem_cons.1 bS with bS|bS
        ·injection bS with h1 h2;exact .inl ⟨h1,h2⟩
        ·obtain⟨h1,_,_,h2⟩:=(oQ s v).1 bS;simp only[Nat.sub_zero]at h2;refine .inr ⟨h1,?_,h2⟩
         rintro rfl
         simp[gH]at h2
       have bw:(ah Ts ((m.r,u2)::b7 (gH m.r d m.u) 0 Ts)).getD m.r .dead=u2:=by
        refine gG (by rw[hI.len];exact c8) (by simp) (λv bS=>?_);rcases dY m.r v bS with⟨_,h⟩|⟨_,h,_⟩
        ·exact h
        ·exact absurd rfl h
       have o6:∀s,s≠d->s≠m.r->(Ts.getD s .dead).on m.r=true->gH m.r d m.u s (Ts.getD s .dead) = !pB m.u (Ts.getD s .dead):=by
        intro s h1 h2 h3;unfold gH;rw[h3];simp[h1,h2]
       refine hK _ _ _ (Inv.aeU (d:=d) (c:=oa cs) (V0:=V.d none n1 t1 x1) hI hd hid h6 hz mh h3 h4 k1 k2 aZ ?_ ?_ (by rw[cj,hI.len]) ?_ ?_ (λr=>rfl) ?_ ?_ ?_)
       ·intro k s q hk;rcases aZ.owner k s q hk with⟨_,t,n,h,h9⟩|⟨t,md,h,hmd⟩
        ·simp only[List.mem_singleton,Prod.mk.injEq]at h;rcases h9 with h9|h9
         ·exact absurd (by rw[h.1];exact HP) h9.2
         ·omega
        ·obtain⟨n,rfl⟩:=aeJ h1 h hmd;exact iE s t n h
       ·have agt:fp w' L' 0 wg res.2 (args.toList.map a.eval):=by simpa using jn
        obtain⟨j,t',n',y9,c',cells,m1,m2,m3,m4,m5⟩:=IK agt pq;have cC:=iE j t' n' m1;subst cC;rw[h2]at m1;injection m1 with m1;injection m1 with m1 kf;injection kf with kf;subst kf;cases m2;rw[k3]at m3;injection m3 with m3;subst m3;rw[Nat.zero_add]at m5;have:cells=(cur.toList.drop (node [] 0 m.p).2).take m.t.sz:=Form.inj m4 k4;rw[<-this];exact m5
       ·rw[bg m.r br,bw]
       ·rw[iz,az,if_pos ⟨rfl,by rw[mg];exact hd⟩]
       ·intro L2 tm';have BB:=bX;have BB:=(jc.low (rs:=[(t0,n0)]) (decide_eq_true gP)).1 BB;simp only[im]at BB;obtain⟨c',a7,cells,rfl,r1,r2,rfl⟩:=BB;have cD:some (V.d none n0 t0 res.1.1)=some (V.d none n1 t1 x1):=by
         simp only[lF]at hv
         rwa [if_neg (by omega),if_pos (by rw[HP];exact Nat.zero_le _)]at hv
        cases cD;exact⟨by simp,cells,r1,Own.flat HP r2⟩
       ·intro z gT dt af;rw[bg z gT];have nY:z<N:=by
         rcases Nat.lt_or_ge z N with h|h
         ·exact h
         ·rw[dW (by rw[hI.len];exact h)]at af;simp[V.on,V.root]at af
        have Bu:=o6 z gT dt af;cases hk:pB m.u (Ts.getD z .dead)with
        | true =>
         refine .inr ⟨eF _ _ _ (λbS=>?_),rfl⟩;obtain⟨uu,hu,he⟩:=List.mem_map.1 bS;rcases dY z uu.2 (by rw[<-he];exact hu)with⟨h,_⟩|⟨_,_,h⟩
         ·exact dt h
         ·rw[Bu,hk]at h;cases h
        | false =>
         rw[hk]at Bu;refine .inl ⟨gG (by rw[hI.len];exact nY) ?_ (λv bS=>?_),?_⟩
         ·rw[List.mem_map];exact⟨(z,.dead),List.mem_cons_of_mem _ ((oQ z .dead).2 ⟨rfl,Nat.zero_le _,by rw[Nat.zero_add,hI.len];exact nY,by rw[Nat.sub_zero];exact Bu⟩),rfl⟩
         ·rcases dY z v bS with⟨h,_⟩|⟨h,_⟩
          ·exact absurd h dt
          ·exact h
         ·exact A1 jR z (by rw[hI.len];exact nY) (by rw[Nat.zero_add];exact Bu)
       ·intro z gT dt af;rw[bg z gT];refine eF _ _ _ (λbS=>?_);obtain⟨uu,hu,he⟩:=List.mem_map.1 bS;rcases dY z uu.2 (by rw[<-he];exact hu)with⟨h,_⟩|⟨_,_,h⟩
        ·exact dt h
        ·unfold gH at h;rw[af]at h;simp at h
      ·exact h.elim
     ·exact h.elim
    ·exact h.elim
  ·exact h.elim
theorem akK[ae](hI:Inv w0 L0 N vs T a w L)(dJ:fA P bf)       
  (ho:o.op = .call { callee:=.value (.func f),args,argTypes:=cn }) (av:o.dst=some d) (hd:d<N) (hid:(T.getD d .dead).idle=true)
  (h:(Gy C bf vs N d f args.toList).ai T ups log):Step P o w0 L0 N vs (ah T ups) a w:=by
 unfold Gy at h;split at h
 ·exact h.elim
 ·split at h
  ·rename_i s _;obtain⟨ew,rfl,h⟩:=h;generalize T.getD s .dead=v at h;dsimp only at h;split at h
   ·obtain⟨log2,rfl,h⟩:=h;dsimp only at h;generalize (V.dm _&&List.isEmpty _)=b at h;cases b with
    | true=>exact Jy hI dJ ho av hd hid h
    | false=>exact akG hI dJ ho av hd hid h
   ·exact Jy hI dJ ho av hd hid h
  ·exact Jy hI dJ ho av hd hid h
end
def mD:List St->Nat
 | []=>0
 | .aW _ _::p=>mD p
 | .idx _ _::p=>mD p+1
theorem B8:{p:List St}->{q:List Nat}->{o:Nat}->(node q o p).1.length=q.length+mD p
 | [],_,_=>rfl
 | .aW _ _::p,_,_=>B8 (p:=p)
 | .idx sz i::p,q,o=>by
  have:=B8 (p:=p) (q:=q++[o]) (o:=i.toNat*sz);simp only[node,mD];rw[this];simp only[List.length_append,List.length_singleton];omega
def vm(n r:Nat)(v:V):Bool := !v.dV r||(match v with
 | .ptr _ _ _=>true
 | .view _ p _=>decide (mD p<n)
 | _=>false)
def Il{α:Type}(n r:Nat):List Nat->M α->M α
 | [],m=>m
 | k::l,m=>.get k λv=>.bc (vm n r v) (Il n r l m)
def Jz(C:Ctx)(N:Nat)(kids:List Nat)(X:TypeId)(r:Nat)(p:List St)(u:V)(x:Operand)(m:M (List (Nat×V))):M (List (Nat×V)):=
 (dp p u).bind λz =>
  if z.2.t.depth=0/\u.eV=true/\shallow p=false/\C.ty X=some z.2.t/\(u.root != some r)=true/\r<N/\r<100000 then
   (cq C X x).bind λv=>match v with
   | .d none _ t' y=>if h:t'=z.2.t then (fw p u z.2.t (h▸y)).bind λu'=>Il (mD p) r kids (.ask (tK r (iK false (r::kids))) (.ret [(r,u')]))else .fail
   | _=>.fail
  else m
section
variable{P:Program}{C:Ctx}{w w' w0:World}{S S':Nat->Prop}{L L' L0:Nat->aj}{s N:Nat}{vs:List Nat}{T T':List V}{tm tm':Array Value}{a:Act}
theorem U8{α:Type}{m:M α}{x:α}:{l:List Nat}->{log:List Nat}->(Il n r l m).ai T x log->(∀k∈l,vm n r (T.getD k .dead)=true)/\∃ay,m.ai T x ay
 | [],log,h=>⟨by simp,log,h⟩
 | k::l,log,h=>by
  obtain⟨ay,rfl,hc,h⟩:=h;obtain⟨h1,h2⟩:=U8 (l:=l) h;refine⟨λk' aA=>?_,h2⟩;rcases List.mem_cons.1 aA with rfl|aA
  ·exact hc
  ·exact h1 k' aA
theorem akZ[ae](hI:Inv w0 L0 N vs T a w L)(hC:bt P C){u:V}{m:M (List (Nat×V))}(ho:o.op = .store X (.tmp t) x)(av:o.dst=none)
  (ht:addrOf t (T.getD t .dead)=some (r,p)) (cK:∀r p,addrOf t (T.getD t .dead)=some (r,p)->∃g,a.eval (.tmp t) = .pointer (some ⟨g,(node [] 0 p).2,none⟩)/\L g = .own r (node [] 0 p).1)
  (hr:T.getD r .dead=u) (h:(Jz C N kids X r p u x m).ai T ups log) (hm:∀log,m.ai T ups log->Step P o w0 L0 N vs (ah T ups) a w):Step P o w0 L0 N vs (ah T ups) a w:=by
 obtain⟨⟨l,n',t',x'⟩,l1,l2,rfl,hz,h⟩:=M.ak h;dsimp only at h;split at h
 ·rename_i hc;obtain⟨hd,BD,Tu,hX,nT,c8,HI⟩:=hc;clear hm;obtain⟨v,l3,l4,rfl,hv,h⟩:=M.ak h;split at h
  ·rename_i k tv y;split at h
   ·rename_i pn;subst pn;obtain⟨u',l5,l6,rfl,uF,h⟩:=M.ak h;obtain⟨Hu,log2,h⟩:=U8 h;obtain⟨⟨hq,_⟩,fu,rfl,h⟩:=h;obtain⟨rfl,_⟩:=h;have aI:∀z,z≠r->vm (mD p) r (T.getD z .dead)=true:=by
     intro z hz;by_cases hm:z∈kids
     ·exact Hu z hm
     ·have:=Gl HI hq z (vb (by simp[hz,hm]));rw[vc]at this;have this:(T.getD z .dead).dV r=false:=this;unfold vm;rw[this];rfl
    obtain⟨g,o4,hg⟩:=cK r p ht;have ba:=hI.aS r;rw[hr]at ba;obtain⟨⟨g',cur,e,k1,k2,k3,k4⟩,_,_,gr,kY⟩:=ky hz ba;obtain rfl:=hI.inj g g' r _ hg k1;have mz:u.dm=false:=by cases u<;>simp[V.eV,V.dm]at BD ⊢
    have dK:∃cs s0,Form tv cs (a.eval x)/\Own w L (SL L none) s0 k tv y [] 0 cs:=by
     rcases jz hI hv with⟨s,rfl,_,hs⟩|⟨_,hs⟩
     ·obtain⟨_,cs,hf,bM⟩:=hs;exact⟨cs,s,hf,bM⟩
     ·obtain⟨_,cs,hf,bM⟩:=hs L T a.tmps 0 w;exact⟨cs,0,hf,bM⟩
    obtain⟨cs,s0,hf,bM⟩:=dK;have dH:=Own.one bM;have hlen:=Own.len bM;have aJ:(execOp a.eval o).run P w = .ok .skip (w.setRow g (putCells cur (node [] 0 p).2 cs)):=by
     simp[execOp,ho,o4,sd (hC X _ hX) k2 hf dH hlen k3]
    have bw:(ah T [(r,u')]).getD r .dead=u':=by
     show (T.set r u').getD r .dead=u';rw[az,if_pos ⟨rfl,by rw[hI.len];exact c8⟩]
    have bg:∀z,z≠r->(ah T [(r,u')]).getD z .dead=T.getD z .dead:=by
     intro z hz;show (T.set r u').getD z .dead=_;rw[az,if_neg (λh=>hz h.1)]
    intro K Q hK;unfold Oper.wp;rw[aJ,Oper.upon_skip,av];refine hK a _ _ (Inv.store (m:=n') (src:=none) hI hr hz uF (by simpa using nT) hg k2 k3 hlen (by simp) (by rw[cj,hI.len]) bw ?_ (λz hz _ _=>bg z hz) (Own.flat hd bM));intro z hz _ af;refine .inr ⟨bg z hz,?_⟩;have hk:=aI z hz;unfold vm V.dV at hk;rw[af,Bool.true_and]at hk;generalize T.getD z .dead=vz at hk af;cases vz with
    | ptr r2 p2 t2=>exact .inl rfl
    | view r2 p2 t2 =>
     have:r2=r:=by simpa[V.on,V.root]using af
     subst this;refine .inr ⟨rfl,Tu,mz,p2,t2,rfl,λhe=>?_⟩;have hk:mD p2<mD p:=by simpa using hk
     have:=congrArg List.length he;rw[B8,B8]at this;omega
    | _=>simp at hk
   ·exact h.elim
  ·exact h.elim
 ·exact hm _ h
end
def kE(r:Nat)(q:List Nat)(o sz s:Nat):Nat->List Nat->aj:=λz q2 =>
 if z=r then match cut q q2 with
  | some (y::rest)=>if o<=y/\y<o+sz then .own s ((y - o)::rest)else .own r q2
  | _=>.own r q2
 else if z=s then .other else .own z q2
def IW(r:Nat)(v:V):Bool := !v.on r||(match v with
 | .same _ _=>true
 | .ptr _ [.idx _ _] _=>true
 | _=>false)
def Ca(r:Nat):List V->Bool
 | []=>true
 | v::l=>IW r v&&Ca r l
def B6(r:Nat):List V->Bool
 | []=>true
 | v::l => !v.on r&&B6 r l
def RN(C:Ctx)(N:Nat)(X:TypeId)(d r sz:Nat)(i:Int)(n:Nat):(ty:Ty)->ty.den->M (List (Nat×V))
 | .pair (.int k) (.slice e te),x=>if C.ty X=some te/\te.depth≠0/\n≠0/\sz=te.sz/\d<N/\r<N/\d≠r then
   .get d λvd=>.bc (vd.idle&&decide (x.1<=i)) (.cr te (ab x.2 i) λy=>(allM 0 N).bind λTs=>.bc (Ca r Ts) (.ret [(r,.bK 0 n (.pair (.int k) (.slice e te)) (i+1,x.2)),(d,.d none n te y)]))
  else .fail
 | _,_=>.fail
def GS(C:Ctx)(N:Nat)(X:TypeId)(d t:Nat):M (List (Nat×V)):=
 .get t λv=>match v with
 | .ptr r [.idx sz i] _=>.get r λu=>match u with
  | .bK 0 n ty x=>RN C N X d r sz i n ty x
  | _=>.fail
 | _=>.fail
def tP(vs:List Nat)(N d:Nat)(fl:Bool)(x:Operand)(m:M (List (Nat×V))):M (List (Nat×V)):=
 match x with
 | .tmp s=>.get s λv=>match v with
  | .bK 0 _ (.pair (.int _) t) _=>.get d λvd=>.bc (vd.idle&&decide (d<N)&&vs.contains s) (.ret [(d,.same s t)])
  | .d none (n+1) (.slice e t) xs=>cond fl (if d<N/\s<N/\d≠s then .get d λvd=>.bc (vd.idle&&vs.contains s) ((allM 0 N).bind λTs=>.bc (B6 s Ts) (.ret [(s,.bK 0 n (.pair (.int .i64) (.slice e t)) ((0:Int),xs)),(d,.same s (.slice e t))]))else .fail) m
  | _=>m
 | _=>m
def RM(C:Ctx)(X:TypeId)(d:Nat):(ty:Ty)->ty.den->M (List (Nat×V))
 | .pair (.int _) (.slice e te),x=>if C.ty X=some (.slice e te)then .ret [(d,.d none 0 (.int .i64) (x.2.length:Int))]else .fail
 | _,_=>.fail
def GR(C:Ctx)(d:Nat)(l:List Operand)(cn:List TypeId)(m:M (List (Nat×V))):M (List (Nat×V)):=
 match l,cn with
 | [.tmp t],[X]=>.get t λv=>match v with
  | .same r _=>.get r λu=>match u with
   | .bK 0 _ ty x=>RM C X d ty x
   | _=>m
  | _=>m
 | _,_=>m
def RL(C:Ctx)(vs:List Nat)(X:TypeId)(d r:Nat)(i:Int):(ty:Ty)->ty.den->M (List (Nat×V))
 | .pair (.int _) (.slice _ te),x=>if oe C X=some te then .cr te (ab x.2 i) λ_=>.bc (vs.contains r) (.ret [(d,.ptr r [.idx te.sz i] te)])else .fail
 | _,_=>.fail
def GQ(C:Ctx)(vs:List Nat)(X:TypeId)(d t:Nat)(y:Operand)(m:M (List (Nat×V))):M (List (Nat×V)):=
 .get t λv=>match v with
 | .same r _=>.get r λu=>match u with
  | .bK 0 _ ty x=>(cq C 0 y).bind λz=>match z with
   | .d _ _ (.int _) i=>RL C vs X d r i ty x
   | _=>.fail
  | _=>m
 | _=>m
section
variable{P:Program}{C:Ctx}{w w' w0:World}{S S':Nat->Prop}{L L' L0:Nat->aj}{s N:Nat}{vs:List Nat}{T T':List V}{tm tm':Array Value}{a:Act}
theorem sv[ae]{s:Nat}{o:Nat}{z:Nat}{q2:List Nat}{z':Nat}{q3:List Nat}(h:kE r q o sz s z q2 = .own z' q3):
  (z=r/\∃i rest,i<sz/\q2=q++(o+i)::rest/\z'=s/\q3=i::rest)\/(z=r/\z'=r/\q3=q2/\∀i rest,i<sz->q2≠q++(o+i)::rest)\/(z≠r/\z≠s/\z'=z/\q3=q2):=by
 unfold kE at h;split at h
 ·rename_i hz;split at h
  ·rename_i y rest hc;split at h
   ·rename_i hy;injection h with h1 h2;refine .inl ⟨hz,y - o,rest,by omega,?_,h1.symm,h2.symm⟩;rw[nv hc];congr 2;omega
   ·rename_i hy;injection h with h1 h2;refine .inr (.inl ⟨hz,h1.symm,h2.symm,λi e9 hi he=>?_⟩);rw[he,lT]at hc;simp only[Option.some.injEq,List.cons.injEq]at hc;omega
  ·rename_i cu;injection h with h1 h2;refine .inr (.inl ⟨hz,h1.symm,h2.symm,λi e9 _ he=>?_⟩);exact cu (o+i) e9 (by rw[he,lT])
 ·rename_i hz;split at h
  ·cases h
  ·rename_i hs;injection h with h1 h2;exact .inr (.inr ⟨hz,hs,h1.symm,h2.symm⟩)
theorem alh[ae]{s:Nat}{o:Nat}{X:Nat->Prop}(hr:X r)(hs:X s)(gQ:r≠s):fe (kE r q o sz s) X:=by
 refine⟨λz q2 hX=>?_,λz q2 z' q3 hX h=>?_,λz q2 z2 q3 z' q4 h1 h2=>?_,λz q2=>?_⟩
 ·unfold kE;rw[if_neg (λe:z=r=>hX (e▸hr)),if_neg (λe:z=s=>hX (e▸hs))]
 ·rcases sv h with⟨_,_,_,_,_,rfl,_⟩|⟨_,rfl,_⟩|⟨_,_,rfl,_⟩
  ·exact hs
  ·exact hr
  ·exact hX
 ·rcases sv h1 with⟨rfl,i,rest,_,rfl,rfl,rfl⟩|⟨rfl,rfl,rfl,hn⟩|⟨g1,g2,rfl,rfl⟩
  ·rcases sv h2 with⟨rfl,i',e9,_,rfl,_,he⟩|⟨rfl,he,_⟩|⟨_,g2,he,_⟩
   ·injection he with l9 he;exact⟨rfl,by rw[he,l9]⟩
   ·exact absurd he.symm gQ
   ·exact absurd he.symm g2
  ·rcases sv h2 with⟨_,i',e9,_,_,he,_⟩|⟨rfl,_,he,_⟩|⟨g1,_,he,_⟩
   ·exact absurd he gQ
   ·exact⟨rfl,he⟩
   ·exact absurd he.symm g1
  ·rcases sv h2 with⟨_,i',e9,_,_,he,_⟩|⟨_,he,_⟩|⟨_,_,h3,h4⟩
   ·exact absurd he g2
   ·exact absurd he g1
   ·exact⟨h3,h4⟩
 ·unfold kE
  repeat' split
  all_goals simp
theorem alg[ae]{s:Nat}{o:Nat}{rest:List Nat}(hi:i<sz):kE r q o sz s r (q++(o+i)::rest) = .own s (i::rest):=by
 unfold kE;rw[if_pos rfl,lT];dsimp only;rw[if_pos ⟨by omega,by omega⟩,show o+i - o=i by omega]
theorem ali[ae]{s:Nat}{o:Nat}{q2:List Nat}(h:∀i rest,i<sz->q2≠q++(o+i)::rest):kE r q o sz s r q2 = .own r q2:=by
 unfold kE;rw[if_pos rfl];split
 ·rename_i y rest hc;split
  ·rename_i hy;exact absurd (nv hc) (by
    have:=h (y - o) rest (by omega)
    rwa [show o+(y - o)=y by omega]at this)
  ·rfl
 ·rfl
theorem ajp{l:List V}(h:Ca r l=true)(z:Nat):IW r (l.getD z .dead)=true:=by
 induction l generalizing z with
 | nil=>rfl
 | cons v l ih =>
  simp only[Ca,Bool.and_eq_true]at h;cases z with
  | zero=>exact h.1
  | succ z=>exact ih h.2 z
theorem ajf{l:List V}(h:B6 r l=true)(z:Nat):(l.getD z .dead).on r=false:=by
 induction l generalizing z with
 | nil=>rfl
 | cons v l ih =>
  simp only[B6,Bool.and_eq_true,Bool.not_eq_true']at h;cases z with
  | zero=>exact h.1
  | succ z=>exact ih h.2 z
theorem ai2[ae](hI:Inv w0 L0 N vs T a w L){z:Nat}(h:T.getD z .dead ≠ .dead):z<N:=by
 rcases Nat.lt_or_ge z N with h1|h1
 ·exact h1
 ·exact absurd (dW (by rw[hI.len];exact h1)) h
theorem ake[ae](hI:Inv w0 L0 N vs T a w L){x:Operand}{s:Nat}{k:IntKind}{t:Ty}{y:(Ty.pair (.int k) t).den}(ho:pz o (.tmp s))(hid:(T.getD d .dead).idle=true)(hs:T.getD s .dead = .bK 0 n (.pair (.int k) t) y)(hv:s∈vs):
  aH P o vs T a w L d (.same s t):=by
 have bH:s≠d:=cV hid (by rw[hs];rfl);refine⟨a.tmps.getD s undef,w,L,sa ho,dL.refl hI d,λk q hk h=>(by rw[hI.free k hk]at h;cases h),λr hr=>?_,?_,n,k,y,?_⟩
 ·have:s=r:=by simpa[V.on,V.root]using hr
  exact this▸hv
 ·rw[dG,if_neg (λh=>bH h.1)]
 ·rw[az,if_neg (λh=>bH h.1),hs]
theorem akT[ae](hI:Inv w0 L0 N vs T a w L){x:Operand}{fl:Bool}(ho:pz o x)(av:o.dst=some d)
  (h:(tP vs N d fl x m).ai T ups log) (hm:∀log,m.ai T ups log->Step P o w0 L0 N vs (ah T ups) a w):Step P o w0 L0 N vs (ah T ups) a w:=by
 unfold tP at h;split at h
 ·rename_i s;obtain⟨ay,rfl,h⟩:=h;generalize hv:T.getD s .dead=v at h;dsimp only at h;split at h
  ·rename_i n k t y;obtain⟨l2,rfl,hc,h⟩:=h;simp only[Bool.and_eq_true,decide_eq_true_eq]at hc;obtain⟨rfl,_⟩:=h;intro K Q hK;exact aH.inv hI hc.1.2 hc.1.1 av (ake (x:=.tmp s) hI ho hc.1.1 hv (List.contains_iff_mem.1 hc.2)) hK
  ·rename_i n e t xs;cases fl with
   | false=>exact hm _ h
   | true =>
    rw[cond_true]at h;split at h
    ·rename_i hc;obtain⟨o3,bW,gN⟩:=hc;obtain⟨l2,rfl,hid,h⟩:=h;obtain⟨Ts,l3,l4,rfl,dA,cu,h⟩:=M.ak h;obtain⟨rfl,_⟩:=h;have bJ:Ts=T:=by rw[kN dA (by rw[Nat.zero_add,hI.len])];rfl
     subst bJ;simp only[Bool.and_eq_true]at hid;have S0:=hid.1;have bh:s∈vs:=List.contains_iff_mem.1 hid.2;have gS:=hI.aS s;rw[hv]at gS;obtain⟨_,cs,hf,bM⟩:=gS;have bO:(ah Ts [(s,V.bK 0 n (.pair (.int .i64) (.slice e t)) ((0:Int),xs)),(d,.same s (.slice e t))]).getD d .dead = .same s (.slice e t):=by
      show ((Ts.set s _).set d _).getD d .dead=_;rw[az,if_pos ⟨rfl,by simp[hI.len,o3]⟩]
     have bJ:(ah Ts [(s,V.bK 0 n (.pair (.int .i64) (.slice e t)) ((0:Int),xs)),(d,.same s (.slice e t))]).getD s .dead = .bK 0 n (.pair (.int .i64) (.slice e t)) ((0:Int),xs):=by
      show ((Ts.set s _).set d _).getD s .dead=_;rw[az,if_neg (λh=>gN h.1.symm),az,if_pos ⟨rfl,by rw[hI.len];exact bW⟩]
     have bg:∀z,z≠d->z≠s->(ah Ts [(s,V.bK 0 n (.pair (.int .i64) (.slice e t)) ((0:Int),xs)),(d,.same s (.slice e t))]).getD z .dead=Ts.getD z .dead:=by
      intro z h1 h2;show ((Ts.set s _).set d _).getD z .dead=_;rw[az,if_neg (λh=>h1 h.1),az,if_neg (λh=>h2 h.1)]
     refine Step.value (L':=L) av (sa ho) ?_;have uN:(a.put (some d) (a.eval (.tmp s))).tmps.getD d undef=a.tmps.getD s undef:=by
      show (a.tmps.setIfInBounds d _).getD d undef=_;rw[dG,if_pos ⟨rfl,by rw[hI.size];exact o3⟩];rfl
     have mv:∀z,z≠d->(a.put (some d) (a.eval (.tmp s))).tmps.getD z undef=a.tmps.getD z undef:=λz hz=>jA (by simpa using Ne.symm hz);refine Inv.upd (λz=>z=s\/z=d) hI (by simp[Act.put,hI.size]) (by rw[cj,hI.len]) hI.dy hI.fr hI.free hI.inj ?_ (λ_ _ _ _=>⟨rfl,rfl⟩) ?_ ?_ ?_ ?_
     ·intro k z q hk;by_cases h1:z=d
      ·subst h1;have:=hI.owner k z q hk;rw[V.jy S0]at this;cases this
      ·by_cases h2:z=s
       ·subst h2;rw[bJ];rfl
       ·rw[bg z h1 h2];exact hI.owner k z q hk
     ·intro z hz;have hz:=not_or.1 hz;exact⟨bg z hz.2 hz.1,mv z hz.2⟩
     ·intro z r af;by_cases h1:z=d
      ·subst h1;rw[bO]at af;have:s=r:=by simpa[V.on,V.root]using af
       exact this▸bh
      ·by_cases h2:z=s
       ·subst h2;rw[bJ]at af;simp[V.on,V.root]at af
       ·rw[bg z h1 h2]at af;exact hI.roots z r af
     ·intro z r hz af bn;have h1:r≠d:=cV S0 bn;have h2:r≠s:=λe=>by
       subst e;have:=ajf cu z;rw[this]at af;cases af
      exact⟨bg r h1 h2,mv r h1⟩
     ·intro z hz;rcases hz with rfl|rfl
      ·rw[bJ,mv _ (Ne.symm gN)];simp only[ax,ff];have Bo:cs=[a.tmps.getD z undef]:=hf;simp only[Own]at bM;rcases bM with⟨h1,h2⟩|⟨g,cap,cur,h1,h2,h3,h4,h5,h6,h7⟩
       ·rw[h1]at Bo;exact .inl ⟨(List.cons.inj Bo).1.symm,h2⟩
       ·rw[h1]at Bo;refine .inr ⟨g,cap,cur,(List.cons.inj Bo).1.symm,by simpa using h2,h3,h4,h5,h6,λj hj _=>?_⟩;simpa using h7 j hj
      ·rw[bO,uN];exact⟨(mv s (Ne.symm gN)).symm,n,.i64,_,bJ⟩
    ·exact h.elim
  ·exact hm _ h
 ·exact hm _ h
theorem Wt[ae](hI:Inv w0 L0 N vs T a w L){tt:Ty}{ty:Ty}{x:ty.den}(ht:T.getD t .dead = .same r tt)(hr:T.getD r .dead = .bK 0 n ty x):a.tmps.getD t undef=a.tmps.getD r undef:=by
 have:=hI.aS t;rw[ht]at this;exact this.1
theorem akR[ae](hI:Inv w0 L0 N vs T a w L)(hC:bt P C)(ho:o.op = .call { callee:=.builtin .len,args,argTypes:=cn })(av:o.dst=some d)(hd:d<N)(hid:(T.getD d .dead).idle=true)
  (h:(GR C d args.toList cn.toList m).ai T ups log) (hm:∀log,m.ai T ups log->Step P o w0 L0 N vs (ah T ups) a w):Step P o w0 L0 N vs (ah T ups) a w:=by
 obtain⟨args⟩:=args;obtain⟨cn⟩:=cn;dsimp only at h;unfold GR at h;split at h
 ·rename_i t X;obtain⟨ay,rfl,h⟩:=h;generalize ht:T.getD t .dead=v at h;dsimp only at h;split at h
  ·rename_i r tt;obtain⟨log2,rfl,h⟩:=h;generalize hr:T.getD r .dead=u at h;dsimp only at h;split at h
   ·rename_i n ty x;unfold RM at h;split at h
    ·rename_i k e te x;split at h
     ·rename_i hX;obtain⟨rfl,_⟩:=h;have h1:=Wt hI ht hr;have hs:=hI.aS r;rw[hr]at hs;simp only[ax,ff]at hs;have hlen:∃A c,a.eval (.tmp t) = .slice A (x.2:List te.den).length c:=by
       rcases hs with⟨h2,h3⟩|⟨g,cap,cur,h2,_⟩
       ·refine⟨none,0,?_⟩;show a.tmps.getD t undef=_;rw[h1,h2,h3];rfl
       ·exact⟨_,_,h1.trans h2⟩
      obtain⟨A,c,hlen⟩:=hlen;intro K Q hK;refine aH.inv hI hd hid av (aH.still hI (c:=.int .i64 (x.2.length:Int)) ?_ (λ_=>rfl) ax.mkInt) hK;have hu:=(hC X _ hX).bT;have hc:(Builtin.len_ #[X] o.type #[a.eval (.tmp t)]).run P w = .ok (.int .i64 (x.2.length:Int)) w:=by
       rw[hlen];simp[Builtin.len_,run_underlying hu.1,goInt]
      simp[execOp,ho,resolve,invoke,builtin,hc]
     ·exact h.elim
    ·exact h.elim
   ·exact hm _ h
  ·exact hm _ h
 ·exact hm _ h
theorem akQ[ae](hI:Inv w0 L0 N vs T a w L)(hC:bt P C){y:Operand}(ho:o.op = .indexAddr X (.tmp t) y)(av:o.dst=some d)(hd:d<N)(hid:(T.getD d .dead).idle=true)
  (h:(GQ C vs X d t y m).ai T ups log) (hm:∀log,m.ai T ups log->Step P o w0 L0 N vs (ah T ups) a w):Step P o w0 L0 N vs (ah T ups) a w:=by
 unfold GQ at h;obtain⟨ay,rfl,h⟩:=h;generalize ht:T.getD t .dead=v at h;dsimp only at h;split at h
 ·rename_i r tt;obtain⟨log2,rfl,h⟩:=h;generalize hr:T.getD r .dead=u at h;dsimp only at h;split at h
  ·rename_i n ty x;obtain⟨z,l1,l2,rfl,hz,h⟩:=M.ak h;split at h
   ·rename_i ll nn ki i;have hy:=gb hI hz;unfold RL at h;split at h
    ·rename_i k e te x _;split at h
     ·rename_i fL;obtain⟨y0,iJ,bh,rfl,_⟩:=h;obtain⟨hi,jj,rfl⟩:=kS iJ;have h1:=Wt hI ht hr;have hs:=hI.aS r;rw[hr]at hs;simp only[ax,ff]at hs;rcases hs with⟨_,h3⟩|⟨g,cap,cur,h2,h3,_⟩
      ·rw[h3]at hi;exact absurd hi (by simp)
      ·have fg:a.eval (.tmp t)=_:=h1.trans h2;have aJ:(execOp a.eval o).run P w = .ok (.value (.pointer (some ⟨g,0+i.toNat*te.sz,none⟩))) w:=by
        simp[execOp,ho,fg,hy,Wq hC fL jj hi]
       intro K Q hK;refine aH.inv hI hd hid av (aH.ptr hI (g:=g) ?_ h3 (λr' aV=>?_)) hK
       ·rw[aJ];simp[node]
       ·have:r=r':=by simpa[V.on,V.root]using aV
        exact this▸List.contains_iff_mem.1 bh
     ·exact h.elim
    ·exact h.elim
   ·exact h.elim
  ·exact hm _ h
 ·exact hm _ h
theorem akS[ae](hI:Inv w0 L0 N vs T a w L)(hC:bt P C){X:TypeId}(ho:o.op = .load X (.tmp t))(av:o.dst=some d)
  (h:(GS C N X d t).ai T ups log):Step P o w0 L0 N vs (ah T ups) a w:=by
 unfold GS at h;obtain⟨ay,rfl,h⟩:=h;generalize ht:T.getD t .dead=v at h;dsimp only at h;split at h
 ·rename_i r sz i tt;obtain⟨log2,rfl,h⟩:=h;generalize hr:T.getD r .dead=u at h;dsimp only at h;split at h
  ·rename_i n ty x;unfold RN at h;split at h
   ·rename_i k e te x;split at h
    ·rename_i hc;obtain⟨hX,nN,gP,rfl,o3,c8,Bm⟩:=hc;obtain⟨l3,rfl,jk,y,hy,h⟩:=h;obtain⟨Ts,l4,l5,rfl,dA,aI,h⟩:=M.ak h;obtain⟨rfl,_⟩:=h;have bJ:Ts=T:=by rw[kN dA (by rw[Nat.zero_add,hI.len])];rfl
     subst bJ;simp only[Bool.and_eq_true,decide_eq_true_eq]at jk;obtain⟨hid,hle⟩:=jk;obtain⟨hi,jj,rfl⟩:=kS hy;have aX:=hI.aS t;rw[ht]at aX;obtain⟨g0,hp,uv⟩:=aX;have hs:=hI.aS r;rw[hr]at hs;have dI:=hs;simp only[ax,ff]at hs;rcases hs with⟨_,h3⟩|⟨g,cap,cur,h2,h3,h4,h5,h6,h7,h8⟩
     ·rw[h3]at hi;exact absurd hi (by simp)
     obtain rfl:=hI.inj g0 g r _ uv (by simpa[node]using h3);have hle:x.1<=i:=hle;have afU:=h8 i.toNat hi (Int.le_trans hle (Int.le_of_eq (Int.toNat_of_nonneg jj).symm));have agd:lN w L (SL L none) r n te (x.2[i.toNat]) (node [] 0 [St.idx te.sz i]).1 (node [] 0 [St.idx te.sz i]).2:=by
      refine⟨g0,cur,e,uv,h4,?_,afU⟩;simp only[node];rw[h7,<-Nat.succ_mul];exact Nat.mul_le_mul_right _ (Nat.lt_of_lt_of_le hi h5)
     obtain⟨c,eE,e2,aJ,hh,bd,hf,lg⟩:=TQ hI hC hX agd uv;have cc:a.eval (.tmp t)=_:=hp;have HM:(execOp a.eval o).run P w = .ok (.value c) w:=by simp[execOp,ho,cc,Instr.loadAt,Instr.sureAddr,aJ]
     have bO:(ah Ts [(r,V.bK 0 n (.pair (.int k) (.slice e te)) (i+1,x.2)),(d,.d none n te (x.2[i.toNat]))]).getD d .dead = .d none n te (x.2[i.toNat]):=by
      show ((Ts.set r _).set d _).getD d .dead=_;rw[az,if_pos ⟨rfl,by simp[hI.len,o3]⟩]
     have bw:(ah Ts [(r,V.bK 0 n (.pair (.int k) (.slice e te)) (i+1,x.2)),(d,.d none n te (x.2[i.toNat]))]).getD r .dead = .bK 0 n (.pair (.int k) (.slice e te)) (i+1,x.2):=by
      show ((Ts.set r _).set d _).getD r .dead=_;rw[az,if_neg (λh=>Bm h.1.symm),az,if_pos ⟨rfl,by rw[hI.len];exact c8⟩]
     have bg:∀z,z≠d->z≠r->(ah Ts [(r,V.bK 0 n (.pair (.int k) (.slice e te)) (i+1,x.2)),(d,.d none n te (x.2[i.toNat]))]).getD z .dead=Ts.getD z .dead:=by
      intro z h1 h2;show ((Ts.set r _).set d _).getD z .dead=_;rw[az,if_neg (λh=>h1 h.1),az,if_neg (λh=>h2 h.1)]
     have uN:(a.put (some d) c).tmps.getD d undef=c:=by
      show (a.tmps.setIfInBounds d _).getD d undef=_;rw[dG,if_pos ⟨rfl,by rw[hI.size];exact o3⟩]
     have mv:∀z,z≠d->(a.put (some d) c).tmps.getD z undef=a.tmps.getD z undef:=λz hz=>jA (by simpa using Ne.symm hz);have S8:∀z,(Ts.getD z .dead).on r=true->(∃t',Ts.getD z .dead = .same r t')\/∃fa i' t',Ts.getD z .dead = .ptr r [.idx fa i'] t':=by
      intro z af;have hz:=ajp aI z;unfold IW at hz;rw[af,Bool.not_true,Bool.false_or]at hz;generalize Ts.getD z .dead=v at hz af;cases v with
      | same r' t' =>
       have:r'=r:=by simpa[V.on,V.root]using af
       exact .inl ⟨t',by rw[this]⟩
      | ptr r' p t' =>
       have:r'=r:=by simpa[V.on,V.root]using af
       subst this
       match p,hz with
       | [.idx fa i'],_=>exact .inr ⟨fa,i',t',rfl⟩
      | _=>cases hz
     have Hv:∀k' q',L k' = .own r q'->(∀i' rest,i'<te.sz->q'≠[0]++(i.toNat*te.sz+i')::rest)->aP (kE r [0] (i.toNat*te.sz) te.sz d) w L (λ_=>.free) k' = .own r q':=by
      intro k' q' hk hq;rw[cM hI (by rw[hk];simp),hk];exact ali hq
     refine Step.value (L':=aP (kE r [0] (i.toNat*te.sz) te.sz d) w L (λ_=>.free)) av HM ?_;refine Inv.gf (X:=λz=>z=r\/z=d\/(Ts.getD z .dead).on r=true) (nl:=λ_=>.free) hI (alh (.inl rfl) (.inr (.inl rfl)) (Ne.symm Bm)) (Wd.refl hI _) (λ_ _ _ _ _ h=>by cases h) (by simp[Act.put,hI.size]) (by rw[cj,hI.len]) hI.dy ?_ ?_ ?_ ?_ ?_
     ·intro k' z q bR h;by_cases h1:z=r
      ·subst h1;rw[bw];rfl
      ·by_cases h9:z=d
       ·subst h9;rw[bO];simp[V.aD,gP,nN]
       ·rw[bg z h9 h1];unfold aP at h;split at h
        ·obtain⟨s0,q0,e0,f0⟩:=ey h;rcases sv f0 with⟨_,_,_,_,_,j3,_⟩|⟨_,j3,_⟩|⟨_,_,j3,j4⟩
         ·exact absurd j3 h9
         ·exact absurd j3 h1
         ·subst j3;exact hI.owner k' _ _ e0
        ·cases h
     ·intro z r' bR af aV;have bR:=not_or.1 bR;have dj:=not_or.1 bR.2;rcases aV with rfl|rfl|aV
      ·exact absurd af dj.2
      ·exact V.jy hid
      ·rcases S8 r' aV with⟨_,he⟩|⟨_,_,_,he⟩<;>rw[he]<;>rfl
     ·intro z bR;have bR:=not_or.1 bR;have dj:=not_or.1 bR.2;exact⟨bg z dj.1 bR.1,mv z dj.1⟩
     ·intro z r' bR af;by_cases h1:z=r
      ·subst h1;rw[bw]at af;simp[V.on,V.root]at af
      ·by_cases h9:z=d
       ·subst h9;rw[bO]at af;simp[V.on,V.root]at af
       ·rw[bg z h9 h1]at af;exact hI.roots z r' af
     ·intro z bR;by_cases h1:z=r
      ·subst h1;rw[bw,mv _ (Ne.symm Bm)];simp only[ax,ff];refine .inr ⟨g0,cap,cur,h2,Hv _ _ h3 (λi' rest _ h=>by have:=congrArg List.length h;simp at this),h4,h5,h6,h7,λj hj Te=>?_⟩;have Te:i+1<=(j:Int):=Te;refine Own.move (λk' hk=>?_) (λk' dd rest gM hk=>⟨?_,rfl⟩) (h8 j hj (Int.le_trans hle (by omega)))
       ·rcases hk with hk|⟨_,_,hk,_⟩
        ·exact⟨.inl (dQ hI hk),rfl⟩
        ·cases hk
       ·refine Hv _ _ hk (λi' e9 rE he=>?_);simp only[List.cons_append,List.nil_append,List.cons.injEq,true_and]at he;have kT:(i.toNat+1)*te.sz<=j*te.sz:=Nat.mul_le_mul_right _ (by omega);rw[Nat.add_mul,Nat.one_mul]at kT;omega
      ·by_cases h9:z=d
       ·subst h9;rw[bO,uN];refine⟨by simp,_,hf,?_⟩;refine Own.move (λk' hk=>?_) (λk' dd rest gM hk=>⟨?_,rfl⟩) lg
        ·rcases hk with hk|⟨_,_,hk,_⟩
         ·exact⟨.inl (dQ hI hk),rfl⟩
         ·cases hk
        ·rw[cM hI (by rw[hk];simp),hk];simp only[ef,node,Nat.zero_add,List.nil_append];exact alg gM
       ·rw[bg z h9 h1,mv z h9];have af:(Ts.getD z .dead).on r=true:=by
         rcases bR with h|h|h
         ·exact absurd h h1
         ·exact absurd h h9
         ·exact h
        have pk:=hI.aS z;rcases S8 z af with⟨t',he⟩|⟨fa,i',t',he⟩
        ·rw[he]at pk ⊢;obtain⟨j1,n1,k1,x1,j2⟩:=pk;rw[hr]at j2;cases j2;exact⟨j1.trans (mv r (Ne.symm Bm)).symm,n,k,_,bw⟩
        ·rw[he]at pk ⊢;obtain⟨g2,j1,j2⟩:=pk;exact⟨g2,j1,Hv _ _ j2 (λi' rest _ h=>by have:=congrArg List.length h;simp[node]at this)⟩
    ·exact h.elim
   ·exact h.elim
  ·exact h.elim
 ·exact h.elim
end
def re:Nat->Ty->Bool
 | m,.pair a b=>(a.depth==0||m.testBit 0)&&re (m / 2) b
 | m,t=>t.depth==0||m.testBit 0
def mH(m:Nat)(ta:Ty)(x:ta.den):V:=cond (re m ta) (.box none ta.depth (.agg ta) x) (.bK 1 m (.agg ta) x)
def B0(C:Ctx)(vs:List Nat)(N:Nat)(kids:List Nat)(X:TypeId)(r i off m0:Nat)(ta:Ty)(x0:ta.den)(x:Operand):M (List (Nat×V)):=
 match x with
 | .tmp s=>.get s λv=>match v with
  | .d none k t1 y=>match comp i ta x0 with
   | some (o,⟨t2,_⟩)=>if o=off/\t2=t1/\t1.depth≠0/\t1.depth<=k/\C.ty X=some t1/\vs.contains s=false/\s≠r/\r<N/\m0.testBit i=false/\ta.depth≠0 then
     (gX i ta x0 (λt' x'=>eK [] t' x' t1 y)).bind λx2=>iu false r s kids (.ret [(r,mH (m0 ||| 2 ^ i) ta x2),(s,.dead)])
    else .fail
   | none=>.fail
  | _=>.fail
 | _=>.fail
def ID(C:Ctx)(vs:List Nat)(N:Nat)(kids:List Nat)(X:TypeId)(r:Nat)(p:List St)(u:V)(x:Operand)(m:M (List (Nat×V))):M (List (Nat×V)):=
 match p with
 | [.aW i off]=>match u with
  | .box none 0 (.agg ta) x0=>B0 C vs N kids X r i off 0 ta x0 x
  | .bK 1 m0 (.agg ta) x0=>B0 C vs N kids X r i off m0 ta x0 x
  | _=>m
 | _=>m
section
variable{P:Program}{C:Ctx}{w w' w0:World}{S S':Nat->Prop}{L L' L0:Nat->aj}{s N:Nat}{vs:List Nat}{T T':List V}{tm tm':Array Value}{a:Act}
theorem bV.move[ae](H1:∀k,L k = .al->L' k = .al/\w'.heap[k]?=w.heap[k]?):{t:Ty}->{m:Nat}->{x:t.den}->{o:Nat}->{cs:List Value} ->
  (∀k d rest,d<t.sz->L k = .own r ((o+d)::rest)->L' k = .own r ((o+d)::rest)/\w'.heap[k]?=w.heap[k]?)->bV w L r m t x o cs->bV w' L' r m t x o cs:=by
 have HS:∀k,SL L none k->SL L' none k/\w'.heap[k]?=w.heap[k]?:=by
  rintro k (hk|⟨_,_,hk,_⟩)
  ·exact⟨.inl (H1 k hk).1,(H1 k hk).2⟩
  ·cases hk
 intro t;induction t with
 | pair a b _ ih =>
  intro m x o cs H2 h;obtain⟨c0,c1,h1,h2,h3⟩:=h;refine⟨c0,c1,h1,Own.move HS (λk d rest hd hk=>H2 k d rest (by simp only[Ty.sz];omega) hk) h2,ih (λk d rest hd hk=>?_) h3⟩;have:=H2 k (a.sz+d) rest (by simp only[Ty.sz];omega) (by rw[hk,Nat.add_assoc])
  rwa [<-Nat.add_assoc]at this
 | _=>intro m x o cs H2 h;simp only[bV]at h ⊢;exact Own.move HS H2 h
theorem bV.of0[ae]:{t:Ty}->{x:t.den}->{o:Nat}->{cs:List Value}->Own w L (SL L none) r 0 t x [] o cs->bV w L r 0 t x o cs:=by
 intro t;induction t with
 | pair a b _ ih =>
  intro x o cs h;simp only[Own]at h;obtain⟨c0,c1,h1,h2,h3⟩:=h;exact⟨c0,c1,h1,by simpa using h2,ih h3⟩
 | _=>intro x o cs h;simp only[bV];simpa using h
theorem bV.full[ae]:{t:Ty}->{m:Nat}->{x:t.den}->{o:Nat}->{cs:List Value}->{D:Nat}->t.depth<=D->re m t=true->bV w L r m t x o cs->Own w L (SL L none) r D t x [] o cs:=by
 have one:∀{t:Ty} {m:Nat} {x:t.den} {o:Nat} {cs:List Value} {D:Nat},t.depth<=D->(t.depth==0||m.testBit 0)=true->Own w L (SL L none) r (cond (m.testBit 0) t.depth 0) t x [] o cs->Own w L (SL L none) r D t x [] o cs:=by
  intro t m x o cs D hD hf h;cases hb:m.testBit 0 with
  | true=>rw[hb]at h;exact Own.cap (Nat.le_refl _) hD h
  | false =>
   rw[hb,Bool.or_false]at hf;exact Own.flat (by simpa using hf) h
 intro t;induction t with
 | pair a b _ ih =>
  intro m x o cs D hD hf h;obtain⟨c0,c1,h1,h2,h3⟩:=h;simp only[re,Bool.and_eq_true]at hf;simp only[Ty.depth]at hD;simp only[Own];exact⟨c0,c1,h1,one (by omega) hf.1 h2,ih (by omega) hf.2 h3⟩
 | _=>intro m x o cs D hD hf h;simp only[bV]at h;exact one hD hf h
theorem ajt(m i:Nat):(m ||| 2 ^ (i+1)).testBit 0=m.testBit 0/\(m ||| 2 ^ (i+1)) / 2=m / 2 ||| 2 ^ i:=by
 refine⟨?_,?_⟩
 ·rw[Nat.testBit_or,Nat.testBit_two_pow];simp
 ·rw[Nat.or_div_two,Nat.pow_succ,Nat.mul_div_cancel _ (by omega)]
theorem V2(m:Nat):(m ||| 2 ^ 0).testBit 0=true/\(m ||| 2 ^ 0) / 2=m / 2:=by
 refine⟨?_,?_⟩
 ·rw[Nat.testBit_or,Nat.testBit_two_pow];simp
 ·rw[Nat.or_div_two];simp
theorem VF{t1 t':Ty}{x1:t1.den}{y:t'.den}{z:t1.den}(h:(eK [] t1 x1 t' y).ai T z log):∃e:t'=t1,z=e▸y:=by
 simp only[eK]at h;split at h
 ·rename_i e;exact⟨e,h.1⟩
 ·exact h.elim
theorem bV.mod[ae](H1:∀k,L k = .al->L' k = .al/\w'.heap[k]?=w.heap[k]?):{t:Ty}->{i m:Nat}->{x x':t.den}->{o:Nat}->{cs a7:List Value}->{t1:Ty}->{y x1:t1.den}->{o1:Nat}->{log:List Nat} ->
  comp i t x=some (o1,⟨t1,x1⟩)->(gX i t x (λt' x'=>eK [] t' x' t1 y)).ai T x' log ->
  (∀k d rest,d<t.sz->¬(o1<=d/\d<o1+t1.sz)->L k = .own r ((o+d)::rest)->L' k = .own r ((o+d)::rest)/\w'.heap[k]?=w.heap[k]?) ->
  a7.length=cs.length->(∀j,j<o1\/o1+t1.sz<=j->a7[j]?=cs[j]?)->Own w' L' (SL L' none) r t1.depth t1 y [] (o+o1) ((a7.drop o1).take t1.sz) ->
  bV w L r m t x o cs->bV w' L' r (m ||| 2 ^ i) t x' o a7:=by
 have HS:∀k,SL L none k->SL L' none k/\w'.heap[k]?=w.heap[k]?:=by
  rintro k (hk|⟨_,_,hk,_⟩)
  ·exact⟨.inl (H1 k hk).1,(H1 k hk).2⟩
  ·cases hk
 intro t;induction t with
 | pair a b _ ih =>
  intro i m x x' o cs a7 t1 y x1 o1 log hc hm H2 hl fh hy h;have hlen:=bV.len h;obtain⟨c0,c1,rfl,h2,h3⟩:=h;have jm:=Own.len h2;cases i with
  | zero =>
   simp only[comp,Option.some.injEq,Prod.mk.injEq]at hc;obtain⟨rfl,hc⟩:=hc;cases hc;simp only[gX]at hm;obtain⟨z,l1,l2,rfl,hz,h5,_⟩:=M.ak hm;obtain⟨e,rfl⟩:=VF hz;subst h5;obtain⟨k1,k2⟩:=V2 m;refine⟨a7.take a.sz,c1,?_,?_,?_⟩
   ·apply List.ext_getElem?;intro j;by_cases hj:j<a.sz
    ·rw[List.getElem?_append_left (by rw[List.length_take];simp only[List.length_append]at hl;omega),List.getElem?_take_of_lt hj]
    ·have hll:(a7.take a.sz).length=a.sz:=by rw[List.length_take];simp only[List.length_append]at hl;omega
     rw[List.getElem?_append_right (by omega),hll,fh j (.inr (by omega)),List.getElem?_append_right (by omega),jm]
   ·rw[k1];simpa using hy
   ·rw[k2];refine bV.move H1 (λk d rest hd hk=>?_) h3;have:=H2 k (a.sz+d) rest (by simp only[Ty.sz];omega) (by omega) (by rw[hk,Nat.add_assoc])
    rwa [<-Nat.add_assoc]at this
  | succ i =>
   simp only[comp,Option.map_eq_some_iff]at hc;obtain⟨⟨o2,t2,x2⟩,hc,he⟩:=hc;simp only[Prod.mk.injEq]at he;obtain⟨rfl,he⟩:=he;cases he;simp only[gX]at hm;obtain⟨z,l1,l2,rfl,hz,h5,_⟩:=M.ak hm;subst h5;obtain⟨k1,k2⟩:=ajt m i;have Td:a7.length=a.sz+b.sz:=by rw[hl];simpa[Ty.sz]using hlen
   refine⟨c0,a7.drop a.sz,?_,?_,?_⟩
   ·apply List.ext_getElem?;intro j;by_cases hj:j<a.sz
    ·rw[List.getElem?_append_left (by omega),fh j (.inl (by omega)),List.getElem?_append_left (by omega)]
    ·rw[List.getElem?_append_right (by omega),List.getElem?_drop,jm,show a.sz+(j - a.sz)=j by omega]
   ·rw[k1];exact Own.move HS (λk d rest hd hk=>H2 k d rest (by simp only[Ty.sz];omega) (by omega) hk) h2
   ·rw[k2];refine ih hc hz (λk d rest hd hn hk=>?_) ?_ (λj hj=>?_) ?_ h3
    ·have:=H2 k (a.sz+d) rest (by simp only[Ty.sz];omega) (by omega) (by rw[hk,Nat.add_assoc])
     rwa [<-Nat.add_assoc]at this
    ·simp only[List.length_append]at hl;rw[List.length_drop];omega
    ·rw[List.getElem?_drop,fh _ (by omega),List.getElem?_append_right (by omega),jm,show a.sz+j - a.sz=j by omega]
    ·rw[List.drop_drop,<-Nat.add_assoc]at *
     exact hy
 | _ =>
  intro i m x x' o cs a7 t1 y x1 o1 log hc hm H2 hl fh hy h;cases i with
  | zero =>
   simp only[comp,Option.some.injEq,Prod.mk.injEq]at hc;obtain⟨rfl,hc⟩:=hc;cases hc;simp only[gX]at hm;obtain⟨e,rfl⟩:=VF hm;have hlen:=bV.len h;simp only[bV];rw[(V2 m).1];rw[List.drop_zero,List.take_of_length_le (by omega)]at hy;exact hy
  | succ i=>simp[comp]at hc
theorem Vy{m:Nat}{ta:Ty}{x:ta.den}:(mH m ta x).aD=true/\(mH m ta x).root=none:=by
 unfold mH;cases re m ta<;>exact⟨rfl,rfl⟩
theorem WH[ae](hI:Inv w0 L0 N vs T a w L)(hC:bt P C){o:Oper}{X:TypeId}{t off m0:Nat}{ta:Ty}{x0:ta.den}(ho:o.op = .store X (.tmp t) x)(av:o.dst=none)
  (cK:∃g,a.eval (.tmp t) = .pointer (some ⟨g,off,none⟩)/\L g = .own r [])
  (dr:∃g cur e,a.tmps.getD r undef = .pointer (some ⟨g,0,none⟩)/\L g = .own r []/\w.heap[g]?=some (.cells cur e (0,0))/\cur.size=ta.sz/\bV w L r m0 ta x0 0 cur.toList)
  (br:(T.getD r .dead).dm=false) (h:(B0 C vs N kids X r i off m0 ta x0 x).ai T ups log):Step P o w0 L0 N vs (ah T ups) a w:=by
 unfold B0 at h;split at h
 ·rename_i s;obtain⟨ay,rfl,h⟩:=h;generalize hv:T.getD s .dead=v at h;dsimp only at h;split at h
  ·rename_i k t1 y;split at h
   ·rename_i o1 t2 x1 SO;split at h
    ·rename_i hc;obtain⟨rfl,rfl,nN,SU,hX,bh,bj,c8,SH,jr⟩:=hc;obtain⟨x2,l1,l2,rfl,uF,h⟩:=M.ak h;obtain⟨cJ,log2,h⟩:=jP h;obtain⟨rfl,_⟩:=h;have TJ:s∉vs:=λhm=>by rw[List.contains_iff_mem.2 hm]at bh;cases bh
     obtain⟨g,hp,hg⟩:=cK;obtain⟨g',cur,e,c1,c2,c3,c4,c5⟩:=dr;obtain rfl:=hI.inj g g' r _ hg c2;have gS:=hI.aS s;rw[hv]at gS;obtain⟨_,cs,hf,bM⟩:=gS;have dH:=Own.one bM;have hlen:=Own.len bM;obtain⟨oY,_⟩:=bV.RG c5 SO;have bd:o1+t2.sz<=cur.size:=by rw[c4];exact oY
     have aJ:(execOp a.eval o).run P w = .ok .skip (w.setRow g (putCells cur o1 cs)):=by
      have um:Form t2 cs (a.eval (.tmp s)):=hf;simp[execOp,ho,hp,sd (hC X _ hX) c3 um dH hlen bd]
     have bW:s<N:=ai2 hI (by rw[hv];simp);have mq:∀z,z≠s->(T.getD z .dead).on r=true->∃p' t',T.getD z .dead = .ptr r p' t'/\shallow p'=true:=by
      intro z gv af;have hb:(T.getD z .dead).dV r=false:=cJ z gv;unfold V.dV at hb;rw[af,Bool.true_and]at hb;generalize T.getD z .dead=v at hb af;cases v with
      | ptr r2 p2 t2 =>
       have:r2=r:=by simpa[V.on,V.root]using af
       subst this;exact⟨p2,t2,rfl,by simpa using hb⟩
      | _=>simp at hb
     have bJ:(ah T [(r,mH (m0 ||| 2 ^ i) ta x2),(s,.dead)]).getD s .dead = .dead:=by
      show ((T.set r _).set s _).getD s .dead=_;rw[az,if_pos ⟨rfl,by simp[hI.len,bW]⟩]
     have bw:(ah T [(r,mH (m0 ||| 2 ^ i) ta x2),(s,.dead)]).getD r .dead=mH (m0 ||| 2 ^ i) ta x2:=by
      show ((T.set r _).set s _).getD r .dead=_;rw[az,if_neg (λh=>bj h.1.symm),az,if_pos ⟨rfl,by rw[hI.len];exact c8⟩]
     have bg:∀z,z≠r->z≠s->(ah T [(r,mH (m0 ||| 2 ^ i) ta x2),(s,.dead)]).getD z .dead=T.getD z .dead:=by
      intro z h1 h2;show ((T.set r _).set s _).getD z .dead=_;rw[az,if_neg (λh=>h2 h.1),az,if_neg (λh=>h1 h.1)]
     have cL:some s≠some r:=by simpa using bj
     have kc:∀k,k≠g->(w.setRow g (putCells cur o1 cs)).heap[k]?=w.heap[k]?:=λk hk=>setRow_other w g k _ hk;have ji:fe (dw r [] o1 t2.sz t2.depth (some s)) (λz=>z=r\/z=s\/(T.getD z .dead).on r=true):=WD cL (.inl rfl) (λs' h=>by cases h;exact .inr (.inl rfl));have Hw:∀kk z,L kk = .own r z->¬jN [] o1 t2.sz z->aP (dw r [] o1 t2.sz t2.depth (some s)) w L (λ_=>.free) kk = .own r z:=by
      intro kk z hk hu;rw[cM hI (by rw[hk];simp),hk];simp only[ef,dw];rw[if_pos trivial,if_neg];intro h;simp only[Bool.and_eq_true]at h;exact hu (p7.1 h.2)
     have fH:∀{q},jN [] o1 t2.sz q->q≠[]:=by
      rintro q ⟨d,rest,_,rfl⟩ h;simp at h
     have fX:aP (dw r [] o1 t2.sz t2.depth (some s)) w L (λ_=>.free) g = .own r []:=Hw g [] hg (λh=>fH h rfl);intro K Q hK;unfold Oper.wp;rw[aJ,Oper.upon_skip,av];refine hK a _ (aP (dw r [] o1 t2.sz t2.depth (some s)) w L (λ_=>.free)) ?_;refine Inv.gf (X:=λz=>z=r\/z=s\/(T.getD z .dead).on r=true) hI ji ?_ (λ_ _ _ _ _ h=>by cases h) hI.size (by rw[cj,hI.len]) hI.dy ?_ ?_ ?_ ?_ ?_
     ·refine⟨rfl,rfl,rfl,by simp[World.setRow],Nat.le_refl _,λkk hk hx=>kc kk ?_,λ_ _=>rfl,λ_ _ _ _ h=>by cases h⟩
      rintro rfl
      exact hx r _ hg (.inl rfl)
     ·intro kk z q rq h;by_cases h1:z=r
      ·subst h1;rw[bw];exact Vy.1
      ·unfold aP at h;split at h
       ·obtain⟨s0,q0,e0,f0⟩:=ey h;rcases pY cL f0 with⟨_,rfl,_⟩|⟨_,rfl,_⟩|⟨h2,h3,rfl,rfl⟩
        ·exact absurd rfl h1
        ·exact absurd rfl h1
        ·have h3:z≠s:=λe=>h3 (by rw[e]);rw[bg z h1 h3];exact hI.owner kk z q e0
       ·cases h
     ·intro z r' bR af aV;have bR:=not_or.1 bR;have dj:=not_or.1 bR.2;rcases aV with rfl|rfl|aV
      ·exact absurd af dj.2
      ·exact absurd (hI.roots z r' af) TJ
      ·by_cases h2:r'=s
       ·subst h2;exact absurd (hI.roots z r' af) TJ
       ·obtain⟨p',t',he,_⟩:=mq r' h2 aV;rw[he];rfl
     ·intro z bR;have bR:=not_or.1 bR;have dj:=not_or.1 bR.2;exact⟨bg z bR.1 dj.1,rfl⟩
     ·intro z r' bR af;by_cases h1:z=r
      ·subst h1;rw[bw]at af;simp[V.on,Vy.2]at af
      ·by_cases h2:z=s
       ·subst h2;rw[bJ]at af;simp[V.on,V.root]at af
       ·rw[bg z h1 h2]at af;exact hI.roots z r' af
     ·intro z bR;by_cases h1:z=r
      ·subst h1;rw[bw];have lb:bV (w.setRow g (putCells cur o1 cs)) (aP (dw z [] o1 t2.sz t2.depth (some s)) w L (λ_=>.free)) z (m0 ||| 2 ^ i) ta x2 0 (putCells cur o1 cs).toList:=by
        refine bV.mod (λkk hk=>⟨dQ hI hk,kc kk (by rintro rfl;rw[hg]at hk;cases hk)⟩) SO uF (λkk d rest hd hn hk=>?_) ?_ (λj hj=>?_) ?_ c5
        ·refine⟨Hw kk _ hk (λhu=>?_),kc kk (by rintro rfl;rw[hg]at hk;injection hk with _ hk;cases hk)⟩;obtain⟨d',e9,nM,he⟩:=hu;simp only[List.nil_append,List.cons.injEq]at he;omega
        ·have:=Cl (cur:=cur) (o:=o1) (cs:=cs) (by omega);simpa using this
        ·have:=Ck (cur:=cur) (o:=o1) (cs:=cs) (by omega) j (by omega);simpa using this
        ·have oX:=Cj (cur:=cur) (o:=o1) (cs:=cs) (by omega);rw[hlen]at oX;rw[oX];refine Own.eL SU (λkk hk=>?_) (λkk d rest hd hk=>?_) bM
         ·rcases hk with hk|⟨_,_,hk,_⟩
          ·exact⟨.inl (dQ hI hk),kc kk (by rintro rfl;rw[hg]at hk;cases hk)⟩
          ·cases hk
         ·have hh:aP (dw z [] o1 t2.sz t2.depth (some s)) w L (λ_=>.free) kk=if rest.length<t2.depth then .own z ((o1+d)::rest)else .al:=by
           rw[cM hI (by rw[hk];simp),hk];simp only[ef,dw,List.nil_append,Nat.zero_add];rw[if_neg bj,if_pos trivial,if_pos hd]
          refine⟨kc kk (by rintro rfl;rw[hg]at hk;injection hk with hk _;exact bj hk.symm),λhl=>?_,λhl=>.inl ?_⟩
          ·rw[hh,if_pos hl];simp
          ·show aP _ _ _ _ kk=_;rw[hh,if_neg (by omega)]
       have SZ:=setRow_heap w g cur (putCells cur o1 cs) e (0,0) c3;have TG:=Cl (cur:=cur) (o:=o1) (cs:=cs) (by omega);unfold mH;cases hfu:re (m0 ||| 2 ^ i) ta with
       | true =>
        refine⟨by simp,g,putCells cur o1 cs,e,c1,fX,SZ,by rw[TG];exact c4,?_⟩;simp only[Own];exact bV.full (Nat.le_refl _) hfu lb
       | false=>exact⟨g,putCells cur o1 cs,e,c1,fX,SZ,by rw[TG];exact c4,lb⟩
      ·by_cases h2:z=s
       ·subst h2;rw[bJ];trivial
       ·have af:(T.getD z .dead).on r=true:=by
         rcases bR with h|h|h
         ·exact absurd h h1
         ·exact absurd h h2
         ·exact h
        rw[bg z h1 h2];obtain⟨p',t',he,dP⟩:=mq z h2 af;have pk:=hI.aS z;rw[he]at pk ⊢;obtain⟨g2,j1,j2⟩:=pk;refine⟨g2,j1,?_⟩;rw[pU dP]at j2 ⊢;exact Hw g2 [] j2 (λh=>fH h rfl)
    ·exact h.elim
   ·exact h.elim
  ·exact h.elim
 ·exact h.elim
theorem akW[ae](hI:Inv w0 L0 N vs T a w L)(hC:bt P C){t:Nat}(ho:o.op = .store X (.tmp t) x)(av:o.dst=none)
  (ht:addrOf t (T.getD t .dead)=some (r,p)) (cK:∀r p,addrOf t (T.getD t .dead)=some (r,p)->∃g,a.eval (.tmp t) = .pointer (some ⟨g,(node [] 0 p).2,none⟩)/\L g = .own r (node [] 0 p).1)
  (hr:T.getD r .dead=u) (h:(ID C vs N kids X r p u x m).ai T ups log) (hm:∀log,m.ai T ups log->Step P o w0 L0 N vs (ah T ups) a w):Step P o w0 L0 N vs (ah T ups) a w:=by
 unfold ID at h;split at h
 ·rename_i i off;have Hm:=cK r _ ht;simp only[node,Nat.zero_add]at Hm;have ba:=hI.aS r;rw[hr]at ba;split at h
  ·rename_i ta x0;obtain⟨_,g,cur,e,h1,h2,h3,h4,h5⟩:=ba;simp only[Own]at h5;exact WH (ta:=ta) (x0:=x0) hI hC ho av Hm ⟨g,cur,e,h1,h2,h3,h4,bV.of0 (t:=ta) h5⟩ (by rw[hr];rfl) h
  ·rename_i m0 ta x0;exact WH hI hC ho av Hm ba (by rw[hr];rfl) h
  ·exact hm _ h
 ·exact hm _ h
end
def vn(r:Nat)(v:V):Bool := !v.dV r||(match v with
 | .ptr _ _ _=>true
 | .view _ [] _=>true
 | _=>false)
def Io{α:Type}(r:Nat):List Nat->M α->M α
 | [],m=>m
 | k::l,m=>.get k λv=>.bc (vn r v) (Io r l m)
def JA(C:Ctx)(N:Nat)(kids:List Nat)(X:TypeId)(r:Nat)(p:List St)(u:V)(x:Operand)(m:M (List (Nat×V))):M (List (Nat×V)):=
 (dp p u).bind λz =>
  if z.2.t.depth=0/\u.dm=true/\C.ty X=some z.2.t/\(u.root != some r)=true/\r<N/\r<100000 then
   (cq C X x).bind λv=>match v with
   | .d none _ t' y=>if h:t'=z.2.t then (fw p u z.2.t (h▸y)).bind λu'=>Io r kids (.ask (tK r (iK false (r::kids))) (.ret [(r,u')]))else .fail
   | _=>.fail
  else m
section
variable{P:Program}{C:Ctx}{w w' w0:World}{S S':Nat->Prop}{L L' L0:Nat->aj}{s N:Nat}{vs:List Nat}{T T':List V}{tm tm':Array Value}{a:Act}
theorem U9{α:Type}{m:M α}{x:α}:{l:List Nat}->{log:List Nat}->(Io r l m).ai T x log->(∀k∈l,vn r (T.getD k .dead)=true)/\∃ay,m.ai T x ay
 | [],log,h=>⟨by simp,log,h⟩
 | k::l,log,h=>by
  obtain⟨ay,rfl,hc,h⟩:=h;obtain⟨h1,h2⟩:=U9 (l:=l) h;refine⟨λk' aA=>?_,h2⟩;rcases List.mem_cons.1 aA with rfl|aA
  ·exact hc
  ·exact h1 k' aA
theorem ak0[ae](hI:Inv w0 L0 N vs T a w L)(hC:bt P C){m:M (List (Nat×V))}(ho:o.op = .store X (.tmp t) x)(av:o.dst=none)
  (ht:addrOf t (T.getD t .dead)=some (r,p)) (cK:∀r p,addrOf t (T.getD t .dead)=some (r,p)->∃g,a.eval (.tmp t) = .pointer (some ⟨g,(node [] 0 p).2,none⟩)/\L g = .own r (node [] 0 p).1)
  (hr:T.getD r .dead=u) (h:(JA C N kids X r p u x m).ai T ups log) (hm:∀log,m.ai T ups log->Step P o w0 L0 N vs (ah T ups) a w):Step P o w0 L0 N vs (ah T ups) a w:=by
 obtain⟨⟨l,n',t',x'⟩,l1,l2,rfl,hz,h⟩:=M.ak h;dsimp only at h;split at h
 ·rename_i hc;obtain⟨hd,mz,hX,nT,c8,HI⟩:=hc;clear hm;obtain⟨v,l3,l4,rfl,hv,h⟩:=M.ak h;split at h
  ·rename_i k tv y;split at h
   ·rename_i pn;subst pn;obtain⟨u',l5,l6,rfl,uF,h⟩:=M.ak h;obtain⟨Hu,log2,h⟩:=U9 h;obtain⟨⟨hq,_⟩,fu,rfl,h⟩:=h;obtain⟨rfl,_⟩:=h;have aI:∀z,z≠r->vn r (T.getD z .dead)=true:=by
     intro z hz;by_cases hm:z∈kids
     ·exact Hu z hm
     ·have:=Gl HI hq z (vb (by simp[hz,hm]));rw[vc]at this;have this:(T.getD z .dead).dV r=false:=this;unfold vn;rw[this];rfl
    obtain⟨g,o4,hg⟩:=cK r p ht;have ba:=hI.aS r;rw[hr]at ba;obtain⟨⟨g',cur,e,k1,k2,k3,k4⟩,_,_,gr,kY⟩:=ky hz ba;obtain rfl:=hI.inj g g' r _ hg k1;have dK:∃cs s0,Form tv cs (a.eval x)/\Own w L (SL L none) s0 k tv y [] 0 cs:=by
     rcases jz hI hv with⟨s,rfl,_,hs⟩|⟨_,hs⟩
     ·obtain⟨_,cs,hf,bM⟩:=hs;exact⟨cs,s,hf,bM⟩
     ·obtain⟨_,cs,hf,bM⟩:=hs L T a.tmps 0 w;exact⟨cs,0,hf,bM⟩
    obtain⟨cs,s0,hf,bM⟩:=dK;have dH:=Own.one bM;have hlen:=Own.len bM;have aJ:(execOp a.eval o).run P w = .ok .skip (w.setRow g (putCells cur (node [] 0 p).2 cs)):=by
     simp[execOp,ho,o4,sd (hC X _ hX) k2 hf dH hlen k3]
    have bw:(ah T [(r,u')]).getD r .dead=u':=by
     show (T.set r u').getD r .dead=u';rw[az,if_pos ⟨rfl,by rw[hI.len];exact c8⟩]
    have bg:∀z,z≠r->(ah T [(r,u')]).getD z .dead=T.getD z .dead:=by
     intro z hz;show (T.set r u').getD z .dead=_;rw[az,if_neg (λh=>hz h.1)]
    intro K Q hK;unfold Oper.wp;rw[aJ,Oper.upon_skip,av];refine hK a _ _ (Inv.store (m:=n') (src:=none) hI hr hz uF (by simpa using nT) hg k2 k3 hlen (by simp) (by rw[cj,hI.len]) bw ?_ (λz hz _ _=>bg z hz) (Own.flat hd bM));intro z hz _ af;refine .inr ⟨bg z hz,?_⟩;have hk:=aI z hz;unfold vn V.dV at hk;rw[af,Bool.true_and]at hk;generalize T.getD z .dead=vz at hk af;cases vz with
    | ptr r2 p2 t2=>exact .inl rfl
    | view r2 p2 t2 =>
     cases p2 with
     | nil=>exact .inl (by simpa[bU]using mz)
     | cons _ _=>simp at hk
    | _=>simp at hk
   ·exact h.elim
  ·exact h.elim
 ·exact hm _ h
end
def pw(N:Nat):List Nat->M (List (Nat×V))->M (List (Nat×V))
 | [],m=>m
 | s::l,m=>.get s λv=>match v with
  | .d none n t x =>
   if n≠0/\t.depth≠0/\s<N then
    iu true s s [] (((pw N l m).eM [(s,.d none 0 t x)]).bind λups=>.ret ((s,.d none 0 t x)::ups))
   else pw N l m
  | _=>pw N l m
section
variable{P:Program}{C:Ctx}{w w' w0:World}{L L' L0:Nat->aj}{s N:Nat}{vs:List Nat}{a:Act}
theorem uX[ae]:{l:List Nat}->{T:List V}->{L:Nat->aj}->{ups:List (Nat×V)}->{log:List Nat}->Inv w0 L0 N vs T a w L->(pw N l m).ai T ups log ->
  ∃T1 L1 bL log2,Inv w0 L0 N vs T1 a w L1/\m.ai T1 bL log2/\ah T ups=ah T1 bL
 | [],T,L,ups,log,hI,h=>⟨T,L,ups,log,hI,h,rfl⟩
 | s::l,T,L,ups,log,hI,h=>by
  simp only[pw]at h;obtain⟨ay,rfl,h⟩:=h;dsimp only at h;split at h
  ·rename_i n t x hv;split at h
   ·rename_i hc;obtain⟨hn,hd,bW⟩:=hc;obtain⟨cJ,log2,h⟩:=jP h;obtain⟨bL,l3,l4,rfl,h1,h2⟩:=M.ak h;obtain⟨rfl,_⟩:=h2;have ba:s<T.length:=by rw[hI.len];exact bW
    have o8:∀z,(T.set s (.d none 0 t x)).getD z .dead=(eJ [(s,.d none 0 t x)] z).getD (T.getD z .dead):=λz=>by
     simp only[eJ];rw[az];by_cases h1:z=s
     ·subst h1;simp[ba]
     ·have e1:(s==z)=false:=by simpa using Ne.symm h1
      rw[e1];simp[h1]
    obtain⟨fu,h1⟩:=pN (T':=T.set s (.d none 0 t x)) (by simp) (λz hz=>by
     simp only[List.map_cons,List.map_nil,List.mem_cons,List.not_mem_nil,or_false]at hz;rw[hz];exact ba) o8 _ h1
    obtain⟨L1,bu⟩:=Inv.freeze (T':=T.set s (.d none 0 t x)) hI (X:=λz=>z==s) (lev:=λ_=>0) (λz r hr=>by
      have hr:r=s:=by simpa using hr
      subst hr;by_cases hz:z=r
      ·subst hz;rw[hv];rfl
      ·simpa using cJ z hz) (λz hz=>by
      have hz:z=s:=by simpa using hz
      subst hz;rw[hv];rfl) (λz _=>Nat.zero_le _) (by simp[hI.len]) (λz=>by
      rw[az];by_cases hz:z=s
      ·subst hz;rw[if_pos ⟨rfl,ba⟩,hv];simp[iy]
      ·have:(z==s)=false:=by simpa using hz
       rw[if_neg (λh=>hz h.1),this];rfl)
    obtain⟨T1,L2,kG,ke,k1,k2,k3⟩:=uX bu h1;exact⟨T1,L2,kG,ke,k1,k2,k3⟩
   ·exact uX hI h
  ·exact uX hI h
end
def qZ(s:Nat):V->M (Nat×D)
 | .box none k t' y=>.ret (s,⟨k,t',y⟩)
 | .ptr r [] _=>.get r λu=>match u with
  | .box none k t' y=>.ret (r,⟨k,t',y⟩)
  | _=>.fail
 | _=>.fail
def I5(t:Ty)(n:Nat)(x:Operand):M (t.den×Nat):=
 match x with
 | .tmp s=>.get s λv=>(qZ s v).bind λz=>if h:z.2.t=t then (if z.2.n=n then .ret (h▸z.2.x,z.1)else .fail)else .fail
 | _=>.fail
def qX(C:Ctx):Nat->(ps:List (Ty×Mode))->List Operand->M (kI ps)
 | _,[],[]=>.ret ⟨(),[],[]⟩
 | i,(t,.ro)::ps,x::xs=>(oG C t x).bind λy=>(qX C (i+1) ps xs).bind λr=>.ret ⟨(y.1,r.x),y.2++r.ls,r.mu⟩
 | i,(t,.ptr n)::ps,x::xs=>(I5 t n x).bind λy=>(qX C (i+1) ps xs).bind λr=>.ret ⟨(y.1,r.x),r.ls,(y.2,i)::r.mu⟩
 | _,_,_=>.fail
def vh:(ps:List (Ty×Mode))->(cm ps).den->Option V
 | [],_=>none
 | (t,.ptr n)::_,x=>some (.box none n t x.1)
 | (_,.mut _)::_,_=>none
 | (_,.bQ _)::_,_=>none
 | (_,.ro)::ps,x=>vh ps x
def oU:List (Ty×Mode)->Bool
 | []=>true
 | (t,.ptr n)::ps=>decide (t.depth<=n)&&oU ps
 | _::ps=>oU ps
def cB(r d:Nat):Nat->V->Bool:=λz v=>v.on r&&z != r&&z != d
def Gx(C:Ctx)(bf:dx)(vs:List Nat)(N d:Nat)(f:FuncId)(args:List Operand):M (List (Nat×V)):=
 match bf f with
 | none=>.fail
 | some F=>(qX C 0 F.ps args).bind λA=>match A.mu with
  | [(r0,_)]=>cond (A.ls.contains r0 || !decide (r0<N) || !(A.ls.isEmpty||oU F.ps)) .fail (.cr (.pair (cG F.rs) (cm F.ps)) (F.ao A.x) λr=>match lF vs A.ls F.rs r.1,vh F.ps r.2 with
   | some v,some u'=>(allM 0 N).bind λTs=>.bc (q9 (cB r0 d) 0 Ts) (.ret (((r0,u')::b7 (cB r0 d) 0 Ts)++[(d,v)]))
   | _,_=>.fail)
  | _=>.fail
def Gb:List (Ty×Mode)->Bool
 | []=>false
 | (_,.ptr _)::_=>true
 | _::ps=>Gb ps
def Gz(C:Ctx)(bf:dx)(vs:List Nat)(N d:Nat)(f:FuncId)(args:List Operand):M (List (Nat×V)):=
 match bf f with
 | none=>.fail
 | some F=>cond (Gb F.ps) (Gx C bf vs N d f args) (Gy C bf vs N d f args)
section
variable{P:Program}{C:Ctx}{w w' w0:World}{S S':Nat->Prop}{L L' L0:Nat->aj}{s N:Nat}{vs:List Nat}{T T':List V}{tm tm':Array Value}{a:Act}
theorem Rm[ae](hI:Inv w0 L0 N vs T a w L){s:Nat}{z:D}(h:(qZ s (T.getD s .dead)).ai T (r,z) log):
  T.getD r .dead = .box none z.n z.t z.x/\a.tmps.getD s undef=a.tmps.getD r undef:=by
 have hs:=hI.aS s;generalize hv:T.getD s .dead=v at h hs;unfold qZ at h;split at h
 ·obtain⟨h,_⟩:=h;injection h with h1 h2;subst h1 h2;exact⟨hv,rfl⟩
 ·rename_i r' t';obtain⟨ay,rfl,h⟩:=h;have hr:=hI.aS r';generalize hu:T.getD r' .dead=u at h hr;dsimp only at h;split at h
  ·obtain⟨h,_⟩:=h;injection h with h1 h2;subst h1 h2;obtain⟨g,e1,e2⟩:=hs;obtain⟨_,g',cur,e,e3,e4,_⟩:=hr;obtain rfl:=hI.inj g g' _ _ e2 e4;exact⟨hu,by rw[e1,e3];rfl⟩
  ·exact h.elim
 ·exact h.elim
theorem ajD[ae](hI:Inv w0 L0 N vs T a w L){t:Ty}{y:t.den}(h:(I5 t n x).ai T (y,r) log):
  T.getD r .dead = .box none n t y/\a.eval x=a.tmps.getD r undef:=by
 unfold I5 at h;split at h
 ·rename_i s;obtain⟨ay,rfl,h⟩:=h;have hb:=M.ak (m:=qZ s (T.getD s .dead)) h;clear h;obtain⟨⟨r',z⟩,l1,l2,rfl,h1,h⟩:=hb;obtain⟨k1,k2⟩:=Rm hI h1;obtain⟨n',t',y'⟩:=z;dsimp only at h k1;split at h
  ·rename_i ht;subst ht;split at h
   ·rename_i hk;subst hk;obtain⟨h,_⟩:=h;injection h with h1 h2;subst h1 h2;exact⟨k1,k2⟩
   ·exact h.elim
  ·exact h.elim
 ·exact h.elim
theorem Gj[ae](hI:Inv w0 L0 N vs T a w L):{ps:List (Ty×Mode)}->{i:Nat}->{xs:List Operand}->{A:kI ps}->{log:List Nat}->(qX C i ps xs).ai T A log ->
  (∀r∈A.ls,(T.getD r .dead).deep=true)/\(∀r j,(r,j)∈A.mu->i<=j/\∃t n y,ps[j - i]?=some (t,.ptr n)/\T.getD r .dead = .box none n t y/\(xs.map a.eval)[j - i]?=some (a.tmps.getD r undef)) /\
  (∀j t m,ps[j]?=some (t,m)->m.back=true->∃r,(r,i+j)∈A.mu) /\
  ∀L1:Nat->aj,(∀k,L k = .al->L1 k = .al)->(∀k r q,r∈A.ls->L k = .own r q->L1 k = .al)->(∀k r j q,(r,j)∈A.mu->L k = .own r q->L1 k = .own j q)->dE w L1 i ps A.x (xs.map a.eval)
 | [],i,[],A,log,h=>by
  obtain⟨rfl,_⟩:=h;exact⟨by simp,by simp,by simp,λ_ _ _ _=>rfl⟩
 | (t,.ro)::ps,i,x::xs,A,log,h=>by
  simp only[qX]at h;obtain⟨⟨y,ls⟩,l1,l2,rfl,h1,h⟩:=M.ak h;obtain⟨A',l3,l4,rfl,h2,h⟩:=M.ak h;obtain⟨rfl,_⟩:=h;obtain⟨cells,k1,k2,k3⟩:=tE hI h1;obtain⟨j1,j2,j4,j3⟩:=Gj hI h2;refine⟨λr hr=>?_,λr j hm=>?_,λj t' n hj a8=>?_,λL1 H1 H2 H3=>?_⟩
  ·rcases List.mem_append.1 hr with hr|hr
   ·exact k2 r hr
   ·exact j1 r hr
  ·obtain⟨hi,t',n',y',e1,e2,e3⟩:=j2 r j hm;have:j - i=(j - (i+1))+1:=by omega
   exact⟨by omega,t',n',y',by rw[this];simpa using e1,e2,by rw[this];simpa using e3⟩
  ·cases j with
   | zero =>
    simp only[List.getElem?_cons_zero,Option.some.injEq,Prod.mk.injEq]at hj;rw[<-hj.2]at a8;cases a8
   | succ j =>
    obtain⟨r,hr⟩:=j4 j t' n (by simpa using hj) a8;exact⟨r,by rw[show i+(j+1)=i+1+j by omega];exact hr⟩
  ·exact⟨a.eval x,_,cells,rfl,k1,Own.du (k3 _ H1 (λk r q hr hk=>H2 k r q (List.mem_append_left _ hr) hk)),j3 L1 H1 (λk r q hr hk=>H2 k r q (List.mem_append_right _ hr) hk) H3⟩
 | (t,.ptr n)::ps,i,x::xs,A,log,h=>by
  simp only[qX]at h;obtain⟨⟨y,r0⟩,l1,l2,rfl,h1,h⟩:=M.ak h;obtain⟨A',l3,l4,rfl,h2,h⟩:=M.ak h;obtain⟨rfl,_⟩:=h;obtain⟨k1,k4⟩:=ajD hI h1;obtain⟨j1,j2,j4,j3⟩:=Gj hI h2;refine⟨j1,λr j hm=>?_,λj t' n' hj a8=>?_,λL1 H1 H2 H3=>?_⟩
  ·rcases List.mem_cons.1 hm with hm|hm
   ·injection hm with e1 e2;subst e1 e2;exact⟨Nat.le_refl _,t,n,y,by simp,k1,by simp[k4]⟩
   ·obtain⟨hi,t',n',y',e1,e2,e3⟩:=j2 r j hm;have:j - i=(j - (i+1))+1:=by omega
    exact⟨by omega,t',n',y',by rw[this];simpa using e1,e2,by rw[this];simpa using e3⟩
  ·cases j with
   | zero=>exact⟨r0,by simp⟩
   | succ j =>
    obtain⟨r,hr⟩:=j4 j t' n' (by simpa using hj) a8;exact⟨r,by rw[show i+(j+1)=i+1+j by omega];exact List.mem_cons_of_mem _ hr⟩
  ·have hs:=hI.aS r0;rw[k1]at hs;obtain⟨_,g,cur,e,hf,hL,hg,hz,ho⟩:=hs;refine⟨a.eval x,_,rfl,⟨g,cur,e,by rw[k4];exact hf,H3 g r0 i _ (by simp) hL,hg,hz,?_⟩,j3 L1 H1 H2 (λk r j q hm hk=>H3 k r j q (List.mem_cons_of_mem _ hm) hk)⟩;refine Own.move (λk hk=>⟨?_,rfl⟩) (λk d rest _ hk=>⟨H3 k r0 i _ (by simp) hk,rfl⟩) ho;rcases hk with hk|⟨_,_,hk,_⟩
   ·exact H1 k hk
   ·cases hk
 | [],_,_::_,_,_,h=>h.elim
 | (_,.ro)::_,_,[],_,_,h=>h.elim
 | (_,.mut _)::_,_,[],_,_,h=>h.elim
 | (_,.mut _)::_,_,_::_,_,_,h=>h.elim
 | (_,.ptr _)::_,_,[],_,_,h=>h.elim
 | (_,.bQ _)::_,_,[],_,_,h=>h.elim
 | (_,.bQ _)::_,_,_::_,_,_,h=>h.elim
theorem VK:{ps:List (Ty×Mode)}->{i:Nat}->{x:(cm ps).den}->{cs:List Value}->{v:V}->fp w L0 i ps x cs->vh ps x=some v ->
  ∃j t n y c,ps[j]?=some (t,.ptr n)/\v = .box none n t y/\cs[j]?=some c/\sL w L0 (λk=>L0 k = .al) (i+j) n t y c
 | [],_,_,_,_,_,hv=>by cases hv
 | (t,.mut n)::ps,i,x,cs,v,h,hv=>by cases hv
 | (t,.bQ n)::ps,i,x,cs,v,h,hv=>by cases hv
 | (t,.ptr n)::ps,i,x,cs,v,h,hv=>by
  simp only[fp]at h;obtain⟨c,a7,rfl,h1,_⟩:=h;simp only[vh,Option.some.injEq]at hv;exact⟨0,t,n,x.1,c,rfl,hv.symm,rfl,h1⟩
 | (t,.ro)::ps,i,x,cs,v,h,hv=>by
  simp only[fp]at h;obtain⟨c,a7,rfl,h⟩:=h;simp only[vh]at hv;obtain⟨j,t',n,y,c',h1,h2,h3,h4⟩:=VK h hv;exact⟨j+1,t',n,y,c',by simpa using h1,h2,by simpa using h3,by rw[show i+(j+1)=i+1+j by omega];exact h4⟩
theorem tY:{ps:List (Ty×Mode)}->oU ps=true->∀(j:Nat) (t:Ty) (n:Nat),ps[j]?=some (t,.ptr n)->t.depth<=n
 | [],_,j,t,n,hj=>by simp at hj
 | (t0,.ptr n0)::ps,h,j,t,n,hj=>by
  simp only[oU,Bool.and_eq_true,decide_eq_true_eq]at h;cases j with
  | zero =>
   simp only[List.getElem?_cons_zero,Option.some.injEq,Prod.mk.injEq,Mode.ptr.injEq]at hj;obtain⟨rfl,rfl⟩:=hj;exact h.1
  | succ j=>exact tY h.2 j t n (by simpa using hj)
 | (t0,.mut n0)::ps,h,j,t,n,hj=>by
  cases j with
  | zero=>simp at hj
  | succ j=>exact tY (ps:=ps) h j t n (by simpa using hj)
 | (t0,.ro)::ps,h,j,t,n,hj=>by
  cases j with
  | zero=>simp at hj
  | succ j=>exact tY (ps:=ps) h j t n (by simpa using hj)
 | (t0,.bQ n0)::ps,h,j,t,n,hj=>by
  cases j with
  | zero=>simp at hj
  | succ j=>exact tY (ps:=ps) h j t n (by simpa using hj)
theorem aeN[ae]{ls:List Nat}{ps:List (Ty×Mode)}{rs:List (Ty×Nat)}{m d:Nat}(hI:Inv w0 L0 N vs T a w L)(Hs:i≠m)(aZ:Left w w' (λk=>cw (some (r,i)) ls (L k)) L' ps rs):
  (∀k q',L' k = .own i q'->dq (some (r,i)) m d L L' k = .own r q') /\
  ∀{n:Nat} {t:Ty} {x:t.den} {q:List Nat} {o:Nat} {cs:List Value},(t.depth<=n\/ls=[]) ->
   Own w' L' (λk=>L' k = .al) i n t x q o cs->Own w' (dq (some (r,i)) m d L L') (SL (dq (some (r,i)) m d L L') none) r n t x q o cs:=by
 have bn:∀k q',L' k = .own i q'->dq (some (r,i)) m d L L' k = .own r q':=by
  intro k q' hk;have hp:fR (some (r,i)) (L k):=by
   apply Classical.byContradiction;intro hp;have au:k<w.heap.size:=hI.lt (λe=>hp (.inl e));have h9:=(aZ.aO k au (jF hp)).1;rw[hk]at h9;rcases jF (ls:=ls) hp with h|h<;>rw[h]at h9<;>cases h9
  rw[je hp,hk];simp[lW,Hs]
 refine⟨bn,λ{n t x q o cs} hl h=>?_⟩;rcases hl with hl|hl
 ·exact Own.move (S:=λ_=>False) (λk hk=>hk.elim) (λk dd rest _ hk=>⟨bn k _ hk,rfl⟩) (Own.full hl h)
 ·subst hl;refine Own.move (λk hk=>⟨.inl ?_,rfl⟩) (λk dd rest _ hk=>⟨bn k _ hk,rfl⟩) h;by_cases hp:fR (some (r,i)) (L k)
  ·rw[je hp,hk];rfl
  ·have au:k<w.heap.size:=hI.lt (λe=>hp (.inl e));have h9:=(aZ.aO k au (jF hp)).1;rw[hk]at h9;rw[nr hp];cases gq:L k with
   | al=>rfl
   | own s q' =>
    rw[gq]at h9;unfold cw at h9;dsimp only at h9;split at h9
    ·cases h9
    ·simp at h9
   | other=>rw[gq]at h9;cases h9
   | free=>exact absurd (.inl gq) hp
theorem akJ[ae](hI:Inv w0 L0 N vs T a w L)(dJ:fA P bf){d:Nat}  
  (ho:o.op = .call { callee:=.value (.func f),args,argTypes:=cn }) (av:o.dst=some d) (hd:d<N) (hid:(T.getD d .dead).idle=true)
  (h:(Gx C bf vs N d f args.toList).ai T ups log):Step P o w0 L0 N vs (ah T ups) a w:=by
 unfold Gx at h;split at h
 ·exact h.elim
 ·rename_i F hF;obtain⟨⟨fn,gO,fG,lZ⟩,aI⟩:=dJ f F hF;have hb:=M.ak h;clear h;obtain⟨A,l1,l2,rfl,h1,h⟩:=hb;obtain⟨dO,fF,o9,gn⟩:=Gj hI h1;have aJ:=Go.Conc.run_call_body (P:=P) (a:=a) (w:=w) ho gO fG lZ;have la:∀r∈A.ls,r≠d:=λr hr=>cV hid (V.eN (dO r hr));rcases eG:A.mu with _|⟨⟨r0,i⟩,_|⟨p2,rest⟩⟩
  ·rw[eG]at h;exact h.elim
  ·rw[eG]at h;dsimp only at h;cases hc:(A.ls.contains r0 || !decide (r0<N) || !(A.ls.isEmpty||oU F.ps))with
   | true=>rw[hc]at h;exact h.elim
   | false =>
    rw[hc]at h;obtain⟨r,eH,h⟩:=h;dsimp only at h;simp only[Bool.or_eq_false_iff,Bool.not_eq_false',decide_eq_true_eq]at hc;obtain⟨⟨dN,c8⟩,eW⟩:=hc;have iF:r0∉A.ls:=λhm=>by rw[List.contains_iff_mem.2 hm]at dN;cases dN
    split at h
    ·rename_i v u' hv pq;obtain⟨Ts,l3,l4,rfl,dA,jR,mB⟩:=M.ak h;obtain⟨rfl,_⟩:=mB;have bJ:Ts=T:=by rw[kN dA (by rw[Nat.zero_add,hI.len])];rfl
     subst bJ;obtain⟨_,t,n,y,h2,h5,h6⟩:=fF r0 i (by rw[eG];simp);simp only[Nat.sub_zero]at h2 h6;have rF:i<F.ps.length:=(List.getElem?_eq_some_iff.1 h2).1;have uO:r0≠d:=cV hid (by rw[h5];rfl);have iE:∀(j:Nat) (t:Ty) (m:Mode),F.ps[j]?=some (t,m)->m.back=true->j=i:=by
      intro j t m hj hm;obtain⟨r',aV⟩:=o9 j t m hj hm;rw[eG]at aV;simp only[List.mem_singleton,Prod.mk.injEq]at aV;omega
     have mf:jb w (λk=>cw (some (r0,i)) A.ls (L k)) F.ps:=by
      refine⟨λk hk=>by rw[hI.free k hk];rfl,λk k' s q h h'=>?_,λk s q h=>?_,ae.aO hI.fr.gm λk hk h0=>⟨?_,(hI.fr.aO k hk h0).2⟩⟩
      ·obtain⟨r1,e1,e2⟩:=kF h;obtain⟨r2,e3,e4⟩:=kF h';rw[e1]at e3;injection e3 with e3;injection e3 with e3 _;subst e3;exact hI.inj k k' _ _ e2 e4
      ·obtain⟨r1,e1,e2⟩:=kF h;injection e1 with e1;injection e1 with e1 e3;subst e1 e3;exact⟨t,.ptr n,h2,rfl⟩
      ·rw[(hI.fr.aO k hk h0).1];rcases h0 with h0|h0<;>rw[h0]<;>simp[cw]
     have dr:=gn (λk=>cw (some (r0,i)) A.ls (L k)) (λk hk=>by rw[hk];rfl) (λk r q hr hk=>by
      rw[hk];unfold cw;dsimp only;rw[if_neg (λe:r=r0=>iF (by rw[<-e];exact hr)),if_pos (by simpa using hr)]) (λk r j q hm hk=>by
      rw[hk];rw[eG]at hm;simp only[List.mem_singleton,Prod.mk.injEq]at hm;obtain⟨rfl,rfl⟩:=hm;simp[cw])
     intro K Q hK;unfold Oper.wp;rw[aJ,Oper.upon_enter];refine Calls.mono (aI A.x r eH w _ (args.map a.eval) mf (by simpa using dr)) ?_
     rintro e w' ⟨cs,L',rfl,aZ,bX,jn⟩
     dsimp only;rw[av];have jn:fp w' L' 0 F.ps r.2 (args.toList.map a.eval):=by simpa using jn
     refine hK _ _ (dq (some (r0,i)) F.ps.length d L L') ?_;have iz:ah Ts (((r0,u')::b7 (cB r0 d) 0 Ts)++[(d,v)])=(ah Ts ((r0,u')::b7 (cB r0 d) 0 Ts)).set d v:=by
      rw[kA];rfl
     have mg:(ah Ts ((r0,u')::b7 (cB r0 d) 0 Ts)).length=N:=by rw[cj,hI.len]
     have bO:(ah Ts (((r0,u')::b7 (cB r0 d) 0 Ts)++[(d,v)])).getD d .dead=v:=by
      rw[iz,az,if_pos ⟨rfl,by rw[mg];exact hd⟩]
     have bg:∀s,s≠d->(ah Ts (((r0,u')::b7 (cB r0 d) 0 Ts)++[(d,v)])).getD s .dead=(ah Ts ((r0,u')::b7 (cB r0 d) 0 Ts)).getD s .dead:=by
      intro s hs;rw[iz,az,if_neg (λe=>hs e.1)]
     have dY:∀s v,(s,v)∈((r0,u')::b7 (cB r0 d) 0 Ts)->(s=r0/\v=u')\/(v = .dead/\s≠r0/\(Ts.getD s .dead).on r0=true):=by
      intro s v hm;rcases List.mem_cons.1 hm with hm|hm
      ·injection hm with h1 h2;exact .inl ⟨h1,h2⟩
      ·obtain⟨h1,_,_,h2⟩:=(oQ s v).1 hm;simp only[Nat.sub_zero,cB,Bool.and_eq_true,bne_iff_ne]at h2;exact .inr ⟨h1,h2.1.2,h2.1.1⟩
     have bw:(ah Ts ((r0,u')::b7 (cB r0 d) 0 Ts)).getD r0 .dead=u':=by
      refine gG (by rw[hI.len];exact c8) (by simp) (λv hm=>?_);rcases dY r0 v hm with⟨_,h⟩|⟨_,h,_⟩
      ·exact h
      ·exact absurd rfl h
     have nJ:∀s,s≠d->s≠r0->(Ts.getD s .dead).on r0=true->(ah Ts ((r0,u')::b7 (cB r0 d) 0 Ts)).getD s .dead = .dead/\(Ts.getD s .dead).aD=false:=by
      intro s bH hs af;have gu:s<N:=by
       rcases Nat.lt_or_ge s N with h|h
       ·exact h
       ·rw[dW (by rw[hI.len];exact h)]at af;simp[V.on,V.root]at af
      have hg:cB r0 d s (Ts.getD s .dead)=true:=by
       unfold cB;rw[af];simp[hs,bH]
      refine⟨gG (by rw[hI.len];exact gu) ?_ (λv hm=>?_),?_⟩
      ·rw[List.mem_map];exact⟨(s,.dead),List.mem_cons_of_mem _ ((oQ s .dead).2 ⟨rfl,Nat.zero_le _,by rw[Nat.zero_add,hI.len];exact gu,by rw[Nat.sub_zero];exact hg⟩),rfl⟩
      ·rcases dY s v hm with⟨h,_⟩|⟨h,_⟩
       ·exact absurd h hs
       ·exact h
      ·exact A1 jR s (by rw[hI.len];exact gu) (by rw[Nat.zero_add];exact hg)
     have nI:∀s,s≠r0->(Ts.getD s .dead).on r0=false->(ah Ts ((r0,u')::b7 (cB r0 d) 0 Ts)).getD s .dead=Ts.getD s .dead:=by
      intro s hs af;refine eF _ _ _ (λhm=>?_);obtain⟨u,hu,he⟩:=List.mem_map.1 hm;rcases dY s u.2 (by rw[<-he];exact hu)with⟨h,_⟩|⟨_,_,h⟩
      ·exact hs h
      ·rw[af]at h;cases h
     have uD:∀r∈A.ls,((ah Ts (((r0,u')::b7 (cB r0 d) 0 Ts)++[(d,v)])).getD r .dead).deep=true:=by
      intro r hr;have fK:r≠r0:=λe=>iF (e▸hr);have ho:=V.eN (dO r hr);rw[bg r (la r hr)];cases af:(Ts.getD r .dead).on r0 with
      | false=>rw[nI r fK af];exact dO r hr
      | true =>
       have h:=(nJ r (la r hr) fK af).2;rw[h]at ho;cases ho
     obtain⟨j,t',n',y',c',m1,m2,m3,g,cur,e,m4,m5,m6,m7,m8⟩:=VK jn pq;have cC:=iE j t' _ m1 (by simp);subst cC;rw[h2]at m1;injection m1 with m1;injection m1 with m1 kf;injection kf with kf;subst m1 kf;rw[h6]at m3;injection m3 with m3;subst m3;rw[Nat.zero_add]at m5 m8;have Bx:j≠F.ps.length:=by omega
     obtain⟨b1,b2⟩:=aeN (d:=d) hI Bx aZ;obtain⟨k1,k2,k3⟩:=vx (T':=ah Ts (((r0,u')::b7 (cB r0 d) 0 Ts)++[(d,v)])) (d:=d) hI aZ rfl uD bX hv;have af1:t.depth<=n\/A.ls=[]:=by
      simp only[Bool.or_eq_true,List.isEmpty_iff]at eW;rcases eW with h|h
      ·exact .inr h
      ·exact .inl (tY h j t n h2)
     refine Inv.GB hI hd hid rfl (λr i h=>by injection h with h;injection h with _ h;subst h;exact rF) aZ (by rw[cj,hI.len]) (λj' t n hj hm=>by rw[iE j' t n hj hm];rfl) ?_ ?_ ?_ bO k1 k2 (λr i h=>by injection h with h;injection h with h _;subst h;exact iF) k3
     ·intro r i h;injection h with h;injection h with h h';subst h h';rw[bg r0 uO,bw,m2];exact⟨by rw[h5];rfl,.inr rfl,rfl,by simp,g,cur,e,m4,b1 _ _ m5,m6,m7,b2 af1 m8⟩
     ·intro s r i h bH bj af;injection h with h;injection h with h h';subst h h';rw[bg s bH];exact .inl (nJ s bH bj af)
     ·intro s bH hs;obtain⟨e1,e2⟩:=hs r0 j rfl;rw[bg s bH];exact nI s e1 e2
    ·exact h.elim
  ·rw[eG]at h;exact h.elim
theorem akL[ae](hI:Inv w0 L0 N vs T a w L)(dJ:fA P bf)       
  (ho:o.op = .call { callee:=.value (.func f),args,argTypes:=cn }) (av:o.dst=some d) (hd:d<N) (hid:(T.getD d .dead).idle=true)
  (h:(Gz C bf vs N d f args.toList).ai T ups log):Step P o w0 L0 N vs (ah T ups) a w:=by
 unfold Gz at h;split at h
 ·exact h.elim
 ·generalize Gb _=b at h;cases b with
  | true=>exact akJ hI dJ ho av hd hid h
  | false=>exact akK hI dJ ho av hd hid h
end
def GV(t:Ty)(n:Nat)(x:Operand):M (t.den×Nat):=
 match x with
 | .tmp s=>.get s λv=>match v with
  | .view r [] _=>.get r λu=>match u with
   | .d none k t' y=>if h:t'=t then (if t.depth<=k/\t.depth<=n/\t.depth≠0 then .ret (h▸y,r)else .fail)else .fail
   | _=>.fail
  | .d none k t' y=>if h:t'=t then (if t.depth<=k/\t.depth<=n/\t.depth≠0 then .ret (h▸y,s)else .fail)else .fail
  | _=>.fail
 | _=>.fail
def qW(C:Ctx):Nat->(ps:List (Ty×Mode))->List Operand->M (kI ps)
 | _,[],[]=>.ret ⟨(),[],[]⟩
 | i,(t,.ro)::ps,x::xs=>(oG C t x).bind λy=>(qW C (i+1) ps xs).bind λr=>.ret ⟨(y.1,r.x),y.2++r.ls,r.mu⟩
 | i,(t,.bQ n)::ps,x::xs=>(GV t n x).bind λy=>(qW C (i+1) ps xs).bind λr=>.ret ⟨(y.1,r.x),r.ls,(y.2,i)::r.mu⟩
 | _,_,_=>.fail
def Gw(C:Ctx)(bf:dx)(vs:List Nat)(N d:Nat)(f:FuncId)(args:List Operand):M (List (Nat×V)):=
 match bf f with
 | none=>.fail
 | some F=>(qW C 0 F.ps args).bind λA=>match A.mu with
  | [(r0,_)]=>cond (A.ls.contains r0 || !decide (r0<N)) .fail (.cr (.pair (cG F.rs) (cm F.ps)) (F.ao A.x) λr=>match lF vs A.ls F.rs r.1 with
   | some v=>(allM 0 N).bind λTs=>.bc (q9 (cB r0 d) 0 Ts) (.ret (((r0,.dead)::b7 (cB r0 d) 0 Ts)++[(d,v)]))
   | none=>.fail)
  | _=>.fail
def Ga:List (Ty×Mode)->Bool
 | []=>false
 | (_,.bQ _)::_=>true
 | _::ps=>Ga ps
def GA(C:Ctx)(bf:dx)(vs:List Nat)(N d:Nat)(f:FuncId)(args:List Operand):M (List (Nat×V)):=
 match bf f with
 | none=>.fail
 | some F=>cond (Ga F.ps) (Gw C bf vs N d f args) (Gz C bf vs N d f args)
section
variable{P:Program}{C:Ctx}{w w' w0:World}{S S':Nat->Prop}{L L' L0:Nat->aj}{s N:Nat}{vs:List Nat}{T T':List V}{tm tm':Array Value}{a:Act}
theorem ae4[ae](hI:Inv w0 L0 N vs T a w L){t:Ty}{y:t.den}(h:(GV t n x).ai T (y,r) log):
  ∃k,T.getD r .dead = .d none k t y/\t.depth<=k/\t.depth<=n/\t.depth≠0/\a.eval x=a.tmps.getD r undef:=by
 unfold GV at h;split at h
 ·rename_i s;obtain⟨ay,rfl,h⟩:=h;have hs:=hI.aS s;generalize hv:T.getD s .dead=v at h hs;dsimp only at h;split at h
  ·rename_i r' t2;obtain⟨log2,rfl,h⟩:=h;dsimp only at h;split at h
   ·rename_i n' t' y' hu;split at h
    ·rename_i ht;subst ht;split at h
     ·rename_i hc;obtain⟨hk,hn,hd⟩:=hc;obtain⟨h,_⟩:=h;injection h with h1 h2;subst h1 h2;refine⟨n',hu,hk,hn,hd,?_⟩;obtain⟨_,h1⟩:=hs;rcases h1 with⟨_,h2,_⟩|⟨_,_,_,h2,_⟩
      ·exact h2
      ·rw[hu]at h2;simp[V.dm]at h2
     ·exact h.elim
    ·exact h.elim
   ·exact h.elim
  ·rename_i n' t' y';split at h
   ·rename_i ht;subst ht;split at h
    ·rename_i hc;obtain⟨hk,hn,hd⟩:=hc;obtain⟨h,_⟩:=h;injection h with h1 h2;subst h1 h2;exact⟨n',hv,hk,hn,hd,rfl⟩
    ·exact h.elim
   ·exact h.elim
  ·exact h.elim
 ·exact h.elim
theorem Gg[ae](hI:Inv w0 L0 N vs T a w L):{ps:List (Ty×Mode)}->{i:Nat}->{xs:List Operand}->{A:kI ps}->{log:List Nat}->(qW C i ps xs).ai T A log ->
  (∀r∈A.ls,(T.getD r .dead).deep=true)/\(∀r j,(r,j)∈A.mu->i<=j/\∃t n k y,ps[j - i]?=some (t,.bQ n)/\T.getD r .dead = .d none k t y/\t.depth<=k/\t.depth<=n/\t.depth≠0/\(xs.map a.eval)[j - i]?=some (a.tmps.getD r undef)) /\
  (∀(j:Nat) (t:Ty) (m:Mode),ps[j]?=some (t,m)->m.back=false) /\
  ∀L1:Nat->aj,(∀k,L k = .al->L1 k = .al)->(∀k r q,r∈A.ls->L k = .own r q->L1 k = .al)->(∀k r j q,(r,j)∈A.mu->L k = .own r q->L1 k = .own j q)->dE w L1 i ps A.x (xs.map a.eval)
 | [],i,[],A,log,h=>by
  obtain⟨rfl,_⟩:=h;exact⟨by simp,by simp,by simp,λ_ _ _ _=>rfl⟩
 | (t,.ro)::ps,i,x::xs,A,log,h=>by
  simp only[qW]at h;obtain⟨⟨y,ls⟩,l1,l2,rfl,h1,h⟩:=M.ak h;obtain⟨A',l3,l4,rfl,h2,h⟩:=M.ak h;obtain⟨rfl,_⟩:=h;obtain⟨cells,k1,k2,k3⟩:=tE hI h1;obtain⟨j1,j2,j4,j3⟩:=Gg hI h2;refine⟨λr hr=>?_,λr j hm=>?_,λj t' m hj=>?_,λL1 H1 H2 H3=>?_⟩
  ·rcases List.mem_append.1 hr with hr|hr
   ·exact k2 r hr
   ·exact j1 r hr
  ·obtain⟨hi,t',n',k',y',e1,e2,e3,e4,e5,e6⟩:=j2 r j hm;have:j - i=(j - (i+1))+1:=by omega
   exact⟨by omega,t',n',k',y',by rw[this];simpa using e1,e2,e3,e4,e5,by rw[this];simpa using e6⟩
  ·cases j with
   | zero =>
    simp only[List.getElem?_cons_zero,Option.some.injEq,Prod.mk.injEq]at hj;rw[<-hj.2];rfl
   | succ j=>exact j4 j t' m (by simpa using hj)
  ·exact⟨a.eval x,_,cells,rfl,k1,Own.du (k3 _ H1 (λk r q hr hk=>H2 k r q (List.mem_append_left _ hr) hk)),j3 L1 H1 (λk r q hr hk=>H2 k r q (List.mem_append_right _ hr) hk) H3⟩
 | (t,.bQ n)::ps,i,x::xs,A,log,h=>by
  simp only[qW]at h;obtain⟨⟨y,r0⟩,l1,l2,rfl,h1,h⟩:=M.ak h;obtain⟨A',l3,l4,rfl,h2,h⟩:=M.ak h;obtain⟨rfl,_⟩:=h;obtain⟨k0,k1,k2,k3,k4,k5⟩:=ae4 hI h1;obtain⟨j1,j2,j4,j3⟩:=Gg hI h2;refine⟨j1,λr j hm=>?_,λj t' m hj=>?_,λL1 H1 H2 H3=>?_⟩
  ·rcases List.mem_cons.1 hm with hm|hm
   ·injection hm with e1 e2;subst e1 e2;exact⟨Nat.le_refl _,t,n,k0,y,by simp,k1,k2,k3,k4,by simp[k5]⟩
   ·obtain⟨hi,t',n',k',y',e1,e2,e3,e4,e5,e6⟩:=j2 r j hm;have:j - i=(j - (i+1))+1:=by omega
    exact⟨by omega,t',n',k',y',by rw[this];simpa using e1,e2,e3,e4,e5,by rw[this];simpa using e6⟩
  ·cases j with
   | zero =>
    simp only[List.getElem?_cons_zero,Option.some.injEq,Prod.mk.injEq]at hj;rw[<-hj.2];rfl
   | succ j=>exact j4 j t' m (by simpa using hj)
  ·have hs:=hI.aS r0;rw[k1]at hs;obtain⟨_,cells,hf,ho⟩:=hs;refine⟨a.eval x,_,cells,rfl,by rw[k5];exact hf,?_,j3 L1 H1 H2 (λk r j q hm hk=>H3 k r j q (List.mem_cons_of_mem _ hm) hk)⟩;refine Own.move (λk hk=>⟨?_,rfl⟩) (λk d rest _ hk=>⟨H3 k r0 i _ (by simp) hk,rfl⟩) (Own.cap k2 k3 ho);rcases hk with hk|⟨_,_,hk,_⟩
   ·exact H1 k hk
   ·cases hk
 | [],_,_::_,_,_,h=>h.elim
 | (_,.ro)::_,_,[],_,_,h=>h.elim
 | (_,.mut _)::_,_,[],_,_,h=>h.elim
 | (_,.mut _)::_,_,_::_,_,_,h=>h.elim
 | (_,.ptr _)::_,_,[],_,_,h=>h.elim
 | (_,.ptr _)::_,_,_::_,_,_,h=>h.elim
 | (_,.bQ _)::_,_,[],_,_,h=>h.elim
theorem akI[ae](hI:Inv w0 L0 N vs T a w L)(dJ:fA P bf){d:Nat}  
  (ho:o.op = .call { callee:=.value (.func f),args,argTypes:=cn }) (av:o.dst=some d) (hd:d<N) (hid:(T.getD d .dead).idle=true)
  (h:(Gw C bf vs N d f args.toList).ai T ups log):Step P o w0 L0 N vs (ah T ups) a w:=by
 unfold Gw at h;split at h
 ·exact h.elim
 ·rename_i F hF;obtain⟨⟨fn,gO,fG,lZ⟩,aI⟩:=dJ f F hF;have hb:=M.ak h;clear h;obtain⟨A,l1,l2,rfl,h1,h⟩:=hb;obtain⟨dO,fF,ru,gn⟩:=Gg hI h1;have aJ:=Go.Conc.run_call_body (P:=P) (a:=a) (w:=w) ho gO fG lZ;have la:∀r∈A.ls,r≠d:=λr hr=>cV hid (V.eN (dO r hr));rcases eG:A.mu with _|⟨⟨r0,i⟩,_|⟨p2,rest⟩⟩
  ·rw[eG]at h;exact h.elim
  ·rw[eG]at h;dsimp only at h;cases hc:(A.ls.contains r0 || !decide (r0<N))with
   | true=>rw[hc]at h;exact h.elim
   | false =>
    rw[hc]at h;obtain⟨r,eH,h⟩:=h;dsimp only at h;simp only[Bool.or_eq_false_iff,Bool.not_eq_false',decide_eq_true_eq]at hc;obtain⟨dN,c8⟩:=hc;have iF:r0∉A.ls:=λhm=>by rw[List.contains_iff_mem.2 hm]at dN;cases dN
    split at h
    ·rename_i v hv;obtain⟨Ts,l3,l4,rfl,dA,jR,mB⟩:=M.ak h;obtain⟨rfl,_⟩:=mB;have bJ:Ts=T:=by rw[kN dA (by rw[Nat.zero_add,hI.len])];rfl
     subst bJ;obtain⟨_,t,n,k0,y,h2,h5,S4,cU,hk3,h6⟩:=fF r0 i (by rw[eG];simp);simp only[Nat.sub_zero]at h2 h6;have rF:i<F.ps.length:=(List.getElem?_eq_some_iff.1 h2).1;have TC:(Ts.getD r0 .dead).aD=true:=by
      rw[h5];simp only[V.aD,Bool.and_eq_true,bne_iff_ne];omega
     have uO:r0≠d:=cV hid TC;have mf:jb w (λk=>cw (some (r0,i)) A.ls (L k)) F.ps:=by
      refine⟨λk hk=>by rw[hI.free k hk];rfl,λk k' s q h h'=>?_,λk s q h=>?_,ae.aO hI.fr.gm λk hk h0=>⟨?_,(hI.fr.aO k hk h0).2⟩⟩
      ·obtain⟨r1,e1,e2⟩:=kF h;obtain⟨r2,e3,e4⟩:=kF h';rw[e1]at e3;injection e3 with e3;injection e3 with e3 _;subst e3;exact hI.inj k k' _ _ e2 e4
      ·obtain⟨r1,e1,e2⟩:=kF h;injection e1 with e1;injection e1 with e1 e3;subst e1 e3;exact⟨t,.bQ n,h2,by simp only[Mode.owned,Bool.and_eq_true,bne_iff_ne];omega⟩
      ·rw[(hI.fr.aO k hk h0).1];rcases h0 with h0|h0<;>rw[h0]<;>simp[cw]
     have dr:=gn (λk=>cw (some (r0,i)) A.ls (L k)) (λk hk=>by rw[hk];rfl) (λk r q hr hk=>by
      rw[hk];unfold cw;dsimp only;rw[if_neg (λe:r=r0=>iF (by rw[<-e];exact hr)),if_pos (by simpa using hr)]) (λk r j q hm hk=>by
      rw[hk];rw[eG]at hm;simp only[List.mem_singleton,Prod.mk.injEq]at hm;obtain⟨rfl,rfl⟩:=hm;simp[cw])
     intro K Q hK;unfold Oper.wp;rw[aJ,Oper.upon_enter];refine Calls.mono (aI A.x r eH w _ (args.map a.eval) mf (by simpa using dr)) ?_
     rintro e w' ⟨cs,L',rfl,aZ,bX,jn⟩
     dsimp only;rw[av];refine hK _ _ (dq (some (r0,i)) F.ps.length d L L') ?_;have iz:ah Ts (((r0,V.dead)::b7 (cB r0 d) 0 Ts)++[(d,v)])=(ah Ts ((r0,V.dead)::b7 (cB r0 d) 0 Ts)).set d v:=by
      rw[kA];rfl
     have mg:(ah Ts ((r0,V.dead)::b7 (cB r0 d) 0 Ts)).length=N:=by rw[cj,hI.len]
     have bO:(ah Ts (((r0,V.dead)::b7 (cB r0 d) 0 Ts)++[(d,v)])).getD d .dead=v:=by
      rw[iz,az,if_pos ⟨rfl,by rw[mg];exact hd⟩]
     have bg:∀s,s≠d->(ah Ts (((r0,V.dead)::b7 (cB r0 d) 0 Ts)++[(d,v)])).getD s .dead=(ah Ts ((r0,V.dead)::b7 (cB r0 d) 0 Ts)).getD s .dead:=by
      intro s hs;rw[iz,az,if_neg (λe=>hs e.1)]
     have dY:∀s v,(s,v)∈((r0,V.dead)::b7 (cB r0 d) 0 Ts)->(s=r0/\v = .dead)\/(v = .dead/\s≠r0/\(Ts.getD s .dead).on r0=true):=by
      intro s v hm;rcases List.mem_cons.1 hm with hm|hm
      ·injection hm with h1 h2;exact .inl ⟨h1,h2⟩
      ·obtain⟨h1,_,_,h2⟩:=(oQ s v).1 hm;simp only[Nat.sub_zero,cB,Bool.and_eq_true,bne_iff_ne]at h2;exact .inr ⟨h1,h2.1.2,h2.1.1⟩
     have bw:(ah Ts ((r0,V.dead)::b7 (cB r0 d) 0 Ts)).getD r0 .dead = .dead:=by
      refine gG (by rw[hI.len];exact c8) (by simp) (λv hm=>?_);rcases dY r0 v hm with⟨_,h⟩|⟨_,h,_⟩
      ·exact h
      ·exact absurd rfl h
     have nJ:∀s,s≠d->s≠r0->(Ts.getD s .dead).on r0=true->(ah Ts ((r0,V.dead)::b7 (cB r0 d) 0 Ts)).getD s .dead = .dead/\(Ts.getD s .dead).aD=false:=by
      intro s bH hs af;have gu:s<N:=by
       rcases Nat.lt_or_ge s N with h|h
       ·exact h
       ·rw[dW (by rw[hI.len];exact h)]at af;simp[V.on,V.root]at af
      have hg:cB r0 d s (Ts.getD s .dead)=true:=by
       unfold cB;rw[af];simp[hs,bH]
      refine⟨gG (by rw[hI.len];exact gu) ?_ (λv hm=>?_),?_⟩
      ·rw[List.mem_map];exact⟨(s,.dead),List.mem_cons_of_mem _ ((oQ s .dead).2 ⟨rfl,Nat.zero_le _,by rw[Nat.zero_add,hI.len];exact gu,by rw[Nat.sub_zero];exact hg⟩),rfl⟩
      ·rcases dY s v hm with⟨h,_⟩|⟨h,_⟩
       ·exact absurd h hs
       ·exact h
      ·exact A1 jR s (by rw[hI.len];exact gu) (by rw[Nat.zero_add];exact hg)
     have nI:∀s,s≠r0->(Ts.getD s .dead).on r0=false->(ah Ts ((r0,V.dead)::b7 (cB r0 d) 0 Ts)).getD s .dead=Ts.getD s .dead:=by
      intro s hs af;refine eF _ _ _ (λhm=>?_);obtain⟨u,hu,he⟩:=List.mem_map.1 hm;rcases dY s u.2 (by rw[<-he];exact hu)with⟨h,_⟩|⟨_,_,h⟩
      ·exact hs h
      ·rw[af]at h;cases h
     have uD:∀r∈A.ls,((ah Ts (((r0,V.dead)::b7 (cB r0 d) 0 Ts)++[(d,v)])).getD r .dead).deep=true:=by
      intro r hr;have fK:r≠r0:=λe=>iF (e▸hr);have ho:=V.eN (dO r hr);rw[bg r (la r hr)];cases af:(Ts.getD r .dead).on r0 with
      | false=>rw[nI r fK af];exact dO r hr
      | true =>
       have h:=(nJ r (la r hr) fK af).2;rw[h]at ho;cases ho
     obtain⟨k1,k2,k3⟩:=vx (T':=ah Ts (((r0,V.dead)::b7 (cB r0 d) 0 Ts)++[(d,v)])) (d:=d) hI aZ rfl uD bX hv;refine Inv.GB hI hd hid rfl (λr i h=>by injection h with h;injection h with _ h;subst h;exact rF) aZ (by rw[cj,hI.len]) (λj' t n hj hm=>by rw[ru j' t n hj]at hm;cases hm) ?_ ?_ ?_ bO k1 k2 (λr i h=>by injection h with h;injection h with h _;subst h;exact iF) k3
     ·intro r i h;injection h with h;injection h with h h';subst h h';rw[bg r0 uO,bw];exact⟨TC,.inl ru,rfl,trivial⟩
     ·intro s r i h bH bj af;injection h with h;injection h with h h';subst h h';rw[bg s bH];exact .inl (nJ s bH bj af)
     ·intro s bH hs;obtain⟨e1,e2⟩:=hs r0 i rfl;rw[bg s bH];exact nI s e1 e2
    ·exact h.elim
  ·rw[eG]at h;exact h.elim
theorem akM[ae](hI:Inv w0 L0 N vs T a w L)(dJ:fA P bf)       
  (ho:o.op = .call { callee:=.value (.func f),args,argTypes:=cn }) (av:o.dst=some d) (hd:d<N) (hid:(T.getD d .dead).idle=true)
  (h:(GA C bf vs N d f args.toList).ai T ups log):Step P o w0 L0 N vs (ah T ups) a w:=by
 unfold GA at h;split at h
 ·exact h.elim
 ·generalize Ga _=b at h;cases b with
  | true=>exact akI hI dJ ho av hd hid h
  | false=>exact akL hI dJ ho av hd hid h
end
end Go.Proofs.YtbhogmdpmkpinaaGreat.P.Am
