/- A part of the proof: Am48,Am49,Am57,Am58,Am60,Am54,Am55,Am59. No conditions. -/
import Derived.Test.YthfgcmoipebheaaGreatPG5
set_option linter.unusedVariables false
set_option linter.unusedSimpArgs false
namespace Go.Proofs.YthfgcmoipebheaaGreat.P.Am
variable{d i n r sz t:Nat}{kids log q:List Nat}{o:Oper}{ups:List (Nat×V)}{x:Operand}{m:M (List (Nat×V))}{args:Array Operand}{cw:Array TypeId}{bf:dx}{f:FuncId}{X:TypeId}{p:List St}{u:V}
structure adn where
 i:Nat
 r:Nat
 p:List St
 u:V
 n':Nat
 t:Ty
def Hz(t:Ty)(n:Nat)(x:Operand):M (t.den×Nat×List St×V×Nat):=
 match x with
 | .tmp s=>.get s λv=>match v with
  | .view r p tv=>.get r λu=>(du p u).bind λz =>
   if h:z.2.t=t then (if tv=t/\t.depth<=z.2.n/\t.depth<=n/\t.depth≠0/\z.1=none then .ret (h▸z.2.x,r,p,u,z.2.n)else .fail)else .fail
  | _=>.fail
 | _=>.fail
structure xm (ps:List (Ty×Mode)) where
 x:(cY ps).den
 ls:List Nat
 mu:List adn
def kY(C:Ctx):Nat->(ps:List (Ty×Mode))->List Operand->M (xm ps)
 | _,[],[]=>.ret ⟨(),[],[]⟩
 | i,(t,.ro)::ps,x::xs=>(o3 C t x).bind λy=>(kY C (i+1) ps xs).bind λr=>.ret ⟨(y.1,r.x),y.2++r.ls,r.mu⟩
 | i,(t,.mut n)::ps,x::xs=>(Hz t n x).bind λy=>(kY C (i+1) ps xs).bind λr=>.ret ⟨(y.1,r.x),r.ls,⟨i,y.2.1,y.2.2.1,y.2.2.2.1,y.2.2.2.2,t⟩::r.mu⟩
 | _,_,_=>.fail
def b8(g:Nat->V->Bool):Nat->List V->List (Nat×V)
 | _,[]=>[]
 | i,v::l=>cond (g i v) ((i,.dead)::b8 g (i+1) l) (b8 g (i+1) l)
def mn(g:Nat->V->Bool):Nat->List V->Bool
 | _,[]=>true
 | i,v::l=>(!(g i v) || !v.aJ)&&mn g (i+1) l
def gZ(r d:Nat)(u:V):Nat->V->Bool:=λz v=>v.on r&&z != r&&z != d && !pU u v
def HQ(C:Ctx)(bf:dx)(vs:List Nat)(N d:Nat)(f:FuncId)(args:List Operand):M (List (Nat×V)):=
 match bf f with
 | none=>.fail
 | some F=>(kY C 0 F.ps args).bind λA=>match A.mu,F.rs with
  | [m],[(t0,n0)]=>cond (A.ls.contains m.r || !decide (m.r<N) || !decide (t0.depth=0) || !decide (n0<1000)) .fail (.cC (.pair (cL F.rs) (ct F.ps)) (F.ao A.x) λres=>match lS vs [] F.rs res.1,sD F.ps res.2 with
   | some (.d none n1 t1 x1),some (.d none _ t' y')=>if h:t'=m.t then
     (if t1.depth=0 then (fK m.p m.u m.t (h▸y')).bind λu2=>(allM 0 N).bind λTs=>.bl (mn (gZ m.r d m.u) 0 Ts) (.ret (((m.r,u2)::b8 (gZ m.r d m.u) 0 Ts)++[(d,.d none n1 t1 x1)]))else .fail)else .fail
   | _,_=>.fail)
  | _,_=>.fail
def X9:List (Ty×Mode)->List Operand->Option Operand
 | (_,.ro)::ps,_::xs=>X9 ps xs
 | (_,.mut _)::_,x::_=>some x
 | _,_=>none
def HV(C:Ctx)(bf:dx)(vs:List Nat)(N d:Nat)(f:FuncId)(args:List Operand):M (List (Nat×V)):=
 match bf f with
 | none=>.fail
 | some F=>match X9 F.ps args with
  | some (.tmp s)=>.get s λv=>match v with
   | .view r p _=>.get r λu=>cond (u.dr&&p.isEmpty) (uO C bf vs N d f args) (HQ C bf vs N d f args)
   | _=>uO C bf vs N d f args
  | _=>uO C bf vs N d f args
section
variable{P:Program}{C:Ctx}{w w' w0:World}{S S':Nat->Prop}{L L' L0:Nat->aj}{s N:Nat}{vs:List Nat}{T T':List V}{tm tm':Array Value}{a:Act}
theorem pf{g:Nat->V->Bool}:{i:Nat}->{l:List V}->(s:Nat)->(v:V)->((s,v)∈b8 g i l↔v = .dead/\i<=s/\s<i+l.length/\g s (l.getD (s - i) .dead)=true)
 | i,[],s,v=>by
  simp only[b8,List.not_mem_nil,false_iff]
  rintro⟨_,h1,h2,_⟩
  simp at h2;omega
 | i,x::l,s,v=>by
  have ih:=pf (g:=g) (i:=i+1) (l:=l) s v;have e:∀h:i+1<=s,(x::l).getD (s - i) .dead=l.getD (s - (i+1)) .dead:=λh=>by
   rw[show s - i=(s - (i+1))+1 by omega];rfl
  unfold b8;cases hg:g i x with
  | true =>
   rw[cond_true,List.mem_cons,ih];constructor
   ·rintro (h|⟨h1,h2,h3,h4⟩)
    ·injection h with h1 h2;subst h1;refine⟨h2,Nat.le_refl _,by simp,by rw[Nat.sub_self];exact hg⟩
    ·exact⟨h1,by omega,by simp only[List.length_cons];omega,by rw[e h2];exact h4⟩
   ·rintro⟨h1,h2,h3,h4⟩
    by_cases hs:s=i
    ·left;rw[hs,h1]
    ·right;simp only[List.length_cons]at h3;refine⟨h1,by omega,by omega,by rw[<-e (by omega)];exact h4⟩
  | false =>
   rw[cond_false,ih];constructor
   ·rintro⟨h1,h2,h3,h4⟩
    exact⟨h1,by omega,by simp only[List.length_cons];omega,by rw[e h2];exact h4⟩
   ·rintro⟨h1,h2,h3,h4⟩
    by_cases hs:s=i
    ·subst hs;rw[Nat.sub_self]at h4;change g s x=true at h4;rw[hg]at h4;cases h4
    ·simp only[List.length_cons]at h3;refine⟨h1,by omega,by omega,by rw[<-e (by omega)];exact h4⟩
theorem BY{g:Nat->V->Bool}:{i:Nat}->{l:List V}->mn g i l=true->∀s,s<l.length->g (i+s) (l.getD s .dead)=true->(l.getD s .dead).aJ=false
 | _,[],_,s,h,_=>by simp at h
 | i,x::l,hk,s,h,hg=>by
  simp only[mn,Bool.and_eq_true,Bool.or_eq_true,Bool.not_eq_true']at hk;cases s with
  | zero =>
   change g (i+0) x=true at hg;rw[Nat.add_zero]at hg;change x.aJ=false;rcases hk.1 with h1|h1
   ·rw[hg]at h1;cases h1
   ·exact h1
  | succ s =>
   simp only[List.length_cons]at h;exact BY (g:=g) (i:=i+1) hk.2 s (by omega) (by rw[show i+1+s=i+(s+1)by omega];exact hg)
theorem Form.inj{t:Ty}{c1 c2:List Value}{c:Value}(h1:Form t c1 c)(h2:Form t c2 c):c1=c2:=by
 cases t with
 | agg t =>
  have h1:c = .agg c1.toArray:=h1;have h2:c = .agg c2.toArray:=h2;rw[h1]at h2;injection h2 with h2;simpa using congrArg Array.toList h2
 | _=>exact (show c1=[c]from h1).trans (show c2=[c]from h2).symm
theorem ag0[ae](hI:Inv w0 L0 N vs T a w L){t:Ty}{y:t.den}{n':Nat}(h:(Hz t n x).ai T (y,r,p,u,n') log):
  T.getD r .dead=u/\t.depth<=n'/\t.depth<=n/\t.depth≠0/\(∃log,(du p u).ai T (none,⟨n',t,y⟩) log) /\
   ∃g cur e,L g = .own r (node [] 0 p).1/\w.heap[g]?=some (.cells cur e (0,0))/\Form t ((cur.toList.drop (node [] 0 p).2).take t.sz) (a.eval x)/\Own w L (SL L none) r n' t y (node [] 0 p).1 (node [] 0 p).2 ((cur.toList.drop (node [] 0 p).2).take t.sz):=by
 unfold Hz at h;split at h
 ·rename_i s;obtain⟨aC,rfl,h⟩:=h;have hs:=hI.aW s;generalize hv:T.getD s .dead=v at h hs;dsimp only at h;split at h
  ·rename_i r' p' tv;obtain⟨log2,rfl,h⟩:=h;dsimp only at h;obtain⟨⟨l,k,t',x'⟩,l1,l2,rfl,h1,h⟩:=M.an h;dsimp only at h;split at h
   ·rename_i ht;subst ht;split at h
    ·rename_i hc;obtain⟨rfl,c1,c2,c3,rfl⟩:=hc;obtain⟨h,_⟩:=h;injection h with e1 e2;injection e2 with e2 e3;injection e3 with e3 e4;injection e4 with e4 e5;subst e1 e2 e3 e4 e5;have bc:=hI.aW r;obtain⟨⟨g,cur,e,k1,k2,k3,k4⟩,_,_,_,lp⟩:=kI h1 bc;refine⟨rfl,c1,c2,c3,⟨_,h1⟩,g,cur,e,k1,k2,?_,k4⟩;obtain⟨_,h2⟩:=hs;rcases h2 with⟨h2,_,l0,n0,x0,h3,_⟩|⟨g',cur',e',_,j1,j2,j3,j4⟩
     ·rw[h3]at lp;rcases lp with h|h
      ·simp[V.dr]at h
      ·exact absurd h2 h
     ·obtain rfl:=hI.inj g g' r _ k1 j1;rw[k2]at j2;injection j2 with j2;injection j2 with j2 _ _;subst j2;exact j4
    ·exact h.elim
   ·exact h.elim
  ·exact h.elim
 ·exact h.elim
theorem HB[ae](hI:Inv w0 L0 N vs T a w L):{ps:List (Ty×Mode)}->{i:Nat}->{xs:List Operand}->{A:xm ps}->{log:List Nat}->(kY C i ps xs).ai T A log ->
  (∀r∈A.ls,(T.getD r .dead).deep=true) /\
  (∀m∈A.mu,i<=m.i/\∃n y,ps[m.i - i]?=some (m.t,.mut n)/\m.t.depth<=n/\m.t.depth<=m.n'/\m.t.depth≠0/\T.getD m.r .dead=m.u/\(∃log,(du m.p m.u).ai T (none,⟨m.n',m.t,y⟩) log) /\
   ∃g cur e c,L g = .own m.r (node [] 0 m.p).1/\w.heap[g]?=some (.cells cur e (0,0))/\(xs.map a.eval)[m.i - i]?=some c/\Form m.t ((cur.toList.drop (node [] 0 m.p).2).take m.t.sz) c) /\
  (∀j t n,ps[j]?=some (t,.mut n)->∃m∈A.mu,m.i=i+j) /\
  ∀L1:Nat->aj,(∀k,L k = .aq->L1 k = .aq)->(∀k r q,r∈A.ls->L k = .own r q->L1 k = .aq) ->
   (∀k m z rest,m∈A.mu->L k = .own m.r ((node [] 0 m.p).1++((node [] 0 m.p).2+z)::rest)->z<m.t.sz->L1 k = .own m.i (z::rest))->dK w L1 i ps A.x (xs.map a.eval)
 | [],i,[],A,log,h=>by
  obtain⟨rfl,_⟩:=h;exact⟨by simp,by simp,by simp,λ_ _ _ _=>rfl⟩
 | (t,.ro)::ps,i,x::xs,A,log,h=>by
  simp only[kY]at h;obtain⟨⟨y,ls⟩,l1,l2,rfl,h1,h⟩:=M.an h;obtain⟨A',l3,l4,rfl,h2,h⟩:=M.an h;obtain⟨rfl,_⟩:=h;obtain⟨cells,k1,k2,k3⟩:=uI hI h1;obtain⟨j1,j2,j4,j3⟩:=HB hI h2;refine⟨λr hr=>?_,λm hm=>?_,λj t' n hj=>?_,λL1 H1 H2 H3=>?_⟩
  ·rcases List.mem_append.1 hr with hr|hr
   ·exact k2 r hr
   ·exact j1 r hr
  ·obtain⟨hi,n',y',e1,e2,e3,e4,e5,e6,g,cur,e,c,f1,f2,f3,f4⟩:=j2 m hm;have:m.i - i=(m.i - (i+1))+1:=by omega
   exact⟨by omega,n',y',by rw[this];simpa using e1,e2,e3,e4,e5,e6,g,cur,e,c,f1,f2,by rw[this];simpa using f3,f4⟩
  ·cases j with
   | zero=>simp at hj
   | succ j =>
    obtain⟨m,hm,he⟩:=j4 j t' n (by simpa using hj);exact⟨m,hm,by omega⟩
  ·exact⟨a.eval x,_,cells,rfl,k1,Own.dB (k3 _ H1 (λk r q hr hk=>H2 k r q (List.mem_append_left _ hr) hk)),j3 L1 H1 (λk r q hr hk=>H2 k r q (List.mem_append_right _ hr) hk) H3⟩
 | (t,.mut n)::ps,i,x::xs,A,log,h=>by
  simp only[kY]at h;obtain⟨⟨y,r0,p0,u0,n0⟩,l1,l2,rfl,h1,h⟩:=M.an h;obtain⟨A',l3,l4,rfl,h2,h⟩:=M.an h;obtain⟨rfl,_⟩:=h;obtain⟨k1,k2,k3,k4,k5,g,cur,e,k6,k7,k8,k9⟩:=ag0 hI h1;obtain⟨j1,j2,j4,j3⟩:=HB hI h2;refine⟨j1,λm hm=>?_,λj t' n' hj=>?_,λL1 H1 H2 H3=>?_⟩
  ·rcases List.mem_cons.1 hm with hm|hm
   ·subst hm;exact⟨Nat.le_refl _,n,y,by simp,k3,k2,k4,k1,k5,g,cur,e,a.eval x,k6,k7,by simp,k8⟩
   ·obtain⟨hi,n',y',e1,e2,e3,e4,e5,e6,g,cur,e,c,f1,f2,f3,f4⟩:=j2 m hm;have:m.i - i=(m.i - (i+1))+1:=by omega
    exact⟨by omega,n',y',by rw[this];simpa using e1,e2,e3,e4,e5,e6,g,cur,e,c,f1,f2,by rw[this];simpa using f3,f4⟩
  ·cases j with
   | zero=>exact⟨_,List.mem_cons_self ..,rfl⟩
   | succ j =>
    obtain⟨m,hm,he⟩:=j4 j t' n' (by simpa using hj);exact⟨m,List.mem_cons_of_mem _ hm,by omega⟩
  ·refine⟨a.eval x,_,_,rfl,k8,?_,j3 L1 H1 H2 (λk m z rest hm hk hz=>H3 k m z rest (List.mem_cons_of_mem _ hm) hk hz)⟩;refine Own.cap k2 k3 (Own.move (λk hk=>⟨?_,rfl⟩) (λk d rest hd hk=>⟨?_,rfl⟩) k9)
   ·rcases hk with hk|⟨_,_,hk,_⟩
    ·exact H1 k hk
    ·cases hk
   ·have:=H3 k ⟨i,r0,p0,u0,n0,t⟩ d rest (List.mem_cons_self ..) hk hd;simpa using this
 | [],_,_::_,_,_,h=>h.elim
 | (_,.ro)::_,_,[],_,_,h=>h.elim
 | (_,.mut _)::_,_,[],_,_,h=>h.elim
 | (_,.ptr _)::_,_,[],_,_,h=>h.elim
 | (_,.ptr _)::_,_,_::_,_,_,h=>h.elim
 | (_,.bS _)::_,_,[],_,_,h=>h.elim
 | (_,.bS _)::_,_,_::_,_,_,h=>h.elim
theorem HA{C:Ctx}:{ps:List (Ty×Mode)}->{i:Nat}->{xs:List Operand}->{A:xm ps}->{log:List Nat}->(kY C i ps xs).ai T A log->∀(j:Nat) (t:Ty) (n:Nat),ps[j]?≠some (t,.ptr n)
 | [],_,_,_,_,_,j,t,n=>by simp
 | (t0,.ro)::ps,i,x::xs,A,log,h,j,t,n=>by
  simp only[kY]at h;obtain⟨_,_,_,_,_,h⟩:=M.an h;obtain⟨_,_,_,_,h2,_⟩:=M.an h;cases j with
  | zero=>simp
  | succ j=>simpa using HA h2 j t n
 | (t0,.mut n0)::ps,i,x::xs,A,log,h,j,t,n=>by
  simp only[kY]at h;obtain⟨_,_,_,_,_,h⟩:=M.an h;obtain⟨_,_,_,_,h2,_⟩:=M.an h;cases j with
  | zero=>simp
  | succ j=>simpa using HA h2 j t n
 | (_,.ro)::_,_,[],_,_,h,_,_,_=>h.elim
 | (_,.mut _)::_,_,[],_,_,h,_,_,_=>h.elim
 | (_,.ptr _)::_,_,[],_,_,h,_,_,_=>h.elim
 | (_,.ptr _)::_,_,_::_,_,_,h,_,_,_=>h.elim
 | (_,.bS _)::_,_,[],_,_,h,_,_,_=>h.elim
 | (_,.bS _)::_,_,_::_,_,_,h,_,_,_=>h.elim
theorem ag1[ae]{C:Ctx}{ps:List (Ty×Mode)}{xs:List Operand}{A:xm ps}(h:(kY C i ps xs).ai T A log){j:Nat}{t:Ty}{m:Mode}(hj:ps[j]?=some (t,m))(hm:m.back=true):∃n,m = .mut n:=by
 match m,hj,hm with
 | .ro,_,hm=>cases hm
 | .bS _,_,hm=>cases hm
 | .mut n,_,_=>exact⟨n,rfl⟩
 | .ptr n,hj,_=>exact absurd hj (HA h j t n)
theorem am7[ae](hI:Inv w0 L0 N vs T a w L)(dQ:fQ P bf){d:Nat}  
  (ho:o.op = .call { callee:=.value (.func f),args,argTypes:=cw }) (ay:o.dst=some d) (hd:d<N) (hid:(T.getD d .dead).idle=true)
  (h:(HQ C bf vs N d f args.toList).ai T ups log):Step P o w0 L0 N vs (ag T ups) a w:=by
 unfold HQ at h;split at h
 ·exact h.elim
 ·rename_i F hF;obtain⟨⟨fn,ie,fV,mz⟩,aI⟩:=dQ f F hF;have hb:=M.an h;clear h;obtain⟨A,l1,l2,rfl,h1,h⟩:=hb;obtain⟨dW,fU,pC,gE⟩:=HB hI h1;have aO:=Go.Conc.run_call_body (P:=P) (a:=a) (w:=w) ho ie fV mz;obtain⟨xu,Frs,aqL⟩:=F;dsimp only at h gE pC fU aI A;split at h
  ·rename_i m t0 n0 hA;cases hc:(A.ls.contains m.r || !decide (m.r<N) || !decide (t0.depth=0) || !decide (n0<1000))with
   | true=>rw[hc]at h;exact h.elim
   | false =>
    rw[hc]at h;simp only[Bool.or_eq_false_iff,Bool.not_eq_false',decide_eq_true_eq]at hc;obtain⟨⟨⟨dV,dh⟩,Jo⟩,ig⟩:=hc;have iT:m.r∉A.ls:=λhm=>by rw[List.contains_iff_mem.2 hm]at dV;cases dV
    obtain⟨res,eM,h⟩:=h;dsimp only at h;split at h
    ·rename_i n1 t1 x1 n2 t' y' hv pL;split at h
     ·rename_i Jq;subst Jq;split at h
      ·rename_i ht1;obtain⟨u2,l3,l4,rfl,gH,h⟩:=M.an h;obtain⟨Ts,l5,l6,rfl,dH,iQ,mY⟩:=M.an h;obtain⟨rfl,_⟩:=mY;have bI:Ts=T:=by rw[kW dH (by rw[Nat.zero_add,hI.len])];rfl
       subst bI;obtain⟨_,n,y,h2,h3,h4,h5,h6,⟨ari,hz⟩,g0,cur,e,c,k1,k2,k3,k4⟩:=fU m (by rw[hA];simp);simp only[Nat.sub_zero]at h2 k3;have r8:m.i<xu.length:=(List.getElem?_eq_some_iff.1 h2).1;have iS:∀(j:Nat) (t:Ty) (n:Nat),xu[j]?=some (t,Mode.mut n)->j=m.i:=by
        intro j t n hj;obtain⟨m',bW,he⟩:=pC j t n hj;rw[hA]at bW;rw[List.mem_singleton.1 bW]at he;omega
       have bc:=hI.aW m.r;rw[h6]at bc;obtain⟨_,_,_,gJ,_⟩:=kI hz bc;have bz:m.r≠d:=cX hid (by rw[h6];exact gJ);have mG:jq w (λk=>jX m.r (node [] 0 m.p).1 (node [] 0 m.p).2 m.t.sz m.i A.ls (L k)) xu:=by
        refine⟨λk hk=>by rw[hI.free k hk];rfl,λk k' s q h h'=>?_,λk s q h=>?_,ae.aS hI.fr.gD λk hk h0=>⟨?_,(hI.fr.aS k hk h0).2⟩⟩
        ·obtain⟨y1,r1,e1,e2,e3⟩:=K5 h;obtain⟨y2,r2,e4,e5,e6⟩:=K5 h';rw[e2]at e5;injection e5 with e5 e7;subst e5 e7;exact hI.inj k k' _ _ e3 e6
        ·obtain⟨y1,r1,rfl,e2,e3⟩:=K5 h;exact⟨m.t,.mut n,h2,by simp only[Mode.owned,Bool.and_eq_true,bne_iff_ne];omega⟩
        ·rw[(hI.fr.aS k hk h0).1];rcases h0 with h0|h0<;>rw[h0]<;>simp[jX]
       have dz:=gE (λk=>jX m.r (node [] 0 m.p).1 (node [] 0 m.p).2 m.t.sz m.i A.ls (L k)) (λk hk=>by rw[hk];rfl) (λk r q hr hk=>by
        rw[hk];unfold jX;dsimp only;rw[if_neg (λe0:r=m.r=>iT (by rw[<-e0];exact hr)),if_pos (by simpa using hr)]) (λk m' z rest bW hk bV=>by
        rw[hA]at bW;obtain rfl:=List.mem_singleton.1 bW;rw[hk];exact anR bV)
       intro K Q hK;unfold Oper.wp;rw[aO,Oper.upon_enter];refine Calls.mono (aI A.x res eM w _ (args.map a.eval) mG (by simpa using dz)) ?_
       rintro e' w' ⟨cs,L',rfl,a8,b9,jF⟩
       dsimp only;rw[ay];have iM:ag Ts (((m.r,u2)::b8 (gZ m.r d m.u) 0 Ts)++[(d,V.d none n1 t1 x1)])=(ag Ts ((m.r,u2)::b8 (gZ m.r d m.u) 0 Ts)).set d (V.d none n1 t1 x1):=by
        rw[kK];rfl
       have mH:(ag Ts ((m.r,u2)::b8 (gZ m.r d m.u) 0 Ts)).length=N:=by rw[cr,hI.len]
       have bo:∀s,s≠d->(ag Ts (((m.r,u2)::b8 (gZ m.r d m.u) 0 Ts)++[(d,V.d none n1 t1 x1)])).getD s .dead=(ag Ts ((m.r,u2)::b8 (gZ m.r d m.u) 0 Ts)).getD s .dead:=by
        intro s hs;rw[iM,aF,if_neg (λe=>hs e.1)]
       have ef:∀s v,(s,v)∈((m.r,u2)::b8 (gZ m.r d m.u) 0 Ts)->(s=m.r/\v=u2)\/(v = .dead/\s≠m.r/\gZ m.r d m.u s (Ts.getD s .dead)=true):=by
        intro s v bW;rcases List.mem_cons.1 bW with bW|bW
        ·injection bW with h1 h2;exact .inl ⟨h1,h2⟩
        ·obtain⟨h1,_,_,h2⟩:=(pf s v).1 bW;simp only[Nat.sub_zero]at h2;refine .inr ⟨h1,?_,h2⟩
         rintro rfl
         simp[gZ]at h2
       have bB:(ag Ts ((m.r,u2)::b8 (gZ m.r d m.u) 0 Ts)).getD m.r .dead=u2:=by
        refine gY (by rw[hI.len];exact dh) (by simp) (λv bW=>?_);rcases ef m.r v bW with⟨_,h⟩|⟨_,h,_⟩
        ·exact h
        ·exact absurd rfl h
       have pA:∀s,s≠d->s≠m.r->(Ts.getD s .dead).on m.r=true->gZ m.r d m.u s (Ts.getD s .dead) = !pU m.u (Ts.getD s .dead):=by
        intro s h1 h2 h3;unfold gZ;rw[h3];simp[h1,h2]
       refine hK _ _ _ (Inv.ahc (d:=d) (c:=ox cs) (V0:=V.d none n1 t1 x1) hI hd hid h6 hz gH h3 h4 k1 k2 a8 ?_ ?_ (by rw[cr,hI.len]) ?_ ?_ (λr=>rfl) ?_ ?_ ?_)
       ·intro k s q hk;rcases a8.owner k s q hk with⟨_,t,n,h,h9⟩|⟨t,md,h,hmd⟩
        ·simp only[List.mem_singleton,Prod.mk.injEq]at h;rcases h9 with h9|h9
         ·exact absurd (by rw[h.1];exact Jo) h9.2
         ·omega
        ·obtain⟨n,rfl⟩:=ag1 h1 h hmd;exact iS s t n h
       ·have aiP:fF w' L' 0 xu res.2 (args.toList.map a.eval):=by simpa using jF
        obtain⟨j,t',n',y9,c',cells,m1,m2,m3,m4,m5⟩:=Ke aiP pL;have cG:=iS j t' n' m1;subst cG;rw[h2]at m1;injection m1 with m1;injection m1 with m1 kD;injection kD with kD;subst kD;cases m2;rw[k3]at m3;injection m3 with m3;subst m3;rw[Nat.zero_add]at m5;have:cells=(cur.toList.drop (node [] 0 m.p).2).take m.t.sz:=Form.inj m4 k4;rw[<-this];exact m5
       ·rw[bo m.r bz,bB]
       ·rw[iM,aF,if_pos ⟨rfl,by rw[mH];exact hd⟩]
       ·intro L2 tm';have CA:=b9;have CA:=(jr.low (rs:=[(t0,n0)]) (decide_eq_true ig)).1 CA;simp only[iF]at CA;obtain⟨c',bg,cells,rfl,r1,r2,rfl⟩:=CA;have cH:some (V.d none n0 t0 res.1.1)=some (V.d none n1 t1 x1):=by
         simp only[lS]at hv
         rwa [if_neg (by omega),if_pos (by rw[Jo];exact Nat.zero_le _)]at hv
        cases cH;exact⟨by simp,cells,r1,Own.flat Jo r2⟩
       ·intro z il dA af;rw[bo z il];have oj:z<N:=by
         rcases Nat.lt_or_ge z N with h|h
         ·exact h
         ·rw[ed (by rw[hI.len];exact h)]at af;simp[V.on,V.root]at af
        have Cs:=pA z il dA af;cases hk:pU m.u (Ts.getD z .dead)with
        | true =>
         refine .inr ⟨eK _ _ _ (λbW=>?_),rfl⟩;obtain⟨uu,hu,he⟩:=List.mem_map.1 bW;rcases ef z uu.2 (by rw[<-he];exact hu)with⟨h,_⟩|⟨_,_,h⟩
         ·exact dA h
         ·rw[Cs,hk]at h;cases h
        | false =>
         rw[hk]at Cs;refine .inl ⟨gY (by rw[hI.len];exact oj) ?_ (λv bW=>?_),?_⟩
         ·rw[List.mem_map];exact⟨(z,.dead),List.mem_cons_of_mem _ ((pf z .dead).2 ⟨rfl,Nat.zero_le _,by rw[Nat.zero_add,hI.len];exact oj,by rw[Nat.sub_zero];exact Cs⟩),rfl⟩
         ·rcases ef z v bW with⟨h,_⟩|⟨h,_⟩
          ·exact absurd h dA
          ·exact h
         ·exact BY iQ z (by rw[hI.len];exact oj) (by rw[Nat.zero_add];exact Cs)
       ·intro z il dA af;rw[bo z il];refine eK _ _ _ (λbW=>?_);obtain⟨uu,hu,he⟩:=List.mem_map.1 bW;rcases ef z uu.2 (by rw[<-he];exact hu)with⟨h,_⟩|⟨_,_,h⟩
        ·exact dA h
        ·unfold gZ at h;rw[af]at h;simp at h
      ·exact h.elim
     ·exact h.elim
    ·exact h.elim
  ·exact h.elim
theorem anb[ae](hI:Inv w0 L0 N vs T a w L)(dQ:fQ P bf)       
  (ho:o.op = .call { callee:=.value (.func f),args,argTypes:=cw }) (ay:o.dst=some d) (hd:d<N) (hid:(T.getD d .dead).idle=true)
  (h:(HV C bf vs N d f args.toList).ai T ups log):Step P o w0 L0 N vs (ag T ups) a w:=by
 unfold HV at h;split at h
 ·exact h.elim
 ·split at h
  ·rename_i s _;obtain⟨eC,rfl,h⟩:=h;generalize T.getD s .dead=v at h;dsimp only at h;split at h
   ·obtain⟨log2,rfl,h⟩:=h;dsimp only at h;generalize (V.dr _&&List.isEmpty _)=b at h;cases b with
    | true=>exact KY hI dQ ho ay hd hid h
    | false=>exact am7 hI dQ ho ay hd hid h
   ·exact KY hI dQ ho ay hd hid h
  ·exact KY hI dQ ho ay hd hid h
end
def mZ:List St->Nat
 | []=>0
 | .aZ _ _::p=>mZ p
 | .idx _ _::p=>mZ p+1
theorem C7:{p:List St}->{q:List Nat}->{o:Nat}->(node q o p).1.length=q.length+mZ p
 | [],_,_=>rfl
 | .aZ _ _::p,_,_=>C7 (p:=p)
 | .idx sz i::p,q,o=>by
  have:=C7 (p:=p) (q:=q++[o]) (o:=i.toNat*sz);simp only[node,mZ];rw[this];simp only[List.length_append,List.length_singleton];omega
def wD(n r:Nat)(v:V):Bool := !v.dZ r||(match v with
 | .ptr _ _ _=>true
 | .view _ p _=>decide (mZ p<n)
 | _=>false)
def JP{α:Type}(n r:Nat):List Nat->M α->M α
 | [],m=>m
 | k::l,m=>.get k λv=>.bl (wD n r v) (JP n r l m)
def KZ(C:Ctx)(N:Nat)(kids:List Nat)(X:TypeId)(r:Nat)(p:List St)(u:V)(x:Operand)(m:M (List (Nat×V))):M (List (Nat×V)):=
 (du p u).bind λz =>
  if z.2.t.depth=0/\u.eZ=true/\shallow p=false/\C.ty X=some z.2.t/\(u.root != some r)=true/\r<N/\r<100000 then
   (cB C X x).bind λv=>match v with
   | .d none _ t' y=>if h:t'=z.2.t then (fK p u z.2.t (h▸y)).bind λu'=>JP (mZ p) r kids (.ask (uN r (ja false (r::kids))) (.ret [(r,u')]))else .fail
   | _=>.fail
  else m
section
variable{P:Program}{C:Ctx}{w w' w0:World}{S S':Nat->Prop}{L L' L0:Nat->aj}{s N:Nat}{vs:List Nat}{T T':List V}{tm tm':Array Value}{a:Act}
theorem Xr{α:Type}{m:M α}{x:α}:{l:List Nat}->{log:List Nat}->(JP n r l m).ai T x log->(∀k∈l,wD n r (T.getD k .dead)=true)/\∃aC,m.ai T x aC
 | [],log,h=>⟨by simp,log,h⟩
 | k::l,log,h=>by
  obtain⟨aC,rfl,hc,h⟩:=h;obtain⟨h1,h2⟩:=Xr (l:=l) h;refine⟨λk' aG=>?_,h2⟩;rcases List.mem_cons.1 aG with rfl|aG
  ·exact hc
  ·exact h1 k' aG
theorem anr[ae](hI:Inv w0 L0 N vs T a w L)(hC:bA P C){u:V}{m:M (List (Nat×V))}(ho:o.op = .store X (.tmp t) x)(ay:o.dst=none)
  (ht:addrOf t (T.getD t .dead)=some (r,p)) (cP:∀r p,addrOf t (T.getD t .dead)=some (r,p)->∃g,a.eval (.tmp t) = .pointer (some ⟨g,(node [] 0 p).2,none⟩)/\L g = .own r (node [] 0 p).1)
  (hr:T.getD r .dead=u) (h:(KZ C N kids X r p u x m).ai T ups log) (hm:∀log,m.ai T ups log->Step P o w0 L0 N vs (ag T ups) a w):Step P o w0 L0 N vs (ag T ups) a w:=by
 obtain⟨⟨l,n',t',x'⟩,l1,l2,rfl,hz,h⟩:=M.an h;dsimp only at h;split at h
 ·rename_i hc;obtain⟨hd,CB,VL,hX,lG,dh,Ji⟩:=hc;clear hm;obtain⟨v,l3,l4,rfl,hv,h⟩:=M.an h;split at h
  ·rename_i k tv y;split at h
   ·rename_i pJ;subst pJ;obtain⟨u',l5,l6,rfl,vy,h⟩:=M.an h;obtain⟨I4,log2,h⟩:=Xr h;obtain⟨⟨hq,_⟩,fw,rfl,h⟩:=h;obtain⟨rfl,_⟩:=h;have aI:∀z,z≠r->wD (mZ p) r (T.getD z .dead)=true:=by
     intro z hz;by_cases hm:z∈kids
     ·exact I4 z hm
     ·have:=HH Ji hq z (wk (by simp[hz,hm]));rw[wm]at this;have this:(T.getD z .dead).dZ r=false:=this;unfold wD;rw[this];rfl
    obtain⟨g,pz,hg⟩:=cP r p ht;have bc:=hI.aW r;rw[hr]at bc;obtain⟨⟨g',cur,e,k1,k2,k3,k4⟩,_,_,gJ,lp⟩:=kI hz bc;obtain rfl:=hI.inj g g' r _ hg k1;have mX:u.dr=false:=by cases u<;>simp[V.eZ,V.dr]at CB ⊢
    have dR:∃cs s0,Form tv cs (a.eval x)/\Own w L (SL L none) s0 k tv y [] 0 cs:=by
     rcases jQ hI hv with⟨s,rfl,_,hs⟩|⟨_,hs⟩
     ·obtain⟨_,cs,hf,bR⟩:=hs;exact⟨cs,s,hf,bR⟩
     ·obtain⟨_,cs,hf,bR⟩:=hs L T a.tmps 0 w;exact⟨cs,0,hf,bR⟩
    obtain⟨cs,s0,hf,bR⟩:=dR;have dO:=Own.one bR;have hlen:=Own.len bR;have aO:(execOp a.eval o).run P w = .ok .skip (w.setRow g (putCells cur (node [] 0 p).2 cs)):=by
     simp[execOp,ho,pz,sN (hC X _ hX) k2 hf dO hlen k3]
    have bB:(ag T [(r,u')]).getD r .dead=u':=by
     show (T.set r u').getD r .dead=u';rw[aF,if_pos ⟨rfl,by rw[hI.len];exact dh⟩]
    have bo:∀z,z≠r->(ag T [(r,u')]).getD z .dead=T.getD z .dead:=by
     intro z hz;show (T.set r u').getD z .dead=_;rw[aF,if_neg (λh=>hz h.1)]
    intro K Q hK;unfold Oper.wp;rw[aO,Oper.upon_skip,ay];refine hK a _ _ (Inv.store (m:=n') (src:=none) hI hr hz vy (by simpa using lG) hg k2 k3 hlen (by simp) (by rw[cr,hI.len]) bB ?_ (λz hz _ _=>bo z hz) (Own.flat hd bR));intro z hz _ af;refine .inr ⟨bo z hz,?_⟩;have hk:=aI z hz;unfold wD V.dZ at hk;rw[af,Bool.true_and]at hk;generalize T.getD z .dead=vz at hk af;cases vz with
    | ptr r2 p2 t2=>exact .inl rfl
    | view r2 p2 t2 =>
     have:r2=r:=by simpa[V.on,V.root]using af
     subst this;refine .inr ⟨rfl,VL,mX,p2,t2,rfl,λhe=>?_⟩;have hk:mZ p2<mZ p:=by simpa using hk
     have:=congrArg List.length he;rw[C7,C7]at this;omega
    | _=>simp at hk
   ·exact h.elim
  ·exact h.elim
 ·exact hm _ h
end
def kO(r:Nat)(q:List Nat)(o sz s:Nat):Nat->List Nat->aj:=λz q2 =>
 if z=r then match cut q q2 with
  | some (y::rest)=>if o<=y/\y<o+sz then .own s ((y - o)::rest)else .own r q2
  | _=>.own r q2
 else if z=s then .other else .own z q2
def Kp(r:Nat)(v:V):Bool := !v.on r||(match v with
 | .same _ _=>true
 | .ptr _ [.idx _ _] _=>true
 | _=>false)
def C9(r:Nat):List V->Bool
 | []=>true
 | v::l=>Kp r v&&C9 r l
def C5(r:Nat):List V->Bool
 | []=>true
 | v::l => !v.on r&&C5 r l
def T7(C:Ctx)(N:Nat)(X:TypeId)(d r sz:Nat)(i:Int)(n:Nat):(ty:Ty)->ty.den->M (List (Nat×V))
 | .pair (.int k) (.slice e te),x=>if C.ty X=some te/\te.depth≠0/\n≠0/\sz=te.sz/\d<N/\r<N/\d≠r then
   .get d λvd=>.bl (vd.idle&&decide (x.1<=i)) (.cC te (ab x.2 i) λy=>(allM 0 N).bind λTs=>.bl (C9 r Ts) (.ret [(r,.bP 0 n (.pair (.int k) (.slice e te)) (i+1,x.2)),(d,.d none n te y)]))
  else .fail
 | _,_=>.fail
def Ik(C:Ctx)(N:Nat)(X:TypeId)(d t:Nat):M (List (Nat×V)):=
 .get t λv=>match v with
 | .ptr r [.idx sz i] _=>.get r λu=>match u with
  | .bP 0 n ty x=>T7 C N X d r sz i n ty x
  | _=>.fail
 | _=>.fail
def uT(vs:List Nat)(N d:Nat)(fl:Bool)(x:Operand)(m:M (List (Nat×V))):M (List (Nat×V)):=
 match x with
 | .tmp s=>.get s λv=>match v with
  | .bP 0 _ (.pair (.int _) t) _=>.get d λvd=>.bl (vd.idle&&decide (d<N)&&vs.contains s) (.ret [(d,.same s t)])
  | .d none (n+1) (.slice e t) xs=>cond fl (if d<N/\s<N/\d≠s then .get d λvd=>.bl (vd.idle&&vs.contains s) ((allM 0 N).bind λTs=>.bl (C5 s Ts) (.ret [(s,.bP 0 n (.pair (.int .i64) (.slice e t)) ((0:Int),xs)),(d,.same s (.slice e t))]))else .fail) m
  | _=>m
 | _=>m
def T6(C:Ctx)(X:TypeId)(d:Nat):(ty:Ty)->ty.den->M (List (Nat×V))
 | .pair (.int _) (.slice e te),x=>if C.ty X=some (.slice e te)then .ret [(d,.d none 0 (.int .i64) (x.2.length:Int))]else .fail
 | _,_=>.fail
def Ij(C:Ctx)(d:Nat)(l:List Operand)(cw:List TypeId)(m:M (List (Nat×V))):M (List (Nat×V)):=
 match l,cw with
 | [.tmp t],[X]=>.get t λv=>match v with
  | .same r _=>.get r λu=>match u with
   | .bP 0 _ ty x=>T6 C X d ty x
   | _=>m
  | _=>m
 | _,_=>m
def T5(C:Ctx)(vs:List Nat)(X:TypeId)(d r:Nat)(i:Int):(ty:Ty)->ty.den->M (List (Nat×V))
 | .pair (.int _) (.slice _ te),x=>if oA C X=some te then .cC te (ab x.2 i) λ_=>.bl (vs.contains r) (.ret [(d,.ptr r [.idx te.sz i] te)])else .fail
 | _,_=>.fail
def Ii(C:Ctx)(vs:List Nat)(X:TypeId)(d t:Nat)(y:Operand)(m:M (List (Nat×V))):M (List (Nat×V)):=
 .get t λv=>match v with
 | .same r _=>.get r λu=>match u with
  | .bP 0 _ ty x=>(cB C 0 y).bind λz=>match z with
   | .d _ _ (.int _) i=>T5 C vs X d r i ty x
   | _=>.fail
  | _=>m
 | _=>m
section
variable{P:Program}{C:Ctx}{w w' w0:World}{S S':Nat->Prop}{L L' L0:Nat->aj}{s N:Nat}{vs:List Nat}{T T':List V}{tm tm':Array Value}{a:Act}
theorem s9[ae]{s:Nat}{o:Nat}{z:Nat}{q2:List Nat}{z':Nat}{q3:List Nat}(h:kO r q o sz s z q2 = .own z' q3):
  (z=r/\∃i rest,i<sz/\q2=q++(o+i)::rest/\z'=s/\q3=i::rest)\/(z=r/\z'=r/\q3=q2/\∀i rest,i<sz->q2≠q++(o+i)::rest)\/(z≠r/\z≠s/\z'=z/\q3=q2):=by
 unfold kO at h;split at h
 ·rename_i hz;split at h
  ·rename_i y rest hc;split at h
   ·rename_i hy;injection h with h1 h2;refine .inl ⟨hz,y - o,rest,by omega,?_,h1.symm,h2.symm⟩;rw[nP hc];congr 2;omega
   ·rename_i hy;injection h with h1 h2;refine .inr (.inl ⟨hz,h1.symm,h2.symm,λi fe hi he=>?_⟩);rw[he,mi]at hc;simp only[Option.some.injEq,List.cons.injEq]at hc;omega
  ·rename_i cm;injection h with h1 h2;refine .inr (.inl ⟨hz,h1.symm,h2.symm,λi fe _ he=>?_⟩);exact cm (o+i) fe (by rw[he,mi])
 ·rename_i hz;split at h
  ·cases h
  ·rename_i hs;injection h with h1 h2;exact .inr (.inr ⟨hz,hs,h1.symm,h2.symm⟩)
theorem anN[ae]{s:Nat}{o:Nat}{X:Nat->Prop}(hr:X r)(hs:X s)(ij:r≠s):fj (kO r q o sz s) X:=by
 refine⟨λz q2 hX=>?_,λz q2 z' q3 hX h=>?_,λz q2 z2 q3 z' q4 h1 h2=>?_,λz q2=>?_⟩
 ·unfold kO;rw[if_neg (λe:z=r=>hX (e▸hr)),if_neg (λe:z=s=>hX (e▸hs))]
 ·rcases s9 h with⟨_,_,_,_,_,rfl,_⟩|⟨_,rfl,_⟩|⟨_,_,rfl,_⟩
  ·exact hs
  ·exact hr
  ·exact hX
 ·rcases s9 h1 with⟨rfl,i,rest,_,rfl,rfl,rfl⟩|⟨rfl,rfl,rfl,hn⟩|⟨g1,g2,rfl,rfl⟩
  ·rcases s9 h2 with⟨rfl,i',fe,_,rfl,_,he⟩|⟨rfl,he,_⟩|⟨_,g2,he,_⟩
   ·injection he with mB he;exact⟨rfl,by rw[he,mB]⟩
   ·exact absurd he.symm ij
   ·exact absurd he.symm g2
  ·rcases s9 h2 with⟨_,i',fe,_,_,he,_⟩|⟨rfl,_,he,_⟩|⟨g1,_,he,_⟩
   ·exact absurd he ij
   ·exact⟨rfl,he⟩
   ·exact absurd he.symm g1
  ·rcases s9 h2 with⟨_,i',fe,_,_,he,_⟩|⟨_,he,_⟩|⟨_,_,h3,h4⟩
   ·exact absurd he g2
   ·exact absurd he g1
   ·exact⟨h3,h4⟩
 ·unfold kO
  repeat' split
  all_goals simp
theorem anM[ae]{s:Nat}{o:Nat}{rest:List Nat}(hi:i<sz):kO r q o sz s r (q++(o+i)::rest) = .own s (i::rest):=by
 unfold kO;rw[if_pos rfl,mi];dsimp only;rw[if_pos ⟨by omega,by omega⟩,show o+i - o=i by omega]
theorem anO[ae]{s:Nat}{o:Nat}{q2:List Nat}(h:∀i rest,i<sz->q2≠q++(o+i)::rest):kO r q o sz s r q2 = .own r q2:=by
 unfold kO;rw[if_pos rfl];split
 ·rename_i y rest hc;split
  ·rename_i hy;exact absurd (nP hc) (by
    have:=h (y - o) rest (by omega)
    rwa [show o+(y - o)=y by omega]at this)
  ·rfl
 ·rfl
theorem alT{l:List V}(h:C9 r l=true)(z:Nat):Kp r (l.getD z .dead)=true:=by
 induction l generalizing z with
 | nil=>rfl
 | cons v l ih =>
  simp only[C9,Bool.and_eq_true]at h;cases z with
  | zero=>exact h.1
  | succ z=>exact ih h.2 z
theorem alJ{l:List V}(h:C5 r l=true)(z:Nat):(l.getD z .dead).on r=false:=by
 induction l generalizing z with
 | nil=>rfl
 | cons v l ih =>
  simp only[C5,Bool.and_eq_true,Bool.not_eq_true']at h;cases z with
  | zero=>exact h.1
  | succ z=>exact ih h.2 z
theorem alx[ae](hI:Inv w0 L0 N vs T a w L){z:Nat}(h:T.getD z .dead ≠ .dead):z<N:=by
 rcases Nat.lt_or_ge z N with h1|h1
 ·exact h1
 ·exact absurd (ed (by rw[hI.len];exact h1)) h
theorem amF[ae](hI:Inv w0 L0 N vs T a w L){x:Operand}{s:Nat}{k:IntKind}{t:Ty}{y:(Ty.pair (.int k) t).den}(ho:pT o (.tmp s))(hid:(T.getD d .dead).idle=true)(hs:T.getD s .dead = .bP 0 n (.pair (.int k) t) y)(hv:s∈vs):
  aK P o vs T a w L d (.same s t):=by
 have bL:s≠d:=cX hid (by rw[hs];rfl);refine⟨a.tmps.getD s undef,w,L,sM ho,dT.refl hI d,λk q hk h=>(by rw[hI.free k hk]at h;cases h),λr hr=>?_,?_,n,k,y,?_⟩
 ·have:s=r:=by simpa[V.on,V.root]using hr
  exact this▸hv
 ·rw[dN,if_neg (λh=>bL h.1)]
 ·rw[aF,if_neg (λh=>bL h.1),hs]
theorem anl[ae](hI:Inv w0 L0 N vs T a w L){x:Operand}{fl:Bool}(ho:pT o x)(ay:o.dst=some d)
  (h:(uT vs N d fl x m).ai T ups log) (hm:∀log,m.ai T ups log->Step P o w0 L0 N vs (ag T ups) a w):Step P o w0 L0 N vs (ag T ups) a w:=by
 unfold uT at h;split at h
 ·rename_i s;obtain⟨aC,rfl,h⟩:=h;generalize hv:T.getD s .dead=v at h;dsimp only at h;split at h
  ·rename_i n k t y;obtain⟨l2,rfl,hc,h⟩:=h;simp only[Bool.and_eq_true,decide_eq_true_eq]at hc;obtain⟨rfl,_⟩:=h;intro K Q hK;exact aK.inv hI hc.1.2 hc.1.1 ay (amF (x:=.tmp s) hI ho hc.1.1 hv (List.contains_iff_mem.1 hc.2)) hK
  ·rename_i n e t xs;cases fl with
   | false=>exact hm _ h
   | true =>
    rw[cond_true]at h;split at h
    ·rename_i hc;obtain⟨py,bY,hZ⟩:=hc;obtain⟨l2,rfl,hid,h⟩:=h;obtain⟨Ts,l3,l4,rfl,dH,cm,h⟩:=M.an h;obtain⟨rfl,_⟩:=h;have bI:Ts=T:=by rw[kW dH (by rw[Nat.zero_add,hI.len])];rfl
     subst bI;simp only[Bool.and_eq_true]at hid;have Vl:=hid.1;have bd:s∈vs:=List.contains_iff_mem.1 hid.2;have ik:=hI.aW s;rw[hv]at ik;obtain⟨_,cs,hf,bR⟩:=ik;have bT:(ag Ts [(s,V.bP 0 n (.pair (.int .i64) (.slice e t)) ((0:Int),xs)),(d,.same s (.slice e t))]).getD d .dead = .same s (.slice e t):=by
      show ((Ts.set s _).set d _).getD d .dead=_;rw[aF,if_pos ⟨rfl,by simp[hI.len,py]⟩]
     have bI:(ag Ts [(s,V.bP 0 n (.pair (.int .i64) (.slice e t)) ((0:Int),xs)),(d,.same s (.slice e t))]).getD s .dead = .bP 0 n (.pair (.int .i64) (.slice e t)) ((0:Int),xs):=by
      show ((Ts.set s _).set d _).getD s .dead=_;rw[aF,if_neg (λh=>hZ h.1.symm),aF,if_pos ⟨rfl,by rw[hI.len];exact bY⟩]
     have bo:∀z,z≠d->z≠s->(ag Ts [(s,V.bP 0 n (.pair (.int .i64) (.slice e t)) ((0:Int),xs)),(d,.same s (.slice e t))]).getD z .dead=Ts.getD z .dead:=by
      intro z h1 h2;show ((Ts.set s _).set d _).getD z .dead=_;rw[aF,if_neg (λh=>h1 h.1),aF,if_neg (λh=>h2 h.1)]
     refine Step.value (L':=L) ay (sM ho) ?_;have vH:(a.put (some d) (a.eval (.tmp s))).tmps.getD d undef=a.tmps.getD s undef:=by
      show (a.tmps.setIfInBounds d _).getD d undef=_;rw[dN,if_pos ⟨rfl,by rw[hI.size];exact py⟩];rfl
     have mU:∀z,z≠d->(a.put (some d) (a.eval (.tmp s))).tmps.getD z undef=a.tmps.getD z undef:=λz hz=>jS (by simpa using Ne.symm hz);refine Inv.upd (λz=>z=s\/z=d) hI (by simp[Act.put,hI.size]) (by rw[cr,hI.len]) hI.dG hI.fr hI.free hI.inj ?_ (λ_ _ _ _=>⟨rfl,rfl⟩) ?_ ?_ ?_ ?_
     ·intro k z q hk;by_cases h1:z=d
      ·subst h1;have:=hI.owner k z q hk;rw[V.jP Vl]at this;cases this
      ·by_cases h2:z=s
       ·subst h2;rw[bI];rfl
       ·rw[bo z h1 h2];exact hI.owner k z q hk
     ·intro z hz;have hz:=not_or.1 hz;exact⟨bo z hz.2 hz.1,mU z hz.2⟩
     ·intro z r af;by_cases h1:z=d
      ·subst h1;rw[bT]at af;have:s=r:=by simpa[V.on,V.root]using af
       exact this▸bd
      ·by_cases h2:z=s
       ·subst h2;rw[bI]at af;simp[V.on,V.root]at af
       ·rw[bo z h1 h2]at af;exact hI.roots z r af
     ·intro z r hz af bt;have h1:r≠d:=cX Vl bt;have h2:r≠s:=λe=>by
       subst e;have:=alJ cm z;rw[this]at af;cases af
      exact⟨bo r h1 h2,mU r h1⟩
     ·intro z hz;rcases hz with rfl|rfl
      ·rw[bI,mU _ (Ne.symm hZ)];simp only[az,fk];have Cn:cs=[a.tmps.getD z undef]:=hf;simp only[Own]at bR;rcases bR with⟨h1,h2⟩|⟨g,cap,cur,h1,h2,h3,h4,h5,h6,h7⟩
       ·rw[h1]at Cn;exact .inl ⟨(List.cons.inj Cn).1.symm,h2⟩
       ·rw[h1]at Cn;refine .inr ⟨g,cap,cur,(List.cons.inj Cn).1.symm,by simpa using h2,h3,h4,h5,h6,λj hj _=>?_⟩;simpa using h7 j hj
      ·rw[bT,vH];exact⟨(mU s (Ne.symm hZ)).symm,n,.i64,_,bI⟩
    ·exact h.elim
  ·exact hm _ h
 ·exact hm _ h
theorem YV[ae](hI:Inv w0 L0 N vs T a w L){tt:Ty}{ty:Ty}{x:ty.den}(ht:T.getD t .dead = .same r tt)(hr:T.getD r .dead = .bP 0 n ty x):a.tmps.getD t undef=a.tmps.getD r undef:=by
 have:=hI.aW t;rw[ht]at this;exact this.1
theorem anj[ae](hI:Inv w0 L0 N vs T a w L)(hC:bA P C)(ho:o.op = .call { callee:=.builtin .len,args,argTypes:=cw })(ay:o.dst=some d)(hd:d<N)(hid:(T.getD d .dead).idle=true)
  (h:(Ij C d args.toList cw.toList m).ai T ups log) (hm:∀log,m.ai T ups log->Step P o w0 L0 N vs (ag T ups) a w):Step P o w0 L0 N vs (ag T ups) a w:=by
 obtain⟨args⟩:=args;obtain⟨cw⟩:=cw;dsimp only at h;unfold Ij at h;split at h
 ·rename_i t X;obtain⟨aC,rfl,h⟩:=h;generalize ht:T.getD t .dead=v at h;dsimp only at h;split at h
  ·rename_i r tt;obtain⟨log2,rfl,h⟩:=h;generalize hr:T.getD r .dead=u at h;dsimp only at h;split at h
   ·rename_i n ty x;unfold T6 at h;split at h
    ·rename_i k e te x;split at h
     ·rename_i hX;obtain⟨rfl,_⟩:=h;have h1:=YV hI ht hr;have hs:=hI.aW r;rw[hr]at hs;simp only[az,fk]at hs;have hlen:∃A c,a.eval (.tmp t) = .slice A (x.2:List te.den).length c:=by
       rcases hs with⟨h2,h3⟩|⟨g,cap,cur,h2,_⟩
       ·refine⟨none,0,?_⟩;show a.tmps.getD t undef=_;rw[h1,h2,h3];rfl
       ·exact⟨_,_,h1.trans h2⟩
      obtain⟨A,c,hlen⟩:=hlen;intro K Q hK;refine aK.inv hI hd hid ay (aK.still hI (c:=.int .i64 (x.2.length:Int)) ?_ (λ_=>rfl) az.mkInt) hK;have hu:=(hC X _ hX).bX;have hc:(Builtin.len_ #[X] o.type #[a.eval (.tmp t)]).run P w = .ok (.int .i64 (x.2.length:Int)) w:=by
       rw[hlen];simp[Builtin.len_,run_underlying hu.1,goInt]
      simp[execOp,ho,resolve,invoke,builtin,hc]
     ·exact h.elim
    ·exact h.elim
   ·exact hm _ h
  ·exact hm _ h
 ·exact hm _ h
theorem ani[ae](hI:Inv w0 L0 N vs T a w L)(hC:bA P C){y:Operand}(ho:o.op = .indexAddr X (.tmp t) y)(ay:o.dst=some d)(hd:d<N)(hid:(T.getD d .dead).idle=true)
  (h:(Ii C vs X d t y m).ai T ups log) (hm:∀log,m.ai T ups log->Step P o w0 L0 N vs (ag T ups) a w):Step P o w0 L0 N vs (ag T ups) a w:=by
 unfold Ii at h;obtain⟨aC,rfl,h⟩:=h;generalize ht:T.getD t .dead=v at h;dsimp only at h;split at h
 ·rename_i r tt;obtain⟨log2,rfl,h⟩:=h;generalize hr:T.getD r .dead=u at h;dsimp only at h;split at h
  ·rename_i n ty x;obtain⟨z,l1,l2,rfl,hz,h⟩:=M.an h;split at h
   ·rename_i ll nn ki i;have hy:=gu hI hz;unfold T5 at h;split at h
    ·rename_i k e te x _;split at h
     ·rename_i ga;obtain⟨y0,iX,bd,rfl,_⟩:=h;obtain⟨hi,jB,rfl⟩:=lf iX;have h1:=YV hI ht hr;have hs:=hI.aW r;rw[hr]at hs;simp only[az,fk]at hs;rcases hs with⟨_,h3⟩|⟨g,cap,cur,h2,h3,_⟩
      ·rw[h3]at hi;exact absurd hi (by simp)
      ·have fp:a.eval (.tmp t)=_:=h1.trans h2;have aO:(execOp a.eval o).run P w = .ok (.value (.pointer (some ⟨g,0+i.toNat*te.sz,none⟩))) w:=by
        simp[execOp,ho,fp,hy,YS hC ga jB hi]
       intro K Q hK;refine aK.inv hI hd hid ay (aK.ptr hI (g:=g) ?_ h3 (λr' aY=>?_)) hK
       ·rw[aO];simp[node]
       ·have:r=r':=by simpa[V.on,V.root]using aY
        exact this▸List.contains_iff_mem.1 bd
     ·exact h.elim
    ·exact h.elim
   ·exact h.elim
  ·exact hm _ h
 ·exact hm _ h
theorem ank[ae](hI:Inv w0 L0 N vs T a w L)(hC:bA P C){X:TypeId}(ho:o.op = .load X (.tmp t))(ay:o.dst=some d)
  (h:(Ik C N X d t).ai T ups log):Step P o w0 L0 N vs (ag T ups) a w:=by
 unfold Ik at h;obtain⟨aC,rfl,h⟩:=h;generalize ht:T.getD t .dead=v at h;dsimp only at h;split at h
 ·rename_i r sz i tt;obtain⟨log2,rfl,h⟩:=h;generalize hr:T.getD r .dead=u at h;dsimp only at h;split at h
  ·rename_i n ty x;unfold T7 at h;split at h
   ·rename_i k e te x;split at h
    ·rename_i hc;obtain⟨hX,n4,ig,rfl,py,dh,Cl⟩:=hc;obtain⟨l3,rfl,jC,y,hy,h⟩:=h;obtain⟨Ts,l4,l5,rfl,dH,aI,h⟩:=M.an h;obtain⟨rfl,_⟩:=h;have bI:Ts=T:=by rw[kW dH (by rw[Nat.zero_add,hI.len])];rfl
     subst bI;simp only[Bool.and_eq_true,decide_eq_true_eq]at jC;obtain⟨hid,hle⟩:=jC;obtain⟨hi,jB,rfl⟩:=lf hy;have a6:=hI.aW t;rw[ht]at a6;obtain⟨g0,hp,vl⟩:=a6;have hs:=hI.aW r;rw[hr]at hs;have dP:=hs;simp only[az,fk]at hs;rcases hs with⟨_,h3⟩|⟨g,cap,cur,h2,h3,h4,h5,h6,h7,h8⟩
     ·rw[h3]at hi;exact absurd hi (by simp)
     obtain rfl:=hI.inj g0 g r _ vl (by simpa[node]using h3);have hle:x.1<=i:=hle;have aif:=h8 i.toNat hi (Int.le_trans hle (Int.le_of_eq (Int.toNat_of_nonneg jB).symm));have aiA:lY w L (SL L none) r n te (x.2[i.toNat]) (node [] 0 [St.idx te.sz i]).1 (node [] 0 [St.idx te.sz i]).2:=by
      refine⟨g0,cur,e,vl,h4,?_,aif⟩;simp only[node];rw[h7,<-Nat.succ_mul];exact Nat.mul_le_mul_right _ (Nat.lt_of_lt_of_le hi h5)
     obtain⟨c,eJ,e2,aO,hh,bm,hf,lA⟩:=V7 hI hC hX aiA vl;have cn:a.eval (.tmp t)=_:=hp;have Jl:(execOp a.eval o).run P w = .ok (.value c) w:=by simp[execOp,ho,cn,Instr.loadAt,Instr.sureAddr,aO]
     have bT:(ag Ts [(r,V.bP 0 n (.pair (.int k) (.slice e te)) (i+1,x.2)),(d,.d none n te (x.2[i.toNat]))]).getD d .dead = .d none n te (x.2[i.toNat]):=by
      show ((Ts.set r _).set d _).getD d .dead=_;rw[aF,if_pos ⟨rfl,by simp[hI.len,py]⟩]
     have bB:(ag Ts [(r,V.bP 0 n (.pair (.int k) (.slice e te)) (i+1,x.2)),(d,.d none n te (x.2[i.toNat]))]).getD r .dead = .bP 0 n (.pair (.int k) (.slice e te)) (i+1,x.2):=by
      show ((Ts.set r _).set d _).getD r .dead=_;rw[aF,if_neg (λh=>Cl h.1.symm),aF,if_pos ⟨rfl,by rw[hI.len];exact dh⟩]
     have bo:∀z,z≠d->z≠r->(ag Ts [(r,V.bP 0 n (.pair (.int k) (.slice e te)) (i+1,x.2)),(d,.d none n te (x.2[i.toNat]))]).getD z .dead=Ts.getD z .dead:=by
      intro z h1 h2;show ((Ts.set r _).set d _).getD z .dead=_;rw[aF,if_neg (λh=>h1 h.1),aF,if_neg (λh=>h2 h.1)]
     have vH:(a.put (some d) c).tmps.getD d undef=c:=by
      show (a.tmps.setIfInBounds d _).getD d undef=_;rw[dN,if_pos ⟨rfl,by rw[hI.size];exact py⟩]
     have mU:∀z,z≠d->(a.put (some d) c).tmps.getD z undef=a.tmps.getD z undef:=λz hz=>jS (by simpa using Ne.symm hz);have Vr:∀z,(Ts.getD z .dead).on r=true->(∃t',Ts.getD z .dead = .same r t')\/∃fg i' t',Ts.getD z .dead = .ptr r [.idx fg i'] t':=by
      intro z af;have hz:=alT aI z;unfold Kp at hz;rw[af,Bool.not_true,Bool.false_or]at hz;generalize Ts.getD z .dead=v at hz af;cases v with
      | same r' t' =>
       have:r'=r:=by simpa[V.on,V.root]using af
       exact .inl ⟨t',by rw[this]⟩
      | ptr r' p t' =>
       have:r'=r:=by simpa[V.on,V.root]using af
       subst this
       match p,hz with
       | [.idx fg i'],_=>exact .inr ⟨fg,i',t',rfl⟩
      | _=>cases hz
     have I5:∀k' q',L k' = .own r q'->(∀i' rest,i'<te.sz->q'≠[0]++(i.toNat*te.sz+i')::rest)->aT (kO r [0] (i.toNat*te.sz) te.sz d) w L (λ_=>.free) k' = .own r q':=by
      intro k' q' hk hq;rw[cR hI (by rw[hk];simp),hk];exact anO hq
     refine Step.value (L':=aT (kO r [0] (i.toNat*te.sz) te.sz d) w L (λ_=>.free)) ay Jl ?_;refine Inv.gw (X:=λz=>z=r\/z=d\/(Ts.getD z .dead).on r=true) (nl:=λ_=>.free) hI (anN (.inl rfl) (.inr (.inl rfl)) (Ne.symm Cl)) (Wd.refl hI _) (λ_ _ _ _ _ h=>by cases h) (by simp[Act.put,hI.size]) (by rw[cr,hI.len]) hI.dG ?_ ?_ ?_ ?_ ?_
     ·intro k' z q bV h;by_cases h1:z=r
      ·subst h1;rw[bB];rfl
      ·by_cases h9:z=d
       ·subst h9;rw[bT];simp[V.aJ,ig,n4]
       ·rw[bo z h9 h1];unfold aT at h;split at h
        ·obtain⟨s0,q0,e0,f0⟩:=eF h;rcases s9 f0 with⟨_,_,_,_,_,j3,_⟩|⟨_,j3,_⟩|⟨_,_,j3,j4⟩
         ·exact absurd j3 h9
         ·exact absurd j3 h1
         ·subst j3;exact hI.owner k' _ _ e0
        ·cases h
     ·intro z r' bV af aY;have bV:=not_or.1 bV;have c8:=not_or.1 bV.2;rcases aY with rfl|rfl|aY
      ·exact absurd af c8.2
      ·exact V.jP hid
      ·rcases Vr r' aY with⟨_,he⟩|⟨_,_,_,he⟩<;>rw[he]<;>rfl
     ·intro z bV;have bV:=not_or.1 bV;have c8:=not_or.1 bV.2;exact⟨bo z c8.1 bV.1,mU z c8.1⟩
     ·intro z r' bV af;by_cases h1:z=r
      ·subst h1;rw[bB]at af;simp[V.on,V.root]at af
      ·by_cases h9:z=d
       ·subst h9;rw[bT]at af;simp[V.on,V.root]at af
       ·rw[bo z h9 h1]at af;exact hI.roots z r' af
     ·intro z bV;by_cases h1:z=r
      ·subst h1;rw[bB,mU _ (Ne.symm Cl)];simp only[az,fk];refine .inr ⟨g0,cap,cur,h2,I5 _ _ h3 (λi' rest _ h=>by have:=congrArg List.length h;simp at this),h4,h5,h6,h7,λj hj Vw=>?_⟩;have Vw:i+1<=(j:Int):=Vw;refine Own.move (λk' hk=>?_) (λk' dd rest hY hk=>⟨?_,rfl⟩) (h8 j hj (Int.le_trans hle (by omega)))
       ·rcases hk with hk|⟨_,_,hk,_⟩
        ·exact⟨.inl (dY hI hk),rfl⟩
        ·cases hk
       ·refine I5 _ _ hk (λi' fe r7 he=>?_);simp only[List.cons_append,List.nil_append,List.cons.injEq,true_and]at he;have lg:(i.toNat+1)*te.sz<=j*te.sz:=Nat.mul_le_mul_right _ (by omega);rw[Nat.add_mul,Nat.one_mul]at lg;omega
      ·by_cases h9:z=d
       ·subst h9;rw[bT,vH];refine⟨by simp,_,hf,?_⟩;refine Own.move (λk' hk=>?_) (λk' dd rest hY hk=>⟨?_,rfl⟩) lA
        ·rcases hk with hk|⟨_,_,hk,_⟩
         ·exact⟨.inl (dY hI hk),rfl⟩
         ·cases hk
        ·rw[cR hI (by rw[hk];simp),hk];simp only[er,node,Nat.zero_add,List.nil_append];exact anM hY
       ·rw[bo z h9 h1,mU z h9];have af:(Ts.getD z .dead).on r=true:=by
         rcases bV with h|h|h
         ·exact absurd h h1
         ·exact absurd h h9
         ·exact h
        have pI:=hI.aW z;rcases Vr z af with⟨t',he⟩|⟨fg,i',t',he⟩
        ·rw[he]at pI ⊢;obtain⟨j1,n1,k1,x1,j2⟩:=pI;rw[hr]at j2;cases j2;exact⟨j1.trans (mU r (Ne.symm Cl)).symm,n,k,_,bB⟩
        ·rw[he]at pI ⊢;obtain⟨g2,j1,j2⟩:=pI;exact⟨g2,j1,I5 _ _ j2 (λi' rest _ h=>by have:=congrArg List.length h;simp[node]at this)⟩
    ·exact h.elim
   ·exact h.elim
  ·exact h.elim
 ·exact h.elim
end
def rP:Nat->Ty->Bool
 | m,.pair a b=>(a.depth==0||m.testBit 0)&&rP (m / 2) b
 | m,t=>t.depth==0||m.testBit 0
def nk(m:Nat)(ta:Ty)(x:ta.den):V:=cond (rP m ta) (.box none ta.depth (.agg ta) x) (.bP 1 m (.agg ta) x)
def CZ(C:Ctx)(vs:List Nat)(N:Nat)(kids:List Nat)(X:TypeId)(r i off m0:Nat)(ta:Ty)(x0:ta.den)(x:Operand):M (List (Nat×V)):=
 match x with
 | .tmp s=>.get s λv=>match v with
  | .d none k t1 y=>match comp i ta x0 with
   | some (o,⟨t2,_⟩)=>if o=off/\t2=t1/\t1.depth≠0/\t1.depth<=k/\C.ty X=some t1/\vs.contains s=false/\s≠r/\r<N/\m0.testBit i=false/\ta.depth≠0 then
     (iw i ta x0 (λt' x'=>eP [] t' x' t1 y)).bind λx2=>gX false r s kids (.ret [(r,nk (m0 ||| 2 ^ i) ta x2),(s,.dead)])
    else .fail
   | none=>.fail
  | _=>.fail
 | _=>.fail
def J7(C:Ctx)(vs:List Nat)(N:Nat)(kids:List Nat)(X:TypeId)(r:Nat)(p:List St)(u:V)(x:Operand)(m:M (List (Nat×V))):M (List (Nat×V)):=
 match p with
 | [.aZ i off]=>match u with
  | .box none 0 (.agg ta) x0=>CZ C vs N kids X r i off 0 ta x0 x
  | .bP 1 m0 (.agg ta) x0=>CZ C vs N kids X r i off m0 ta x0 x
  | _=>m
 | _=>m
section
variable{P:Program}{C:Ctx}{w w' w0:World}{S S':Nat->Prop}{L L' L0:Nat->aj}{s N:Nat}{vs:List Nat}{T T':List V}{tm tm':Array Value}{a:Act}
theorem b7.move[ae](H1:∀k,L k = .aq->L' k = .aq/\w'.heap[k]?=w.heap[k]?):{t:Ty}->{m:Nat}->{x:t.den}->{o:Nat}->{cs:List Value} ->
  (∀k d rest,d<t.sz->L k = .own r ((o+d)::rest)->L' k = .own r ((o+d)::rest)/\w'.heap[k]?=w.heap[k]?)->b7 w L r m t x o cs->b7 w' L' r m t x o cs:=by
 have HS:∀k,SL L none k->SL L' none k/\w'.heap[k]?=w.heap[k]?:=by
  rintro k (hk|⟨_,_,hk,_⟩)
  ·exact⟨.inl (H1 k hk).1,(H1 k hk).2⟩
  ·cases hk
 intro t;induction t with
 | pair a b _ ih =>
  intro m x o cs H2 h;obtain⟨c0,c1,h1,h2,h3⟩:=h;refine⟨c0,c1,h1,Own.move HS (λk d rest hd hk=>H2 k d rest (by simp only[Ty.sz];omega) hk) h2,ih (λk d rest hd hk=>?_) h3⟩;have:=H2 k (a.sz+d) rest (by simp only[Ty.sz];omega) (by rw[hk,Nat.add_assoc])
  rwa [<-Nat.add_assoc]at this
 | _=>intro m x o cs H2 h;simp only[b7]at h ⊢;exact Own.move HS H2 h
theorem b7.of0[ae]:{t:Ty}->{x:t.den}->{o:Nat}->{cs:List Value}->Own w L (SL L none) r 0 t x [] o cs->b7 w L r 0 t x o cs:=by
 intro t;induction t with
 | pair a b _ ih =>
  intro x o cs h;simp only[Own]at h;obtain⟨c0,c1,h1,h2,h3⟩:=h;exact⟨c0,c1,h1,by simpa using h2,ih h3⟩
 | _=>intro x o cs h;simp only[b7];simpa using h
theorem b7.full[ae]:{t:Ty}->{m:Nat}->{x:t.den}->{o:Nat}->{cs:List Value}->{D:Nat}->t.depth<=D->rP m t=true->b7 w L r m t x o cs->Own w L (SL L none) r D t x [] o cs:=by
 have one:∀{t:Ty} {m:Nat} {x:t.den} {o:Nat} {cs:List Value} {D:Nat},t.depth<=D->(t.depth==0||m.testBit 0)=true->Own w L (SL L none) r (cond (m.testBit 0) t.depth 0) t x [] o cs->Own w L (SL L none) r D t x [] o cs:=by
  intro t m x o cs D hD hf h;cases hb:m.testBit 0 with
  | true=>rw[hb]at h;exact Own.cap (Nat.le_refl _) hD h
  | false =>
   rw[hb,Bool.or_false]at hf;exact Own.flat (by simpa using hf) h
 intro t;induction t with
 | pair a b _ ih =>
  intro m x o cs D hD hf h;obtain⟨c0,c1,h1,h2,h3⟩:=h;simp only[rP,Bool.and_eq_true]at hf;simp only[Ty.depth]at hD;simp only[Own];exact⟨c0,c1,h1,one (by omega) hf.1 h2,ih (by omega) hf.2 h3⟩
 | _=>intro m x o cs D hD hf h;simp only[b7]at h;exact one hD hf h
theorem alW(m i:Nat):(m ||| 2 ^ (i+1)).testBit 0=m.testBit 0/\(m ||| 2 ^ (i+1)) / 2=m / 2 ||| 2 ^ i:=by
 refine⟨?_,?_⟩
 ·rw[Nat.testBit_or,Nat.testBit_two_pow];simp
 ·rw[Nat.or_div_two,Nat.pow_succ,Nat.mul_div_cancel _ (by omega)]
theorem Yt(m:Nat):(m ||| 2 ^ 0).testBit 0=true/\(m ||| 2 ^ 0) / 2=m / 2:=by
 refine⟨?_,?_⟩
 ·rw[Nat.testBit_or,Nat.testBit_two_pow];simp
 ·rw[Nat.or_div_two];simp
theorem X5{t1 t':Ty}{x1:t1.den}{y:t'.den}{z:t1.den}(h:(eP [] t1 x1 t' y).ai T z log):∃e:t'=t1,z=e▸y:=by
 simp only[eP]at h;split at h
 ·rename_i e;exact⟨e,h.1⟩
 ·exact h.elim
theorem b7.mod[ae](H1:∀k,L k = .aq->L' k = .aq/\w'.heap[k]?=w.heap[k]?):{t:Ty}->{i m:Nat}->{x x':t.den}->{o:Nat}->{cs bg:List Value}->{t1:Ty}->{y x1:t1.den}->{o1:Nat}->{log:List Nat} ->
  comp i t x=some (o1,⟨t1,x1⟩)->(iw i t x (λt' x'=>eP [] t' x' t1 y)).ai T x' log ->
  (∀k d rest,d<t.sz->¬(o1<=d/\d<o1+t1.sz)->L k = .own r ((o+d)::rest)->L' k = .own r ((o+d)::rest)/\w'.heap[k]?=w.heap[k]?) ->
  bg.length=cs.length->(∀j,j<o1\/o1+t1.sz<=j->bg[j]?=cs[j]?)->Own w' L' (SL L' none) r t1.depth t1 y [] (o+o1) ((bg.drop o1).take t1.sz) ->
  b7 w L r m t x o cs->b7 w' L' r (m ||| 2 ^ i) t x' o bg:=by
 have HS:∀k,SL L none k->SL L' none k/\w'.heap[k]?=w.heap[k]?:=by
  rintro k (hk|⟨_,_,hk,_⟩)
  ·exact⟨.inl (H1 k hk).1,(H1 k hk).2⟩
  ·cases hk
 intro t;induction t with
 | pair a b _ ih =>
  intro i m x x' o cs bg t1 y x1 o1 log hc hm H2 hl fq hy h;have hlen:=b7.len h;obtain⟨c0,c1,rfl,h2,h3⟩:=h;have jE:=Own.len h2;cases i with
  | zero =>
   simp only[comp,Option.some.injEq,Prod.mk.injEq]at hc;obtain⟨rfl,hc⟩:=hc;cases hc;simp only[iw]at hm;obtain⟨z,l1,l2,rfl,hz,h5,_⟩:=M.an hm;obtain⟨e,rfl⟩:=X5 hz;subst h5;obtain⟨k1,k2⟩:=Yt m;refine⟨bg.take a.sz,c1,?_,?_,?_⟩
   ·apply List.ext_getElem?;intro j;by_cases hj:j<a.sz
    ·rw[List.getElem?_append_left (by rw[List.length_take];simp only[List.length_append]at hl;omega),List.getElem?_take_of_lt hj]
    ·have hll:(bg.take a.sz).length=a.sz:=by rw[List.length_take];simp only[List.length_append]at hl;omega
     rw[List.getElem?_append_right (by omega),hll,fq j (.inr (by omega)),List.getElem?_append_right (by omega),jE]
   ·rw[k1];simpa using hy
   ·rw[k2];refine b7.move H1 (λk d rest hd hk=>?_) h3;have:=H2 k (a.sz+d) rest (by simp only[Ty.sz];omega) (by omega) (by rw[hk,Nat.add_assoc])
    rwa [<-Nat.add_assoc]at this
  | succ i =>
   simp only[comp,Option.map_eq_some_iff]at hc;obtain⟨⟨o2,t2,x2⟩,hc,he⟩:=hc;simp only[Prod.mk.injEq]at he;obtain⟨rfl,he⟩:=he;cases he;simp only[iw]at hm;obtain⟨z,l1,l2,rfl,hz,h5,_⟩:=M.an hm;subst h5;obtain⟨k1,k2⟩:=alW m i;have Vv:bg.length=a.sz+b.sz:=by rw[hl];simpa[Ty.sz]using hlen
   refine⟨c0,bg.drop a.sz,?_,?_,?_⟩
   ·apply List.ext_getElem?;intro j;by_cases hj:j<a.sz
    ·rw[List.getElem?_append_left (by omega),fq j (.inl (by omega)),List.getElem?_append_left (by omega)]
    ·rw[List.getElem?_append_right (by omega),List.getElem?_drop,jE,show a.sz+(j - a.sz)=j by omega]
   ·rw[k1];exact Own.move HS (λk d rest hd hk=>H2 k d rest (by simp only[Ty.sz];omega) (by omega) hk) h2
   ·rw[k2];refine ih hc hz (λk d rest hd hn hk=>?_) ?_ (λj hj=>?_) ?_ h3
    ·have:=H2 k (a.sz+d) rest (by simp only[Ty.sz];omega) (by omega) (by rw[hk,Nat.add_assoc])
     rwa [<-Nat.add_assoc]at this
    ·simp only[List.length_append]at hl;rw[List.length_drop];omega
    ·rw[List.getElem?_drop,fq _ (by omega),List.getElem?_append_right (by omega),jE,show a.sz+j - a.sz=j by omega]
    ·rw[List.drop_drop,<-Nat.add_assoc]at *
     exact hy
 | _ =>
  intro i m x x' o cs bg t1 y x1 o1 log hc hm H2 hl fq hy h;cases i with
  | zero =>
   simp only[comp,Option.some.injEq,Prod.mk.injEq]at hc;obtain⟨rfl,hc⟩:=hc;cases hc;simp only[iw]at hm;obtain⟨e,rfl⟩:=X5 hm;have hlen:=b7.len h;simp only[b7];rw[(Yt m).1];rw[List.drop_zero,List.take_of_length_le (by omega)]at hy;exact hy
  | succ i=>simp[comp]at hc
theorem XV{m:Nat}{ta:Ty}{x:ta.den}:(nk m ta x).aJ=true/\(nk m ta x).root=none:=by
 unfold nk;cases rP m ta<;>exact⟨rfl,rfl⟩
theorem Y9[ae](hI:Inv w0 L0 N vs T a w L)(hC:bA P C){o:Oper}{X:TypeId}{t off m0:Nat}{ta:Ty}{x0:ta.den}(ho:o.op = .store X (.tmp t) x)(ay:o.dst=none)
  (cP:∃g,a.eval (.tmp t) = .pointer (some ⟨g,off,none⟩)/\L g = .own r [])
  (dz:∃g cur e,a.tmps.getD r undef = .pointer (some ⟨g,0,none⟩)/\L g = .own r []/\w.heap[g]?=some (.cells cur e (0,0))/\cur.size=ta.sz/\b7 w L r m0 ta x0 0 cur.toList)
  (bz:(T.getD r .dead).dr=false) (h:(CZ C vs N kids X r i off m0 ta x0 x).ai T ups log):Step P o w0 L0 N vs (ag T ups) a w:=by
 unfold CZ at h;split at h
 ·rename_i s;obtain⟨aC,rfl,h⟩:=h;generalize hv:T.getD s .dead=v at h;dsimp only at h;split at h
  ·rename_i k t1 y;split at h
   ·rename_i o1 t2 x1 Vb;split at h
    ·rename_i hc;obtain⟨rfl,rfl,n4,Vg,hX,bd,bp,dh,U5,jI⟩:=hc;obtain⟨x2,l1,l2,rfl,vy,h⟩:=M.an h;obtain⟨cF,log2,h⟩:=jw h;obtain⟨rfl,_⟩:=h;have VZ:s∉vs:=λhm=>by rw[List.contains_iff_mem.2 hm]at bd;cases bd
     obtain⟨g,hp,hg⟩:=cP;obtain⟨g',cur,e,c1,c2,c3,c4,c5⟩:=dz;obtain rfl:=hI.inj g g' r _ hg c2;have ik:=hI.aW s;rw[hv]at ik;obtain⟨_,cs,hf,bR⟩:=ik;have dO:=Own.one bR;have hlen:=Own.len bR;obtain⟨pw,_⟩:=b7.TT c5 Vb;have bm:o1+t2.sz<=cur.size:=by rw[c4];exact pw
     have aO:(execOp a.eval o).run P w = .ok .skip (w.setRow g (putCells cur o1 cs)):=by
      have vh:Form t2 cs (a.eval (.tmp s)):=hf;simp[execOp,ho,hp,sN (hC X _ hX) c3 vh dO hlen bm]
     have bY:s<N:=alx hI (by rw[hv];simp);have mT:∀z,z≠s->(T.getD z .dead).on r=true->∃p' t',T.getD z .dead = .ptr r p' t'/\shallow p'=true:=by
      intro z gM af;have hb:(T.getD z .dead).dZ r=false:=cF z gM;unfold V.dZ at hb;rw[af,Bool.true_and]at hb;generalize T.getD z .dead=v at hb af;cases v with
      | ptr r2 p2 t2 =>
       have:r2=r:=by simpa[V.on,V.root]using af
       subst this;exact⟨p2,t2,rfl,by simpa using hb⟩
      | _=>simp at hb
     have bI:(ag T [(r,nk (m0 ||| 2 ^ i) ta x2),(s,.dead)]).getD s .dead = .dead:=by
      show ((T.set r _).set s _).getD s .dead=_;rw[aF,if_pos ⟨rfl,by simp[hI.len,bY]⟩]
     have bB:(ag T [(r,nk (m0 ||| 2 ^ i) ta x2),(s,.dead)]).getD r .dead=nk (m0 ||| 2 ^ i) ta x2:=by
      show ((T.set r _).set s _).getD r .dead=_;rw[aF,if_neg (λh=>bp h.1.symm),aF,if_pos ⟨rfl,by rw[hI.len];exact dh⟩]
     have bo:∀z,z≠r->z≠s->(ag T [(r,nk (m0 ||| 2 ^ i) ta x2),(s,.dead)]).getD z .dead=T.getD z .dead:=by
      intro z h1 h2;show ((T.set r _).set s _).getD z .dead=_;rw[aF,if_neg (λh=>h2 h.1),aF,if_neg (λh=>h1 h.1)]
     have cQ:some s≠some r:=by simpa using bp
     have kB:∀k,k≠g->(w.setRow g (putCells cur o1 cs)).heap[k]?=w.heap[k]?:=λk hk=>setRow_other w g k _ hk;have jA:fj (dC r [] o1 t2.sz t2.depth (some s)) (λz=>z=r\/z=s\/(T.getD z .dead).on r=true):=Y6 cQ (.inl rfl) (λs' h=>by cases h;exact .inr (.inl rfl));have I6:∀kk z,L kk = .own r z->¬kg [] o1 t2.sz z->aT (dC r [] o1 t2.sz t2.depth (some s)) w L (λ_=>.free) kk = .own r z:=by
      intro kk z hk hu;rw[cR hI (by rw[hk];simp),hk];simp only[er,dC];rw[if_pos trivial,if_neg];intro h;simp only[Bool.and_eq_true]at h;exact hu (qv.1 h.2)
     have fW:∀{q},kg [] o1 t2.sz q->q≠[]:=by
      rintro q ⟨d,rest,_,rfl⟩ h;simp at h
     have gn:aT (dC r [] o1 t2.sz t2.depth (some s)) w L (λ_=>.free) g = .own r []:=I6 g [] hg (λh=>fW h rfl);intro K Q hK;unfold Oper.wp;rw[aO,Oper.upon_skip,ay];refine hK a _ (aT (dC r [] o1 t2.sz t2.depth (some s)) w L (λ_=>.free)) ?_;refine Inv.gw (X:=λz=>z=r\/z=s\/(T.getD z .dead).on r=true) hI jA ?_ (λ_ _ _ _ _ h=>by cases h) hI.size (by rw[cr,hI.len]) hI.dG ?_ ?_ ?_ ?_ ?_
     ·refine⟨rfl,rfl,rfl,by simp[World.setRow],Nat.le_refl _,λkk hk hx=>kB kk ?_,λ_ _=>rfl,λ_ _ _ _ h=>by cases h⟩
      rintro rfl
      exact hx r _ hg (.inl rfl)
     ·intro kk z q rW h;by_cases h1:z=r
      ·subst h1;rw[bB];exact XV.1
      ·unfold aT at h;split at h
       ·obtain⟨s0,q0,e0,f0⟩:=eF h;rcases qn cQ f0 with⟨_,rfl,_⟩|⟨_,rfl,_⟩|⟨h2,h3,rfl,rfl⟩
        ·exact absurd rfl h1
        ·exact absurd rfl h1
        ·have h3:z≠s:=λe=>h3 (by rw[e]);rw[bo z h1 h3];exact hI.owner kk z q e0
       ·cases h
     ·intro z r' bV af aY;have bV:=not_or.1 bV;have c8:=not_or.1 bV.2;rcases aY with rfl|rfl|aY
      ·exact absurd af c8.2
      ·exact absurd (hI.roots z r' af) VZ
      ·by_cases h2:r'=s
       ·subst h2;exact absurd (hI.roots z r' af) VZ
       ·obtain⟨p',t',he,_⟩:=mT r' h2 aY;rw[he];rfl
     ·intro z bV;have bV:=not_or.1 bV;have c8:=not_or.1 bV.2;exact⟨bo z bV.1 c8.1,rfl⟩
     ·intro z r' bV af;by_cases h1:z=r
      ·subst h1;rw[bB]at af;simp[V.on,XV.2]at af
      ·by_cases h2:z=s
       ·subst h2;rw[bI]at af;simp[V.on,V.root]at af
       ·rw[bo z h1 h2]at af;exact hI.roots z r' af
     ·intro z bV;by_cases h1:z=r
      ·subst h1;rw[bB];have lx:b7 (w.setRow g (putCells cur o1 cs)) (aT (dC z [] o1 t2.sz t2.depth (some s)) w L (λ_=>.free)) z (m0 ||| 2 ^ i) ta x2 0 (putCells cur o1 cs).toList:=by
        refine b7.mod (λkk hk=>⟨dY hI hk,kB kk (by rintro rfl;rw[hg]at hk;cases hk)⟩) Vb vy (λkk d rest hd hn hk=>?_) ?_ (λj hj=>?_) ?_ c5
        ·refine⟨I6 kk _ hk (λhu=>?_),kB kk (by rintro rfl;rw[hg]at hk;injection hk with _ hk;cases hk)⟩;obtain⟨d',fe,n3,he⟩:=hu;simp only[List.nil_append,List.cons.injEq]at he;omega
        ·have:=Dk (cur:=cur) (o:=o1) (cs:=cs) (by omega);simpa using this
        ·have:=Dj (cur:=cur) (o:=o1) (cs:=cs) (by omega) j (by omega);simpa using this
        ·have pv:=Di (cur:=cur) (o:=o1) (cs:=cs) (by omega);rw[hlen]at pv;rw[pv];refine Own.eQ Vg (λkk hk=>?_) (λkk d rest hd hk=>?_) bR
         ·rcases hk with hk|⟨_,_,hk,_⟩
          ·exact⟨.inl (dY hI hk),kB kk (by rintro rfl;rw[hg]at hk;cases hk)⟩
          ·cases hk
         ·have hh:aT (dC z [] o1 t2.sz t2.depth (some s)) w L (λ_=>.free) kk=if rest.length<t2.depth then .own z ((o1+d)::rest)else .aq:=by
           rw[cR hI (by rw[hk];simp),hk];simp only[er,dC,List.nil_append,Nat.zero_add];rw[if_neg bp,if_pos trivial,if_pos hd]
          refine⟨kB kk (by rintro rfl;rw[hg]at hk;injection hk with hk _;exact bp hk.symm),λhl=>?_,λhl=>.inl ?_⟩
          ·rw[hh,if_pos hl];simp
          ·show aT _ _ _ _ kk=_;rw[hh,if_neg (by omega)]
       have Vk:=setRow_heap w g cur (putCells cur o1 cs) e (0,0) c3;have VW:=Dk (cur:=cur) (o:=o1) (cs:=cs) (by omega);unfold nk;cases hfu:rP (m0 ||| 2 ^ i) ta with
       | true =>
        refine⟨by simp,g,putCells cur o1 cs,e,c1,gn,Vk,by rw[VW];exact c4,?_⟩;simp only[Own];exact b7.full (Nat.le_refl _) hfu lx
       | false=>exact⟨g,putCells cur o1 cs,e,c1,gn,Vk,by rw[VW];exact c4,lx⟩
      ·by_cases h2:z=s
       ·subst h2;rw[bI];trivial
       ·have af:(T.getD z .dead).on r=true:=by
         rcases bV with h|h|h
         ·exact absurd h h1
         ·exact absurd h h2
         ·exact h
        rw[bo z h1 h2];obtain⟨p',t',he,dX⟩:=mT z h2 af;have pI:=hI.aW z;rw[he]at pI ⊢;obtain⟨g2,j1,j2⟩:=pI;refine⟨g2,j1,?_⟩;rw[qj dX]at j2 ⊢;exact I6 g2 [] j2 (λh=>fW h rfl)
    ·exact h.elim
   ·exact h.elim
  ·exact h.elim
 ·exact h.elim
theorem ano[ae](hI:Inv w0 L0 N vs T a w L)(hC:bA P C){t:Nat}(ho:o.op = .store X (.tmp t) x)(ay:o.dst=none)
  (ht:addrOf t (T.getD t .dead)=some (r,p)) (cP:∀r p,addrOf t (T.getD t .dead)=some (r,p)->∃g,a.eval (.tmp t) = .pointer (some ⟨g,(node [] 0 p).2,none⟩)/\L g = .own r (node [] 0 p).1)
  (hr:T.getD r .dead=u) (h:(J7 C vs N kids X r p u x m).ai T ups log) (hm:∀log,m.ai T ups log->Step P o w0 L0 N vs (ag T ups) a w):Step P o w0 L0 N vs (ag T ups) a w:=by
 unfold J7 at h;split at h
 ·rename_i i off;have IY:=cP r _ ht;simp only[node,Nat.zero_add]at IY;have bc:=hI.aW r;rw[hr]at bc;split at h
  ·rename_i ta x0;obtain⟨_,g,cur,e,h1,h2,h3,h4,h5⟩:=bc;simp only[Own]at h5;exact Y9 (ta:=ta) (x0:=x0) hI hC ho ay IY ⟨g,cur,e,h1,h2,h3,h4,b7.of0 (t:=ta) h5⟩ (by rw[hr];rfl) h
  ·rename_i m0 ta x0;exact Y9 hI hC ho ay IY bc (by rw[hr];rfl) h
  ·exact hm _ h
 ·exact hm _ h
end
def wE(r:Nat)(v:V):Bool := !v.dZ r||(match v with
 | .ptr _ _ _=>true
 | .view _ [] _=>true
 | _=>false)
def JR{α:Type}(r:Nat):List Nat->M α->M α
 | [],m=>m
 | k::l,m=>.get k λv=>.bl (wE r v) (JR r l m)
def K1(C:Ctx)(N:Nat)(kids:List Nat)(X:TypeId)(r:Nat)(p:List St)(u:V)(x:Operand)(m:M (List (Nat×V))):M (List (Nat×V)):=
 (du p u).bind λz =>
  if z.2.t.depth=0/\u.dr=true/\C.ty X=some z.2.t/\(u.root != some r)=true/\r<N/\r<100000 then
   (cB C X x).bind λv=>match v with
   | .d none _ t' y=>if h:t'=z.2.t then (fK p u z.2.t (h▸y)).bind λu'=>JR r kids (.ask (uN r (ja false (r::kids))) (.ret [(r,u')]))else .fail
   | _=>.fail
  else m
section
variable{P:Program}{C:Ctx}{w w' w0:World}{S S':Nat->Prop}{L L' L0:Nat->aj}{s N:Nat}{vs:List Nat}{T T':List V}{tm tm':Array Value}{a:Act}
theorem Xt{α:Type}{m:M α}{x:α}:{l:List Nat}->{log:List Nat}->(JR r l m).ai T x log->(∀k∈l,wE r (T.getD k .dead)=true)/\∃aC,m.ai T x aC
 | [],log,h=>⟨by simp,log,h⟩
 | k::l,log,h=>by
  obtain⟨aC,rfl,hc,h⟩:=h;obtain⟨h1,h2⟩:=Xt (l:=l) h;refine⟨λk' aG=>?_,h2⟩;rcases List.mem_cons.1 aG with rfl|aG
  ·exact hc
  ·exact h1 k' aG
theorem ans[ae](hI:Inv w0 L0 N vs T a w L)(hC:bA P C){m:M (List (Nat×V))}(ho:o.op = .store X (.tmp t) x)(ay:o.dst=none)
  (ht:addrOf t (T.getD t .dead)=some (r,p)) (cP:∀r p,addrOf t (T.getD t .dead)=some (r,p)->∃g,a.eval (.tmp t) = .pointer (some ⟨g,(node [] 0 p).2,none⟩)/\L g = .own r (node [] 0 p).1)
  (hr:T.getD r .dead=u) (h:(K1 C N kids X r p u x m).ai T ups log) (hm:∀log,m.ai T ups log->Step P o w0 L0 N vs (ag T ups) a w):Step P o w0 L0 N vs (ag T ups) a w:=by
 obtain⟨⟨l,n',t',x'⟩,l1,l2,rfl,hz,h⟩:=M.an h;dsimp only at h;split at h
 ·rename_i hc;obtain⟨hd,mX,hX,lG,dh,Ji⟩:=hc;clear hm;obtain⟨v,l3,l4,rfl,hv,h⟩:=M.an h;split at h
  ·rename_i k tv y;split at h
   ·rename_i pJ;subst pJ;obtain⟨u',l5,l6,rfl,vy,h⟩:=M.an h;obtain⟨I4,log2,h⟩:=Xt h;obtain⟨⟨hq,_⟩,fw,rfl,h⟩:=h;obtain⟨rfl,_⟩:=h;have aI:∀z,z≠r->wE r (T.getD z .dead)=true:=by
     intro z hz;by_cases hm:z∈kids
     ·exact I4 z hm
     ·have:=HH Ji hq z (wk (by simp[hz,hm]));rw[wm]at this;have this:(T.getD z .dead).dZ r=false:=this;unfold wE;rw[this];rfl
    obtain⟨g,pz,hg⟩:=cP r p ht;have bc:=hI.aW r;rw[hr]at bc;obtain⟨⟨g',cur,e,k1,k2,k3,k4⟩,_,_,gJ,lp⟩:=kI hz bc;obtain rfl:=hI.inj g g' r _ hg k1;have dR:∃cs s0,Form tv cs (a.eval x)/\Own w L (SL L none) s0 k tv y [] 0 cs:=by
     rcases jQ hI hv with⟨s,rfl,_,hs⟩|⟨_,hs⟩
     ·obtain⟨_,cs,hf,bR⟩:=hs;exact⟨cs,s,hf,bR⟩
     ·obtain⟨_,cs,hf,bR⟩:=hs L T a.tmps 0 w;exact⟨cs,0,hf,bR⟩
    obtain⟨cs,s0,hf,bR⟩:=dR;have dO:=Own.one bR;have hlen:=Own.len bR;have aO:(execOp a.eval o).run P w = .ok .skip (w.setRow g (putCells cur (node [] 0 p).2 cs)):=by
     simp[execOp,ho,pz,sN (hC X _ hX) k2 hf dO hlen k3]
    have bB:(ag T [(r,u')]).getD r .dead=u':=by
     show (T.set r u').getD r .dead=u';rw[aF,if_pos ⟨rfl,by rw[hI.len];exact dh⟩]
    have bo:∀z,z≠r->(ag T [(r,u')]).getD z .dead=T.getD z .dead:=by
     intro z hz;show (T.set r u').getD z .dead=_;rw[aF,if_neg (λh=>hz h.1)]
    intro K Q hK;unfold Oper.wp;rw[aO,Oper.upon_skip,ay];refine hK a _ _ (Inv.store (m:=n') (src:=none) hI hr hz vy (by simpa using lG) hg k2 k3 hlen (by simp) (by rw[cr,hI.len]) bB ?_ (λz hz _ _=>bo z hz) (Own.flat hd bR));intro z hz _ af;refine .inr ⟨bo z hz,?_⟩;have hk:=aI z hz;unfold wE V.dZ at hk;rw[af,Bool.true_and]at hk;generalize T.getD z .dead=vz at hk af;cases vz with
    | ptr r2 p2 t2=>exact .inl rfl
    | view r2 p2 t2 =>
     cases p2 with
     | nil=>exact .inl (by simpa[bZ]using mX)
     | cons _ _=>simp at hk
    | _=>simp at hk
   ·exact h.elim
  ·exact h.elim
 ·exact hm _ h
end
def pP(N:Nat):List Nat->M (List (Nat×V))->M (List (Nat×V))
 | [],m=>m
 | s::l,m=>.get s λv=>match v with
  | .d none n t x =>
   if n≠0/\t.depth≠0/\s<N then
    gX true s s [] (((pP N l m).eE [(s,.d none 0 t x)]).bind λups=>.ret ((s,.d none 0 t x)::ups))
   else pP N l m
  | _=>pP N l m
def sA(lev N:Nat):List Nat->M (List (Nat×V))->M (List (Nat×V))
 | [],m=>m
 | s::l,m=>.get s λv=>cond (v.pR&&v.root.isNone&&decide (lev<v.lvl)&&decide (s<N))
   (gX true s s [] (((sA lev N l m).eE [(s,fo lev v)]).bind λups=>.ret ((s,fo lev v)::ups)))
   (sA lev N l m)
section
variable{P:Program}{C:Ctx}{w w' w0:World}{L L' L0:Nat->aj}{s N:Nat}{vs:List Nat}{a:Act}
theorem vT[ae]:{l:List Nat}->{T:List V}->{L:Nat->aj}->{ups:List (Nat×V)}->{log:List Nat}->Inv w0 L0 N vs T a w L->(pP N l m).ai T ups log ->
  ∃T1 L1 bF log2,Inv w0 L0 N vs T1 a w L1/\m.ai T1 bF log2/\ag T ups=ag T1 bF
 | [],T,L,ups,log,hI,h=>⟨T,L,ups,log,hI,h,rfl⟩
 | s::l,T,L,ups,log,hI,h=>by
  simp only[pP]at h;obtain⟨aC,rfl,h⟩:=h;dsimp only at h;split at h
  ·rename_i n t x hv;split at h
   ·rename_i hc;obtain⟨hn,hd,bY⟩:=hc;obtain⟨cF,log2,h⟩:=jw h;obtain⟨bF,l3,l4,rfl,h1,h2⟩:=M.an h;obtain⟨rfl,_⟩:=h2;have bc:s<T.length:=by rw[hI.len];exact bY
    have mJ:∀z,(T.set s (.d none 0 t x)).getD z .dead=(ek [(s,.d none 0 t x)] z).getD (T.getD z .dead):=λz=>by
     simp only[ek];rw[aF];by_cases h1:z=s
     ·subst h1;simp[bc]
     ·have e1:(s==z)=false:=by simpa using Ne.symm h1
      rw[e1];simp[h1]
    obtain⟨fw,h1⟩:=ow (T':=T.set s (.d none 0 t x)) (by simp) (λz hz=>by
     simp only[List.map_cons,List.map_nil,List.mem_cons,List.not_mem_nil,or_false]at hz;rw[hz];exact bc) mJ _ h1
    obtain⟨L1,br⟩:=Inv.freeze (T':=T.set s (.d none 0 t x)) hI (X:=λz=>z==s) (lev:=λ_=>0) (λz r hr=>by
      have hr:r=s:=by simpa using hr
      subst hr;by_cases hz:z=r
      ·subst hz;rw[hv];rfl
      ·simpa using cF z hz) (λz hz=>by
      have hz:z=s:=by simpa using hz
      subst hz;rw[hv];rfl) (λz _=>Nat.zero_le _) (by simp[hI.len]) (λz=>by
      rw[aF];by_cases hz:z=s
      ·subst hz;rw[if_pos ⟨rfl,bc⟩,hv];simp[fo]
      ·have:(z==s)=false:=by simpa using hz
       rw[if_neg (λh=>hz h.1),this];rfl)
    obtain⟨T1,L2,jj,iZ,k1,k2,k3⟩:=vT br h1;exact⟨T1,L2,jj,iZ,k1,k2,k3⟩
   ·exact vT hI h
  ·exact vT hI h
theorem CR[ae]{lev:Nat}:{l:List Nat}->{T:List V}->{L:Nat->aj}->{ups:List (Nat×V)}->{log:List Nat}->Inv w0 L0 N vs T a w L->(sA lev N l m).ai T ups log ->
  ∃T1 L1 bF log2,Inv w0 L0 N vs T1 a w L1/\m.ai T1 bF log2/\ag T ups=ag T1 bF
 | [],T,L,ups,log,hI,h=>⟨T,L,ups,log,hI,h,rfl⟩
 | s::l,T,L,ups,log,hI,h=>by
  simp only[sA]at h;obtain⟨aC,rfl,h⟩:=h;dsimp only at h;cases hc:((T.getD s .dead).pR&&(T.getD s .dead).root.isNone&&decide (lev<(T.getD s .dead).lvl)&&decide (s<N))with
  | false =>
   rw[hc,cond_false]at h;exact CR hI h
  | true =>
   rw[hc,cond_true]at h;simp only[Bool.and_eq_true,decide_eq_true_eq]at hc;obtain⟨⟨⟨hn,vJ⟩,hd⟩,bY⟩:=hc;obtain⟨cF,log2,h⟩:=jw h;obtain⟨bF,l3,l4,rfl,h1,h2⟩:=M.an h;obtain⟨rfl,_⟩:=h2;have bc:s<T.length:=by rw[hI.len];exact bY
   have mJ:∀z,(T.set s (fo lev (T.getD s .dead))).getD z .dead=(ek [(s,fo lev (T.getD s .dead))] z).getD (T.getD z .dead):=λz=>by
    simp only[ek];rw[aF];by_cases h1:z=s
    ·subst h1;simp[bc]
    ·have e1:(s==z)=false:=by simpa using Ne.symm h1
     rw[e1];simp[h1]
   obtain⟨fw,h1⟩:=ow (T':=T.set s (fo lev (T.getD s .dead))) (by simp) (λz hz=>by
    simp only[List.map_cons,List.map_nil,List.mem_cons,List.not_mem_nil,or_false]at hz;rw[hz];exact bc) mJ _ h1
   have lG:(T.getD s .dead).on s=false:=by
    unfold V.on;rw[Option.isNone_iff_eq_none.1 vJ];rfl
   obtain⟨L1,br⟩:=Inv.freeze (T':=T.set s (fo lev (T.getD s .dead))) hI (X:=λz=>z==s) (lev:=λ_=>lev) (λz r hr=>by
     have hr:r=s:=by simpa using hr
     subst hr;by_cases hz:z=r
     ·subst hz;exact lG
     ·simpa using cF z hz) (λz hz=>by
     have hz:z=s:=by simpa using hz
     subst hz;exact hn) (λz hz=>by
     have hz:z=s:=by simpa using hz
     subst hz;exact Nat.le_of_lt hd) (by simp[hI.len]) (λz=>by
     rw[aF];by_cases hz:z=s
     ·subst hz;rw[if_pos ⟨rfl,bc⟩];simp
     ·have:(z==s)=false:=by simpa using hz
      rw[if_neg (λh=>hz h.1),this];rfl)
   obtain⟨T1,L2,jj,iZ,k1,k2,k3⟩:=CR br h1;exact⟨T1,L2,jj,iZ,k1,k2,k3⟩
end
def rJ(s:Nat):V->M (Nat×D)
 | .box none k t' y=>.ret (s,⟨k,t',y⟩)
 | .ptr r [] _=>.get r λu=>match u with
  | .box none k t' y=>.ret (r,⟨k,t',y⟩)
  | _=>.fail
 | _=>.fail
def Kx(t:Ty)(n:Nat)(x:Operand):M (t.den×Nat):=
 match x with
 | .tmp s=>.get s λv=>(rJ s v).bind λz=>if h:z.2.t=t then (if z.2.n=n then .ret (h▸z.2.x,z.1)else .fail)else .fail
 | _=>.fail
def rG(C:Ctx):Nat->(ps:List (Ty×Mode))->List Operand->M (kS ps)
 | _,[],[]=>.ret ⟨(),[],[]⟩
 | i,(t,.ro)::ps,x::xs=>(o3 C t x).bind λy=>(rG C (i+1) ps xs).bind λr=>.ret ⟨(y.1,r.x),y.2++r.ls,r.mu⟩
 | i,(t,.ptr n)::ps,x::xs=>(Kx t n x).bind λy=>(rG C (i+1) ps xs).bind λr=>.ret ⟨(y.1,r.x),r.ls,(y.2,i)::r.mu⟩
 | _,_,_=>.fail
def wv:(ps:List (Ty×Mode))->(ct ps).den->Option V
 | [],_=>none
 | (t,.ptr n)::_,x=>some (.box none n t x.1)
 | (_,.mut _)::_,_=>none
 | (_,.bS _)::_,_=>none
 | (_,.ro)::ps,x=>wv ps x
def po:List (Ty×Mode)->Bool
 | []=>true
 | (t,.ptr n)::ps=>decide (t.depth<=n)&&po ps
 | _::ps=>po ps
def cj(r d:Nat):Nat->V->Bool:=λz v=>v.on r&&z != r&&z != d
def HU(C:Ctx)(bf:dx)(vs:List Nat)(N d:Nat)(f:FuncId)(args:List Operand):M (List (Nat×V)):=
 match bf f with
 | none=>.fail
 | some F=>(rG C 0 F.ps args).bind λA=>match A.mu with
  | [(r0,_)]=>cond (A.ls.contains r0 || !decide (r0<N) || !(A.ls.isEmpty||po F.ps)) .fail (.cC (.pair (cL F.rs) (ct F.ps)) (F.ao A.x) λr=>match lS vs A.ls F.rs r.1,wv F.ps r.2 with
   | some v,some u'=>(allM 0 N).bind λTs=>.bl (mn (cj r0 d) 0 Ts) (.ret (((r0,u')::b8 (cj r0 d) 0 Ts)++[(d,v)]))
   | _,_=>.fail)
  | _=>.fail
def Hx:List (Ty×Mode)->Bool
 | []=>false
 | (_,.ptr _)::_=>true
 | _::ps=>Hx ps
def HW(C:Ctx)(bf:dx)(vs:List Nat)(N d:Nat)(f:FuncId)(args:List Operand):M (List (Nat×V)):=
 match bf f with
 | none=>.fail
 | some F=>cond (Hx F.ps) (HU C bf vs N d f args) (HV C bf vs N d f args)
section
variable{P:Program}{C:Ctx}{w w' w0:World}{S S':Nat->Prop}{L L' L0:Nat->aj}{s N:Nat}{vs:List Nat}{T T':List V}{tm tm':Array Value}{a:Act}
theorem TA[ae](hI:Inv w0 L0 N vs T a w L){s:Nat}{z:D}(h:(rJ s (T.getD s .dead)).ai T (r,z) log):
  T.getD r .dead = .box none z.n z.t z.x/\a.tmps.getD s undef=a.tmps.getD r undef:=by
 have hs:=hI.aW s;generalize hv:T.getD s .dead=v at h hs;unfold rJ at h;split at h
 ·obtain⟨h,_⟩:=h;injection h with h1 h2;subst h1 h2;exact⟨hv,rfl⟩
 ·rename_i r' t';obtain⟨aC,rfl,h⟩:=h;have hr:=hI.aW r';generalize hu:T.getD r' .dead=u at h hr;dsimp only at h;split at h
  ·obtain⟨h,_⟩:=h;injection h with h1 h2;subst h1 h2;obtain⟨g,e1,e2⟩:=hs;obtain⟨_,g',cur,e,e3,e4,_⟩:=hr;obtain rfl:=hI.inj g g' _ _ e2 e4;exact⟨hu,by rw[e1,e3];rfl⟩
  ·exact h.elim
 ·exact h.elim
theorem al6[ae](hI:Inv w0 L0 N vs T a w L){t:Ty}{y:t.den}(h:(Kx t n x).ai T (y,r) log):
  T.getD r .dead = .box none n t y/\a.eval x=a.tmps.getD r undef:=by
 unfold Kx at h;split at h
 ·rename_i s;obtain⟨aC,rfl,h⟩:=h;have hb:=M.an (m:=rJ s (T.getD s .dead)) h;clear h;obtain⟨⟨r',z⟩,l1,l2,rfl,h1,h⟩:=hb;obtain⟨k1,k2⟩:=TA hI h1;obtain⟨n',t',y'⟩:=z;dsimp only at h k1;split at h
  ·rename_i ht;subst ht;split at h
   ·rename_i hk;subst hk;obtain⟨h,_⟩:=h;injection h with h1 h2;subst h1 h2;exact⟨k1,k2⟩
   ·exact h.elim
  ·exact h.elim
 ·exact h.elim
theorem HF[ae](hI:Inv w0 L0 N vs T a w L):{ps:List (Ty×Mode)}->{i:Nat}->{xs:List Operand}->{A:kS ps}->{log:List Nat}->(rG C i ps xs).ai T A log ->
  (∀r∈A.ls,(T.getD r .dead).deep=true)/\(∀r j,(r,j)∈A.mu->i<=j/\∃t n y,ps[j - i]?=some (t,.ptr n)/\T.getD r .dead = .box none n t y/\(xs.map a.eval)[j - i]?=some (a.tmps.getD r undef)) /\
  (∀j t m,ps[j]?=some (t,m)->m.back=true->∃r,(r,i+j)∈A.mu) /\
  ∀L1:Nat->aj,(∀k,L k = .aq->L1 k = .aq)->(∀k r q,r∈A.ls->L k = .own r q->L1 k = .aq)->(∀k r j q,(r,j)∈A.mu->L k = .own r q->L1 k = .own j q)->dK w L1 i ps A.x (xs.map a.eval)
 | [],i,[],A,log,h=>by
  obtain⟨rfl,_⟩:=h;exact⟨by simp,by simp,by simp,λ_ _ _ _=>rfl⟩
 | (t,.ro)::ps,i,x::xs,A,log,h=>by
  simp only[rG]at h;obtain⟨⟨y,ls⟩,l1,l2,rfl,h1,h⟩:=M.an h;obtain⟨A',l3,l4,rfl,h2,h⟩:=M.an h;obtain⟨rfl,_⟩:=h;obtain⟨cells,k1,k2,k3⟩:=uI hI h1;obtain⟨j1,j2,j4,j3⟩:=HF hI h2;refine⟨λr hr=>?_,λr j hm=>?_,λj t' n hj bh=>?_,λL1 H1 H2 H3=>?_⟩
  ·rcases List.mem_append.1 hr with hr|hr
   ·exact k2 r hr
   ·exact j1 r hr
  ·obtain⟨hi,t',n',y',e1,e2,e3⟩:=j2 r j hm;have:j - i=(j - (i+1))+1:=by omega
   exact⟨by omega,t',n',y',by rw[this];simpa using e1,e2,by rw[this];simpa using e3⟩
  ·cases j with
   | zero =>
    simp only[List.getElem?_cons_zero,Option.some.injEq,Prod.mk.injEq]at hj;rw[<-hj.2]at bh;cases bh
   | succ j =>
    obtain⟨r,hr⟩:=j4 j t' n (by simpa using hj) bh;exact⟨r,by rw[show i+(j+1)=i+1+j by omega];exact hr⟩
  ·exact⟨a.eval x,_,cells,rfl,k1,Own.dB (k3 _ H1 (λk r q hr hk=>H2 k r q (List.mem_append_left _ hr) hk)),j3 L1 H1 (λk r q hr hk=>H2 k r q (List.mem_append_right _ hr) hk) H3⟩
 | (t,.ptr n)::ps,i,x::xs,A,log,h=>by
  simp only[rG]at h;obtain⟨⟨y,r0⟩,l1,l2,rfl,h1,h⟩:=M.an h;obtain⟨A',l3,l4,rfl,h2,h⟩:=M.an h;obtain⟨rfl,_⟩:=h;obtain⟨k1,k4⟩:=al6 hI h1;obtain⟨j1,j2,j4,j3⟩:=HF hI h2;refine⟨j1,λr j hm=>?_,λj t' n' hj bh=>?_,λL1 H1 H2 H3=>?_⟩
  ·rcases List.mem_cons.1 hm with hm|hm
   ·injection hm with e1 e2;subst e1 e2;exact⟨Nat.le_refl _,t,n,y,by simp,k1,by simp[k4]⟩
   ·obtain⟨hi,t',n',y',e1,e2,e3⟩:=j2 r j hm;have:j - i=(j - (i+1))+1:=by omega
    exact⟨by omega,t',n',y',by rw[this];simpa using e1,e2,by rw[this];simpa using e3⟩
  ·cases j with
   | zero=>exact⟨r0,by simp⟩
   | succ j =>
    obtain⟨r,hr⟩:=j4 j t' n' (by simpa using hj) bh;exact⟨r,by rw[show i+(j+1)=i+1+j by omega];exact List.mem_cons_of_mem _ hr⟩
  ·have hs:=hI.aW r0;rw[k1]at hs;obtain⟨_,g,cur,e,hf,hL,hg,hz,ho⟩:=hs;refine⟨a.eval x,_,rfl,⟨g,cur,e,by rw[k4];exact hf,H3 g r0 i _ (by simp) hL,hg,hz,?_⟩,j3 L1 H1 H2 (λk r j q hm hk=>H3 k r j q (List.mem_cons_of_mem _ hm) hk)⟩;refine Own.move (λk hk=>⟨?_,rfl⟩) (λk d rest _ hk=>⟨H3 k r0 i _ (by simp) hk,rfl⟩) ho;rcases hk with hk|⟨_,_,hk,_⟩
   ·exact H1 k hk
   ·cases hk
 | [],_,_::_,_,_,h=>h.elim
 | (_,.ro)::_,_,[],_,_,h=>h.elim
 | (_,.mut _)::_,_,[],_,_,h=>h.elim
 | (_,.mut _)::_,_,_::_,_,_,h=>h.elim
 | (_,.ptr _)::_,_,[],_,_,h=>h.elim
 | (_,.bS _)::_,_,[],_,_,h=>h.elim
 | (_,.bS _)::_,_,_::_,_,_,h=>h.elim
theorem Ya:{ps:List (Ty×Mode)}->{i:Nat}->{x:(ct ps).den}->{cs:List Value}->{v:V}->fF w L0 i ps x cs->wv ps x=some v ->
  ∃j t n y c,ps[j]?=some (t,.ptr n)/\v = .box none n t y/\cs[j]?=some c/\tp w L0 (λk=>L0 k = .aq) (i+j) n t y c
 | [],_,_,_,_,_,hv=>by cases hv
 | (t,.mut n)::ps,i,x,cs,v,h,hv=>by cases hv
 | (t,.bS n)::ps,i,x,cs,v,h,hv=>by cases hv
 | (t,.ptr n)::ps,i,x,cs,v,h,hv=>by
  simp only[fF]at h;obtain⟨c,bg,rfl,h1,_⟩:=h;simp only[wv,Option.some.injEq]at hv;exact⟨0,t,n,x.1,c,rfl,hv.symm,rfl,h1⟩
 | (t,.ro)::ps,i,x,cs,v,h,hv=>by
  simp only[fF]at h;obtain⟨c,bg,rfl,h⟩:=h;simp only[wv]at hv;obtain⟨j,t',n,y,c',h1,h2,h3,h4⟩:=Ya h hv;exact⟨j+1,t',n,y,c',by simpa using h1,h2,by simpa using h3,by rw[show i+(j+1)=i+1+j by omega];exact h4⟩
theorem u3:{ps:List (Ty×Mode)}->po ps=true->∀(j:Nat) (t:Ty) (n:Nat),ps[j]?=some (t,.ptr n)->t.depth<=n
 | [],_,j,t,n,hj=>by simp at hj
 | (t0,.ptr n0)::ps,h,j,t,n,hj=>by
  simp only[po,Bool.and_eq_true,decide_eq_true_eq]at h;cases j with
  | zero =>
   simp only[List.getElem?_cons_zero,Option.some.injEq,Prod.mk.injEq,Mode.ptr.injEq]at hj;obtain⟨rfl,rfl⟩:=hj;exact h.1
  | succ j=>exact u3 h.2 j t n (by simpa using hj)
 | (t0,.mut n0)::ps,h,j,t,n,hj=>by
  cases j with
  | zero=>simp at hj
  | succ j=>exact u3 (ps:=ps) h j t n (by simpa using hj)
 | (t0,.ro)::ps,h,j,t,n,hj=>by
  cases j with
  | zero=>simp at hj
  | succ j=>exact u3 (ps:=ps) h j t n (by simpa using hj)
 | (t0,.bS n0)::ps,h,j,t,n,hj=>by
  cases j with
  | zero=>simp at hj
  | succ j=>exact u3 (ps:=ps) h j t n (by simpa using hj)
theorem ag5[ae]{ls:List Nat}{ps:List (Ty×Mode)}{rs:List (Ty×Nat)}{m d:Nat}(hI:Inv w0 L0 N vs T a w L)(I3:i≠m)(a8:Left w w' (λk=>cE (some (r,i)) ls (L k)) L' ps rs):
  (∀k q',L' k = .own i q'->dy (some (r,i)) m d L L' k = .own r q') /\
  ∀{n:Nat} {t:Ty} {x:t.den} {q:List Nat} {o:Nat} {cs:List Value},(t.depth<=n\/ls=[]) ->
   Own w' L' (λk=>L' k = .aq) i n t x q o cs->Own w' (dy (some (r,i)) m d L L') (SL (dy (some (r,i)) m d L L') none) r n t x q o cs:=by
 have bt:∀k q',L' k = .own i q'->dy (some (r,i)) m d L L' k = .own r q':=by
  intro k q' hk;have hp:gg (some (r,i)) (L k):=by
   apply Classical.byContradiction;intro hp;have av:k<w.heap.size:=hI.lt (λe=>hp (.inl e));have h9:=(a8.aS k av (jW hp)).1;rw[hk]at h9;rcases jW (ls:=ls) hp with h|h<;>rw[h]at h9<;>cases h9
  rw[jv hp,hk];simp[mv,I3]
 refine⟨bt,λ{n t x q o cs} hl h=>?_⟩;rcases hl with hl|hl
 ·exact Own.move (S:=λ_=>False) (λk hk=>hk.elim) (λk dd rest _ hk=>⟨bt k _ hk,rfl⟩) (Own.full hl h)
 ·subst hl;refine Own.move (λk hk=>⟨.inl ?_,rfl⟩) (λk dd rest _ hk=>⟨bt k _ hk,rfl⟩) h;by_cases hp:gg (some (r,i)) (L k)
  ·rw[jv hp,hk];rfl
  ·have av:k<w.heap.size:=hI.lt (λe=>hp (.inl e));have h9:=(a8.aS k av (jW hp)).1;rw[hk]at h9;rw[nN hp];cases gG:L k with
   | aq=>rfl
   | own s q' =>
    rw[gG]at h9;unfold cE at h9;dsimp only at h9;split at h9
    ·cases h9
    ·simp at h9
   | other=>rw[gG]at h9;cases h9
   | free=>exact absurd (.inl gG) hp
theorem ana[ae](hI:Inv w0 L0 N vs T a w L)(dQ:fQ P bf){d:Nat}  
  (ho:o.op = .call { callee:=.value (.func f),args,argTypes:=cw }) (ay:o.dst=some d) (hd:d<N) (hid:(T.getD d .dead).idle=true)
  (h:(HU C bf vs N d f args.toList).ai T ups log):Step P o w0 L0 N vs (ag T ups) a w:=by
 unfold HU at h;split at h
 ·exact h.elim
 ·rename_i F hF;obtain⟨⟨fn,ie,fV,mz⟩,aI⟩:=dQ f F hF;have hb:=M.an h;clear h;obtain⟨A,l1,l2,rfl,h1,h⟩:=hb;obtain⟨dW,fU,pC,gE⟩:=HF hI h1;have aO:=Go.Conc.run_call_body (P:=P) (a:=a) (w:=w) ho ie fV mz;have lv:∀r∈A.ls,r≠d:=λr hr=>cX hid (V.eR (dW r hr));rcases eL:A.mu with _|⟨⟨r0,i⟩,_|⟨p2,rest⟩⟩
  ·rw[eL]at h;exact h.elim
  ·rw[eL]at h;dsimp only at h;cases hc:(A.ls.contains r0 || !decide (r0<N) || !(A.ls.isEmpty||po F.ps))with
   | true=>rw[hc]at h;exact h.elim
   | false =>
    rw[hc]at h;obtain⟨r,eM,h⟩:=h;dsimp only at h;simp only[Bool.or_eq_false_iff,Bool.not_eq_false',decide_eq_true_eq]at hc;obtain⟨⟨dV,dh⟩,e9⟩:=hc;have iT:r0∉A.ls:=λhm=>by rw[List.contains_iff_mem.2 hm]at dV;cases dV
    split at h
    ·rename_i v u' hv pL;obtain⟨Ts,l3,l4,rfl,dH,iQ,mY⟩:=M.an h;obtain⟨rfl,_⟩:=mY;have bI:Ts=T:=by rw[kW dH (by rw[Nat.zero_add,hI.len])];rfl
     subst bI;obtain⟨_,t,n,y,h2,h5,h6⟩:=fU r0 i (by rw[eL];simp);simp only[Nat.sub_zero]at h2 h6;have r8:i<F.ps.length:=(List.getElem?_eq_some_iff.1 h2).1;have vI:r0≠d:=cX hid (by rw[h5];rfl);have iS:∀(j:Nat) (t:Ty) (m:Mode),F.ps[j]?=some (t,m)->m.back=true->j=i:=by
      intro j t m hj hm;obtain⟨r',aY⟩:=pC j t m hj hm;rw[eL]at aY;simp only[List.mem_singleton,Prod.mk.injEq]at aY;omega
     have mG:jq w (λk=>cE (some (r0,i)) A.ls (L k)) F.ps:=by
      refine⟨λk hk=>by rw[hI.free k hk];rfl,λk k' s q h h'=>?_,λk s q h=>?_,ae.aS hI.fr.gD λk hk h0=>⟨?_,(hI.fr.aS k hk h0).2⟩⟩
      ·obtain⟨r1,e1,e2⟩:=kP h;obtain⟨r2,e3,e4⟩:=kP h';rw[e1]at e3;injection e3 with e3;injection e3 with e3 _;subst e3;exact hI.inj k k' _ _ e2 e4
      ·obtain⟨r1,e1,e2⟩:=kP h;injection e1 with e1;injection e1 with e1 e3;subst e1 e3;exact⟨t,.ptr n,h2,rfl⟩
      ·rw[(hI.fr.aS k hk h0).1];rcases h0 with h0|h0<;>rw[h0]<;>simp[cE]
     have dz:=gE (λk=>cE (some (r0,i)) A.ls (L k)) (λk hk=>by rw[hk];rfl) (λk r q hr hk=>by
      rw[hk];unfold cE;dsimp only;rw[if_neg (λe:r=r0=>iT (by rw[<-e];exact hr)),if_pos (by simpa using hr)]) (λk r j q hm hk=>by
      rw[hk];rw[eL]at hm;simp only[List.mem_singleton,Prod.mk.injEq]at hm;obtain⟨rfl,rfl⟩:=hm;simp[cE])
     intro K Q hK;unfold Oper.wp;rw[aO,Oper.upon_enter];refine Calls.mono (aI A.x r eM w _ (args.map a.eval) mG (by simpa using dz)) ?_
     rintro e w' ⟨cs,L',rfl,a8,b9,jF⟩
     dsimp only;rw[ay];have jF:fF w' L' 0 F.ps r.2 (args.toList.map a.eval):=by simpa using jF
     refine hK _ _ (dy (some (r0,i)) F.ps.length d L L') ?_;have iM:ag Ts (((r0,u')::b8 (cj r0 d) 0 Ts)++[(d,v)])=(ag Ts ((r0,u')::b8 (cj r0 d) 0 Ts)).set d v:=by
      rw[kK];rfl
     have mH:(ag Ts ((r0,u')::b8 (cj r0 d) 0 Ts)).length=N:=by rw[cr,hI.len]
     have bT:(ag Ts (((r0,u')::b8 (cj r0 d) 0 Ts)++[(d,v)])).getD d .dead=v:=by
      rw[iM,aF,if_pos ⟨rfl,by rw[mH];exact hd⟩]
     have bo:∀s,s≠d->(ag Ts (((r0,u')::b8 (cj r0 d) 0 Ts)++[(d,v)])).getD s .dead=(ag Ts ((r0,u')::b8 (cj r0 d) 0 Ts)).getD s .dead:=by
      intro s hs;rw[iM,aF,if_neg (λe=>hs e.1)]
     have ef:∀s v,(s,v)∈((r0,u')::b8 (cj r0 d) 0 Ts)->(s=r0/\v=u')\/(v = .dead/\s≠r0/\(Ts.getD s .dead).on r0=true):=by
      intro s v hm;rcases List.mem_cons.1 hm with hm|hm
      ·injection hm with h1 h2;exact .inl ⟨h1,h2⟩
      ·obtain⟨h1,_,_,h2⟩:=(pf s v).1 hm;simp only[Nat.sub_zero,cj,Bool.and_eq_true,bne_iff_ne]at h2;exact .inr ⟨h1,h2.1.2,h2.1.1⟩
     have bB:(ag Ts ((r0,u')::b8 (cj r0 d) 0 Ts)).getD r0 .dead=u':=by
      refine gY (by rw[hI.len];exact dh) (by simp) (λv hm=>?_);rcases ef r0 v hm with⟨_,h⟩|⟨_,h,_⟩
      ·exact h
      ·exact absurd rfl h
     have nX:∀s,s≠d->s≠r0->(Ts.getD s .dead).on r0=true->(ag Ts ((r0,u')::b8 (cj r0 d) 0 Ts)).getD s .dead = .dead/\(Ts.getD s .dead).aJ=false:=by
      intro s bL hs af;have gK:s<N:=by
       rcases Nat.lt_or_ge s N with h|h
       ·exact h
       ·rw[ed (by rw[hI.len];exact h)]at af;simp[V.on,V.root]at af
      have hg:cj r0 d s (Ts.getD s .dead)=true:=by
       unfold cj;rw[af];simp[hs,bL]
      refine⟨gY (by rw[hI.len];exact gK) ?_ (λv hm=>?_),?_⟩
      ·rw[List.mem_map];exact⟨(s,.dead),List.mem_cons_of_mem _ ((pf s .dead).2 ⟨rfl,Nat.zero_le _,by rw[Nat.zero_add,hI.len];exact gK,by rw[Nat.sub_zero];exact hg⟩),rfl⟩
      ·rcases ef s v hm with⟨h,_⟩|⟨h,_⟩
       ·exact absurd h hs
       ·exact h
      ·exact BY iQ s (by rw[hI.len];exact gK) (by rw[Nat.zero_add];exact hg)
     have nW:∀s,s≠r0->(Ts.getD s .dead).on r0=false->(ag Ts ((r0,u')::b8 (cj r0 d) 0 Ts)).getD s .dead=Ts.getD s .dead:=by
      intro s hs af;refine eK _ _ _ (λhm=>?_);obtain⟨u,hu,he⟩:=List.mem_map.1 hm;rcases ef s u.2 (by rw[<-he];exact hu)with⟨h,_⟩|⟨_,_,h⟩
      ·exact hs h
      ·rw[af]at h;cases h
     have vw:∀r∈A.ls,((ag Ts (((r0,u')::b8 (cj r0 d) 0 Ts)++[(d,v)])).getD r .dead).deep=true:=by
      intro r hr;have fZ:r≠r0:=λe=>iT (e▸hr);have ho:=V.eR (dW r hr);rw[bo r (lv r hr)];cases af:(Ts.getD r .dead).on r0 with
      | false=>rw[nW r fZ af];exact dW r hr
      | true =>
       have h:=(nX r (lv r hr) fZ af).2;rw[h]at ho;cases ho
     obtain⟨j,t',n',y',c',m1,m2,m3,g,cur,e,m4,m5,m6,m7,m8⟩:=Ya jF pL;have cG:=iS j t' _ m1 (by simp);subst cG;rw[h2]at m1;injection m1 with m1;injection m1 with m1 kD;injection kD with kD;subst m1 kD;rw[h6]at m3;injection m3 with m3;subst m3;rw[Nat.zero_add]at m5 m8;have Cv:j≠F.ps.length:=by omega
     obtain⟨b1,b2⟩:=ag5 (d:=d) hI Cv a8;obtain⟨k1,k2,k3⟩:=wM (T':=ag Ts (((r0,u')::b8 (cj r0 d) 0 Ts)++[(d,v)])) (d:=d) hI a8 rfl vw b9 hv;have aio:t.depth<=n\/A.ls=[]:=by
      simp only[Bool.or_eq_true,List.isEmpty_iff]at e9;rcases e9 with h|h
      ·exact .inr h
      ·exact .inl (u3 h j t n h2)
     refine Inv.HY hI hd hid rfl (λr i h=>by injection h with h;injection h with _ h;subst h;exact r8) a8 (by rw[cr,hI.len]) (λj' t n hj hm=>by rw[iS j' t n hj hm];rfl) ?_ ?_ ?_ bT k1 k2 (λr i h=>by injection h with h;injection h with h _;subst h;exact iT) k3
     ·intro r i h;injection h with h;injection h with h h';subst h h';rw[bo r0 vI,bB,m2];exact⟨by rw[h5];rfl,.inr rfl,rfl,by simp,g,cur,e,m4,b1 _ _ m5,m6,m7,b2 aio m8⟩
     ·intro s r i h bL bp af;injection h with h;injection h with h h';subst h h';rw[bo s bL];exact .inl (nX s bL bp af)
     ·intro s bL hs;obtain⟨e1,e2⟩:=hs r0 j rfl;rw[bo s bL];exact nW s e1 e2
    ·exact h.elim
  ·rw[eL]at h;exact h.elim
theorem anc[ae](hI:Inv w0 L0 N vs T a w L)(dQ:fQ P bf)       
  (ho:o.op = .call { callee:=.value (.func f),args,argTypes:=cw }) (ay:o.dst=some d) (hd:d<N) (hid:(T.getD d .dead).idle=true)
  (h:(HW C bf vs N d f args.toList).ai T ups log):Step P o w0 L0 N vs (ag T ups) a w:=by
 unfold HW at h;split at h
 ·exact h.elim
 ·generalize Hx _=b at h;cases b with
  | true=>exact ana hI dQ ho ay hd hid h
  | false=>exact anb hI dQ ho ay hd hid h
end
def Io(t:Ty)(n:Nat)(x:Operand):M (t.den×Nat):=
 match x with
 | .tmp s=>.get s λv=>match v with
  | .view r [] _=>.get r λu=>match u with
   | .d none k t' y=>if h:t'=t then (if (t.depth<=k/\t.depth<=n\/k=n/\n≠0)/\t.depth≠0 then .ret (h▸y,r)else .fail)else .fail
   | _=>.fail
  | .d none k t' y=>if h:t'=t then (if (t.depth<=k/\t.depth<=n\/k=n/\n≠0)/\t.depth≠0 then .ret (h▸y,s)else .fail)else .fail
  | _=>.fail
 | _=>.fail
def rF(C:Ctx):Nat->(ps:List (Ty×Mode))->List Operand->M (kS ps)
 | _,[],[]=>.ret ⟨(),[],[]⟩
 | i,(t,.ro)::ps,x::xs=>(o3 C t x).bind λy=>(rF C (i+1) ps xs).bind λr=>.ret ⟨(y.1,r.x),y.2++r.ls,r.mu⟩
 | i,(t,.bS n)::ps,x::xs=>(Io t n x).bind λy=>(rF C (i+1) ps xs).bind λr=>.ret ⟨(y.1,r.x),r.ls,(y.2,i)::r.mu⟩
 | _,_,_=>.fail
def HT(C:Ctx)(bf:dx)(vs:List Nat)(N d:Nat)(f:FuncId)(args:List Operand):M (List (Nat×V)):=
 match bf f with
 | none=>.fail
 | some F=>(rF C 0 F.ps args).bind λA=>match A.mu with
  | [(r0,_)]=>cond (A.ls.contains r0 || !decide (r0<N)) .fail (.cC (.pair (cL F.rs) (ct F.ps)) (F.ao A.x) λr=>match lS vs A.ls F.rs r.1 with
   | some v=>cond (vs.contains r0) ((allM 0 N).bind λTs=>.bl (mn (cj r0 d) 0 Ts) (.ret (((r0,.dead)::b8 (cj r0 d) 0 Ts)++[(d,v)]))) (.ret [(r0,.dead),(d,v)])
   | none=>.fail)
  | _=>.fail
def Hw:List (Ty×Mode)->Bool
 | []=>false
 | (_,.bS _)::_=>true
 | _::ps=>Hw ps
def HX(C:Ctx)(bf:dx)(vs:List Nat)(N d:Nat)(f:FuncId)(args:List Operand):M (List (Nat×V)):=
 match bf f with
 | none=>.fail
 | some F=>cond (Hw F.ps) (HT C bf vs N d f args) (HW C bf vs N d f args)
section
variable{P:Program}{C:Ctx}{w w' w0:World}{S S':Nat->Prop}{L L' L0:Nat->aj}{s N:Nat}{vs:List Nat}{T T':List V}{tm tm':Array Value}{a:Act}
theorem ahm[ae](hI:Inv w0 L0 N vs T a w L){t:Ty}{y:t.den}(h:(Io t n x).ai T (y,r) log):
  ∃k,T.getD r .dead = .d none k t y/\(t.depth<=k/\t.depth<=n\/k=n/\n≠0)/\t.depth≠0/\a.eval x=a.tmps.getD r undef:=by
 unfold Io at h;split at h
 ·rename_i s;obtain⟨aC,rfl,h⟩:=h;have hs:=hI.aW s;generalize hv:T.getD s .dead=v at h hs;dsimp only at h;split at h
  ·rename_i r' t2;obtain⟨log2,rfl,h⟩:=h;dsimp only at h;split at h
   ·rename_i n' t' y' hu;split at h
    ·rename_i ht;subst ht;split at h
     ·rename_i hc;obtain⟨hk,hd⟩:=hc;obtain⟨h,_⟩:=h;injection h with h1 h2;subst h1 h2;refine⟨n',hu,hk,hd,?_⟩;obtain⟨_,h1⟩:=hs;rcases h1 with⟨_,h2,_⟩|⟨_,_,_,h2,_⟩
      ·exact h2
      ·rw[hu]at h2;simp[V.dr]at h2
     ·exact h.elim
    ·exact h.elim
   ·exact h.elim
  ·rename_i n' t' y';split at h
   ·rename_i ht;subst ht;split at h
    ·rename_i hc;obtain⟨hk,hd⟩:=hc;obtain⟨h,_⟩:=h;injection h with h1 h2;subst h1 h2;exact⟨n',hv,hk,hd,rfl⟩
    ·exact h.elim
   ·exact h.elim
  ·exact h.elim
 ·exact h.elim
theorem HC[ae](hI:Inv w0 L0 N vs T a w L):{ps:List (Ty×Mode)}->{i:Nat}->{xs:List Operand}->{A:kS ps}->{log:List Nat}->(rF C i ps xs).ai T A log ->
  (∀r∈A.ls,(T.getD r .dead).deep=true)/\(∀r j,(r,j)∈A.mu->i<=j/\∃t n k y,ps[j - i]?=some (t,.bS n)/\T.getD r .dead = .d none k t y/\(t.depth<=k/\t.depth<=n\/k=n/\n≠0)/\t.depth≠0/\(xs.map a.eval)[j - i]?=some (a.tmps.getD r undef)) /\
  (∀(j:Nat) (t:Ty) (m:Mode),ps[j]?=some (t,m)->m.back=false) /\
  ∀L1:Nat->aj,(∀k,L k = .aq->L1 k = .aq)->(∀k r q,r∈A.ls->L k = .own r q->L1 k = .aq)->(∀k r j q,(r,j)∈A.mu->L k = .own r q->L1 k = .own j q)->dK w L1 i ps A.x (xs.map a.eval)
 | [],i,[],A,log,h=>by
  obtain⟨rfl,_⟩:=h;exact⟨by simp,by simp,by simp,λ_ _ _ _=>rfl⟩
 | (t,.ro)::ps,i,x::xs,A,log,h=>by
  simp only[rF]at h;obtain⟨⟨y,ls⟩,l1,l2,rfl,h1,h⟩:=M.an h;obtain⟨A',l3,l4,rfl,h2,h⟩:=M.an h;obtain⟨rfl,_⟩:=h;obtain⟨cells,k1,k2,k3⟩:=uI hI h1;obtain⟨j1,j2,j4,j3⟩:=HC hI h2;refine⟨λr hr=>?_,λr j hm=>?_,λj t' m hj=>?_,λL1 H1 H2 H3=>?_⟩
  ·rcases List.mem_append.1 hr with hr|hr
   ·exact k2 r hr
   ·exact j1 r hr
  ·obtain⟨hi,t',n',k',y',e1,e2,e3,e5,e6⟩:=j2 r j hm;have:j - i=(j - (i+1))+1:=by omega
   exact⟨by omega,t',n',k',y',by rw[this];simpa using e1,e2,e3,e5,by rw[this];simpa using e6⟩
  ·cases j with
   | zero =>
    simp only[List.getElem?_cons_zero,Option.some.injEq,Prod.mk.injEq]at hj;rw[<-hj.2];rfl
   | succ j=>exact j4 j t' m (by simpa using hj)
  ·exact⟨a.eval x,_,cells,rfl,k1,Own.dB (k3 _ H1 (λk r q hr hk=>H2 k r q (List.mem_append_left _ hr) hk)),j3 L1 H1 (λk r q hr hk=>H2 k r q (List.mem_append_right _ hr) hk) H3⟩
 | (t,.bS n)::ps,i,x::xs,A,log,h=>by
  simp only[rF]at h;obtain⟨⟨y,r0⟩,l1,l2,rfl,h1,h⟩:=M.an h;obtain⟨A',l3,l4,rfl,h2,h⟩:=M.an h;obtain⟨rfl,_⟩:=h;obtain⟨k0,k1,k2,k4,k5⟩:=ahm hI h1;obtain⟨j1,j2,j4,j3⟩:=HC hI h2;refine⟨j1,λr j hm=>?_,λj t' m hj=>?_,λL1 H1 H2 H3=>?_⟩
  ·rcases List.mem_cons.1 hm with hm|hm
   ·injection hm with e1 e2;subst e1 e2;exact⟨Nat.le_refl _,t,n,k0,y,by simp,k1,k2,k4,by simp[k5]⟩
   ·obtain⟨hi,t',n',k',y',e1,e2,e3,e5,e6⟩:=j2 r j hm;have:j - i=(j - (i+1))+1:=by omega
    exact⟨by omega,t',n',k',y',by rw[this];simpa using e1,e2,e3,e5,by rw[this];simpa using e6⟩
  ·cases j with
   | zero =>
    simp only[List.getElem?_cons_zero,Option.some.injEq,Prod.mk.injEq]at hj;rw[<-hj.2];rfl
   | succ j=>exact j4 j t' m (by simpa using hj)
  ·have hs:=hI.aW r0;rw[k1]at hs;obtain⟨_,cells,hf,ho⟩:=hs;refine⟨a.eval x,_,cells,rfl,by rw[k5];exact hf,?_,j3 L1 H1 H2 (λk r j q hm hk=>H3 k r j q (List.mem_cons_of_mem _ hm) hk)⟩;refine Own.move (λk hk=>⟨?_,rfl⟩) (λk d rest _ hk=>⟨H3 k r0 i _ (by simp) hk,rfl⟩) (k2.elim (λk2=>Own.cap k2.1 k2.2 ho) (λk2=>k2.1▸ho));rcases hk with hk|⟨_,_,hk,_⟩
   ·exact H1 k hk
   ·cases hk
 | [],_,_::_,_,_,h=>h.elim
 | (_,.ro)::_,_,[],_,_,h=>h.elim
 | (_,.mut _)::_,_,[],_,_,h=>h.elim
 | (_,.mut _)::_,_,_::_,_,_,h=>h.elim
 | (_,.ptr _)::_,_,[],_,_,h=>h.elim
 | (_,.ptr _)::_,_,_::_,_,_,h=>h.elim
 | (_,.bS _)::_,_,[],_,_,h=>h.elim
theorem TZ{g:Nat->V->Bool}:{i:Nat}->{l:List V}->(∀z,∀u∈l,g z u=false)->b8 g i l=[]
 | _,[],_=>rfl
 | i,v::l,h=>by
  unfold b8;rw[h i v (List.mem_cons_self ..),cond_false];exact TZ λz u hu=>h z u (List.mem_cons_of_mem _ hu)
theorem TY{g:Nat->V->Bool}:{i:Nat}->{l:List V}->(∀z,∀u∈l,g z u=false)->mn g i l=true
 | _,[],_=>rfl
 | i,v::l,h=>by
  unfold mn;rw[h i v (List.mem_cons_self ..)];exact TY λz u hu=>h z u (List.mem_cons_of_mem _ hu)
theorem am9[ae](hI:Inv w0 L0 N vs T a w L)(dQ:fQ P bf){d:Nat}  
  (ho:o.op = .call { callee:=.value (.func f),args,argTypes:=cw }) (ay:o.dst=some d) (hd:d<N) (hid:(T.getD d .dead).idle=true)
  (h:(HT C bf vs N d f args.toList).ai T ups log):Step P o w0 L0 N vs (ag T ups) a w:=by
 unfold HT at h;split at h
 ·exact h.elim
 ·rename_i F hF;obtain⟨⟨fn,ie,fV,mz⟩,aI⟩:=dQ f F hF;have hb:=M.an h;clear h;obtain⟨A,l1,l2,rfl,h1,h⟩:=hb;obtain⟨dW,fU,rY,gE⟩:=HC hI h1;have aO:=Go.Conc.run_call_body (P:=P) (a:=a) (w:=w) ho ie fV mz;have lv:∀r∈A.ls,r≠d:=λr hr=>cX hid (V.eR (dW r hr));rcases eL:A.mu with _|⟨⟨r0,i⟩,_|⟨p2,rest⟩⟩
  ·rw[eL]at h;exact h.elim
  ·rw[eL]at h;dsimp only at h;cases hc:(A.ls.contains r0 || !decide (r0<N))with
   | true=>rw[hc]at h;exact h.elim
   | false =>
    rw[hc]at h;obtain⟨r,eM,h⟩:=h;dsimp only at h;simp only[Bool.or_eq_false_iff,Bool.not_eq_false',decide_eq_true_eq]at hc;obtain⟨dV,dh⟩:=hc;have iT:r0∉A.ls:=λhm=>by rw[List.contains_iff_mem.2 hm]at dV;cases dV
    split at h
    ·rename_i v hv;have main:∀Ts,Ts=T->mn (cj r0 d) 0 Ts=true->Step P o w0 L0 N vs (ag Ts (((r0,V.dead)::b8 (cj r0 d) 0 Ts)++[(d,v)])) a w:=by
      intro Ts bI iQ;subst bI;obtain⟨_,t,n,k0,y,h2,h5,aqZ,hk3,h6⟩:=fU r0 i (by rw[eL];simp);simp only[Nat.sub_zero]at h2 h6;have r8:i<F.ps.length:=(List.getElem?_eq_some_iff.1 h2).1;have VS:(Ts.getD r0 .dead).aJ=true:=by
       rw[h5];simp only[V.aJ,Bool.and_eq_true,bne_iff_ne];omega
      have vI:r0≠d:=cX hid VS;have mG:jq w (λk=>cE (some (r0,i)) A.ls (L k)) F.ps:=by
       refine⟨λk hk=>by rw[hI.free k hk];rfl,λk k' s q h h'=>?_,λk s q h=>?_,ae.aS hI.fr.gD λk hk h0=>⟨?_,(hI.fr.aS k hk h0).2⟩⟩
       ·obtain⟨r1,e1,e2⟩:=kP h;obtain⟨r2,e3,e4⟩:=kP h';rw[e1]at e3;injection e3 with e3;injection e3 with e3 _;subst e3;exact hI.inj k k' _ _ e2 e4
       ·obtain⟨r1,e1,e2⟩:=kP h;injection e1 with e1;injection e1 with e1 e3;subst e1 e3;exact⟨t,.bS n,h2,by simp only[Mode.owned,Bool.and_eq_true,bne_iff_ne];omega⟩
       ·rw[(hI.fr.aS k hk h0).1];rcases h0 with h0|h0<;>rw[h0]<;>simp[cE]
      have dz:=gE (λk=>cE (some (r0,i)) A.ls (L k)) (λk hk=>by rw[hk];rfl) (λk r q hr hk=>by
       rw[hk];unfold cE;dsimp only;rw[if_neg (λe:r=r0=>iT (by rw[<-e];exact hr)),if_pos (by simpa using hr)]) (λk r j q hm hk=>by
       rw[hk];rw[eL]at hm;simp only[List.mem_singleton,Prod.mk.injEq]at hm;obtain⟨rfl,rfl⟩:=hm;simp[cE])
      intro K Q hK;unfold Oper.wp;rw[aO,Oper.upon_enter];refine Calls.mono (aI A.x r eM w _ (args.map a.eval) mG (by simpa using dz)) ?_
      rintro e w' ⟨cs,L',rfl,a8,b9,jF⟩
      dsimp only;rw[ay];refine hK _ _ (dy (some (r0,i)) F.ps.length d L L') ?_;have iM:ag Ts (((r0,V.dead)::b8 (cj r0 d) 0 Ts)++[(d,v)])=(ag Ts ((r0,V.dead)::b8 (cj r0 d) 0 Ts)).set d v:=by
       rw[kK];rfl
      have mH:(ag Ts ((r0,V.dead)::b8 (cj r0 d) 0 Ts)).length=N:=by rw[cr,hI.len]
      have bT:(ag Ts (((r0,V.dead)::b8 (cj r0 d) 0 Ts)++[(d,v)])).getD d .dead=v:=by
       rw[iM,aF,if_pos ⟨rfl,by rw[mH];exact hd⟩]
      have bo:∀s,s≠d->(ag Ts (((r0,V.dead)::b8 (cj r0 d) 0 Ts)++[(d,v)])).getD s .dead=(ag Ts ((r0,V.dead)::b8 (cj r0 d) 0 Ts)).getD s .dead:=by
       intro s hs;rw[iM,aF,if_neg (λe=>hs e.1)]
      have ef:∀s v,(s,v)∈((r0,V.dead)::b8 (cj r0 d) 0 Ts)->(s=r0/\v = .dead)\/(v = .dead/\s≠r0/\(Ts.getD s .dead).on r0=true):=by
       intro s v hm;rcases List.mem_cons.1 hm with hm|hm
       ·injection hm with h1 h2;exact .inl ⟨h1,h2⟩
       ·obtain⟨h1,_,_,h2⟩:=(pf s v).1 hm;simp only[Nat.sub_zero,cj,Bool.and_eq_true,bne_iff_ne]at h2;exact .inr ⟨h1,h2.1.2,h2.1.1⟩
      have bB:(ag Ts ((r0,V.dead)::b8 (cj r0 d) 0 Ts)).getD r0 .dead = .dead:=by
       refine gY (by rw[hI.len];exact dh) (by simp) (λv hm=>?_);rcases ef r0 v hm with⟨_,h⟩|⟨_,h,_⟩
       ·exact h
       ·exact absurd rfl h
      have nX:∀s,s≠d->s≠r0->(Ts.getD s .dead).on r0=true->(ag Ts ((r0,V.dead)::b8 (cj r0 d) 0 Ts)).getD s .dead = .dead/\(Ts.getD s .dead).aJ=false:=by
       intro s bL hs af;have gK:s<N:=by
        rcases Nat.lt_or_ge s N with h|h
        ·exact h
        ·rw[ed (by rw[hI.len];exact h)]at af;simp[V.on,V.root]at af
       have hg:cj r0 d s (Ts.getD s .dead)=true:=by
        unfold cj;rw[af];simp[hs,bL]
       refine⟨gY (by rw[hI.len];exact gK) ?_ (λv hm=>?_),?_⟩
       ·rw[List.mem_map];exact⟨(s,.dead),List.mem_cons_of_mem _ ((pf s .dead).2 ⟨rfl,Nat.zero_le _,by rw[Nat.zero_add,hI.len];exact gK,by rw[Nat.sub_zero];exact hg⟩),rfl⟩
       ·rcases ef s v hm with⟨h,_⟩|⟨h,_⟩
        ·exact absurd h hs
        ·exact h
       ·exact BY iQ s (by rw[hI.len];exact gK) (by rw[Nat.zero_add];exact hg)
      have nW:∀s,s≠r0->(Ts.getD s .dead).on r0=false->(ag Ts ((r0,V.dead)::b8 (cj r0 d) 0 Ts)).getD s .dead=Ts.getD s .dead:=by
       intro s hs af;refine eK _ _ _ (λhm=>?_);obtain⟨u,hu,he⟩:=List.mem_map.1 hm;rcases ef s u.2 (by rw[<-he];exact hu)with⟨h,_⟩|⟨_,_,h⟩
       ·exact hs h
       ·rw[af]at h;cases h
      have vw:∀r∈A.ls,((ag Ts (((r0,V.dead)::b8 (cj r0 d) 0 Ts)++[(d,v)])).getD r .dead).deep=true:=by
       intro r hr;have fZ:r≠r0:=λe=>iT (e▸hr);have ho:=V.eR (dW r hr);rw[bo r (lv r hr)];cases af:(Ts.getD r .dead).on r0 with
       | false=>rw[nW r fZ af];exact dW r hr
       | true =>
        have h:=(nX r (lv r hr) fZ af).2;rw[h]at ho;cases ho
      obtain⟨k1,k2,k3⟩:=wM (T':=ag Ts (((r0,V.dead)::b8 (cj r0 d) 0 Ts)++[(d,v)])) (d:=d) hI a8 rfl vw b9 hv;refine Inv.HY hI hd hid rfl (λr i h=>by injection h with h;injection h with _ h;subst h;exact r8) a8 (by rw[cr,hI.len]) (λj' t n hj hm=>by rw[rY j' t n hj]at hm;cases hm) ?_ ?_ ?_ bT k1 k2 (λr i h=>by injection h with h;injection h with h _;subst h;exact iT) k3
      ·intro r i h;injection h with h;injection h with h h';subst h h';rw[bo r0 vI,bB];exact⟨VS,.inl rY,rfl,trivial⟩
      ·intro s r i h bL bp af;injection h with h;injection h with h h';subst h h';rw[bo s bL];exact .inl (nX s bL bp af)
      ·intro s bL hs;obtain⟨e1,e2⟩:=hs r0 i rfl;rw[bo s bL];exact nW s e1 e2
     cases bd:vs.contains r0 with
     | true =>
      rw[bd,cond_true]at h;obtain⟨Ts,l3,l4,rfl,dH,iQ,mY⟩:=M.an h;obtain⟨rfl,_⟩:=mY;have bI:Ts=T:=by rw[kW dH (by rw[Nat.zero_add,hI.len])];rfl
      have:=main Ts bI iQ
      rwa [bI]at this ⊢
     | false =>
      rw[bd,cond_false]at h;obtain⟨rfl,_⟩:=h;have cm:∀z,∀u∈T,cj r0 d z u=false:=by
       intro z u hu;obtain⟨s,hs,rfl⟩:=List.getElem_of_mem hu;cases af:(T[s]).on r0 with
       | false=>unfold cj;rw[af];rfl
       | true =>
        have:=hI.roots s r0 (by rw[List.getD_eq_getElem?_getD,List.getElem?_eq_getElem hs];exact af);rw[List.contains_iff_mem.2 this]at bd;cases bd
      have h1:=main T rfl (TY cm)
      rwa [TZ cm]at h1
    ·exact h.elim
  ·rw[eL]at h;exact h.elim
theorem ane[ae](hI:Inv w0 L0 N vs T a w L)(dQ:fQ P bf)       
  (ho:o.op = .call { callee:=.value (.func f),args,argTypes:=cw }) (ay:o.dst=some d) (hd:d<N) (hid:(T.getD d .dead).idle=true)
  (h:(HX C bf vs N d f args.toList).ai T ups log):Step P o w0 L0 N vs (ag T ups) a w:=by
 unfold HX at h;split at h
 ·exact h.elim
 ·generalize Hw _=b at h;cases b with
  | true=>exact am9 hI dQ ho ay hd hid h
  | false=>exact anc hI dQ ho ay hd hid h
end
end Go.Proofs.YthfgcmoipebheaaGreat.P.Am
