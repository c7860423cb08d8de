/- A part of the proof: Am25,Am26,Am27,Am28,Am29,Am37,Am38. No conditions. -/
import Derived.Test.YtbhogmdpmkpinaaGreatPG3
import Derived.Conc.Own4
import Derived.ArgAppend
set_option linter.unusedVariables false
set_option linter.unusedSimpArgs false
namespace Go.Proofs.YtbhogmdpmkpinaaGreat.P.Am
variable{d g i k m n r sz:Nat}{mu:Option (Nat×Nat)}{log ls:List Nat}{X X2 e:TypeId}{x:Operand}{t:Ty}{ups:List (Nat×V)}{o:Oper}{fm:Bool}{rs:List (Ty×Nat)}{news:List Value}
def addrOf(t:Nat):V->Option (Nat×List St)
 | .ptr r p _=>some (r,p)
 | .box _ _ _ _=>some (t,[])
 | _=>none
def allM:Nat->Nat->M (List V)
 | _,0=>.ret []
 | i,n+1=>.get i λv=>(allM (i+1) n).bind λl=>.ret (v::l)
def dX(r:Nat)(root:V)(src:Option Nat):Nat->List V->List (Nat×V)
 | _,[]=>[]
 | i,v::l=>cond (v.on r&&i != r&&src != some i && !ca root src v) ((i,.dead)::dX r root src (i+1) l) (dX r root src (i+1) l)
def oA(r:Nat)(root:V)(src:Option Nat):Nat->List V->Bool
 | _,[]=>true
 | i,v::l=>(!(v.on r&&i != r&&src != some i && !ca root src v) || !v.aL)&&oA r root src (i+1) l
def atV(C:Ctx)(vs:List Nat)(X:TypeId)(x:Operand)(t:Ty)(n r:Nat):M (t.den×Option Nat):=
 (cI C X x).bind λv=>match v with
 | .d none k tv y=>if h:tv=t then
   if t.depth=0\/(n=0/\k=0)then .ret (h▸y,none)
   else match x with
    | .tmp s=>if n≠0/\(n<=k\/t.depth<=k)/\k≠0/\vs.contains s=false/\s≠r then .ret (h▸y,some s)else .fail
    | .const _=>if n<=k then .ret (h▸y,none)else .fail
    | _=>.fail
  else .fail
 | _=>.fail
def jA(fm:Bool):List Nat->Nat
 | []=>cond fm 1 0
 | k::l=>2 ^ (k+1) ||| jA fm l
def wP{α:Type}(fm:Bool)(r s:Nat):List Nat->M α->M α
 | [],m=>m
 | k::l,m=>cond (k==s) (wP fm r s l m) (.get k λv=>.bm (!cond fm (v.on r) (v.eE r)) (wP fm r s l m))
def iB{α:Type}(fm:Bool)(r s:Nat)(kids:List Nat)(m:M α):M α :=
 if r<100000 then wP fm r s kids (.ask (vn r (jA fm (s::kids))) m)else .fail
def lA(C:Ctx)(vs:List Nat)(N:Nat)(bk:Option (List Nat))(X:TypeId)(t:Nat)(x:Operand):M (List (Nat×V)):=
 .get t λv=>match addrOf t v with
 | none=>.fail
 | some (r,p)=>.get r λu=>(dG p u).bind λz =>
  if C.ty X=some z.2.t/\(u.root != some r)=true/\r<N then
   (atV C vs X x z.2.t z.2.n r).bind λy =>
   (fY p u z.2.t y.1).bind λu' =>
   cond (!u.deep&&y.2.isNone) (.ret [(r,u')])
    (match bk with
     | some ks=>.bm u.fx (iB false r (y.2.getD r) ks (.ret ((r,u')::y.2.toList.map (λs=>(s,V.dead)))))
     | none=>(allM 0 N).bind λTs=>.bm (oA r u y.2 0 Ts) (.ret ((r,u')::(y.2.toList.map (λs=>(s,V.dead))++dX r u y.2 0 Ts))))
  else .fail
section
variable{P:Program}{C:Ctx}{w w' w0:World}{S S':Nat->Prop}{L L' L0:Nat->aj}{s N:Nat}{vs:List Nat}{T T':List V}{tm tm':Array Value}{a:Act}
theorem lL:{n i:Nat}->{l:List V}->{log:List Nat}->(allM i n).ai T l log->i+n=T.length->l=T.drop i
 | 0,i,l,log,h,hl=>by
  obtain⟨rfl,_⟩:=h;rw[List.drop_eq_nil_of_le (by omega)]
 | n+1,i,l,log,h,hl=>by
  obtain⟨aF,rfl,h⟩:=h;obtain⟨l',l1,l2,rfl,h1,h2⟩:=M.an h;obtain⟨rfl,_⟩:=h2;rw[lL h1 (by omega)];have ax:i<T.length:=by omega
  rw[List.getD_eq_getElem?_getD,List.getElem?_eq_getElem ax];simp
theorem iE[af]{T:List V}{s:Nat}{v:V}(hs:s<T.length)(hm:s∈ups.map (·.1))(h:∀v',(s,v')∈ups->v'=v):(ah T ups).getD s .dead=v:=by
 have key:∀(ups:List (Nat×V)) (T:List V),s<T.length->(∀v',(s,v')∈ups->v'=v)->(T.getD s .dead=v\/s∈ups.map (·.1))->(ah T ups).getD s .dead=v:=by
  intro ups;induction ups with
  | nil =>
   intro T _ _ h;exact h.resolve_right (by simp)
  | cons u l ih =>
   intro T hs h hm;show (ah (T.set u.1 u.2) l).getD s .dead=v;refine ih _ (by simpa using hs) (λv' hv=>h v' (by simp[hv])) ?_;by_cases hu:s=u.1
   ·left;rw[aH,if_pos ⟨hu,by rw[<-hu];exact hs⟩];exact h u.2 (by rw[hu];simp)
   ·rcases hm with hm|hm
    ·left;rw[aH,if_neg (λe=>hu e.1)];exact hm
    ·right;simp only[List.map_cons,List.mem_cons]at hm;exact hm.resolve_left hu
 exact key ups T hs h (.inr hm)
theorem wW{fm:Bool}{z:Nat}:{l:List Nat}->z∉l->(jA fm l).testBit (z+1)=false
 | [],_=>by cases fm<;>simp[jA,Nat.testBit_succ]
 | k::l,h=>by
  simp only[List.mem_cons,not_or]at h;simp only[jA,Nat.testBit_or,wW h.2,Bool.or_false];rw[Nat.testBit_two_pow];simp;omega
theorem wX{fm:Bool}:{l:List Nat}->(jA fm l).testBit 0=fm
 | []=>by cases fm<;>simp[jA]
 | k::l=>by
  simp only[jA,Nat.testBit_or,wX (l:=l)];rw[Nat.testBit_two_pow];simp
theorem JV{α:Type}{s:Nat}{m:M α}{x:α}:{l:List Nat}->{log:List Nat}->(wP fm r s l m).ai T x log->(∀k∈l,k≠s->cond fm ((T.getD k .dead).on r) ((T.getD k .dead).eE r)=false)/\∃aF,m.ai T x aF
 | [],log,h=>⟨by simp,log,h⟩
 | k::l,log,h=>by
  simp only[wP]at h;cases hk:(k==s)with
  | true =>
   rw[hk]at h;obtain⟨h1,h2⟩:=JV (l:=l) h;refine⟨λk' aI bn=>?_,h2⟩;rcases List.mem_cons.1 aI with rfl|aI
   ·exact absurd (by simpa using hk) bn
   ·exact h1 k' aI bn
  | false =>
   rw[hk]at h;obtain⟨aF,rfl,hc,h⟩:=h;obtain⟨h1,h2⟩:=JV (l:=l) h;refine⟨λk' aI bn=>?_,h2⟩;rcases List.mem_cons.1 aI with rfl|aI
   ·simpa using hc
   ·exact h1 k' aI bn
theorem jQ[af]{α:Type}{s:Nat}{kids:List Nat}{m:M α}{x:α}(h:(iB fm r s kids m).ai T x log):
  (∀z,z≠s->cond fm ((T.getD z .dead).on r) ((T.getD z .dead).eE r)=false)/\∃aF,m.ai T x aF:=by
 unfold iB at h;split at h
 ·rename_i hr;obtain⟨h1,aF,h⟩:=JV h;obtain⟨⟨hq,_⟩,log2,rfl,h⟩:=h;refine⟨λz hz=>?_,log2,h⟩;by_cases hm:z∈kids
  ·exact h1 z hm hz
  ·have:=HK hr hq z (wW (by simp[hz,hm]))
   rwa [wX]at this
 ·exact h.elim
theorem vt{r:Nat}{root:V}{src:Option Nat}:{i:Nat}->{l:List V}->(s:Nat)->(v:V)->((s,v)∈dX r root src i l↔v = .dead/\i<=s/\s<i+l.length/\((l.getD (s - i) .dead).on r&&s != r&&src != some s && !ca root src (l.getD (s - i) .dead))=true)
 | i,[],s,v=>by simp[dX];omega
 | i,v0::l,s,v=>by
  have ih:=vt (r:=r) (root:=root) (src:=src) (i:=i+1) (l:=l) s v;have ey:i+1<=s->(v0::l).getD (s - i) .dead=l.getD (s - (i+1)) .dead:=λh=>by
   rw[show s - i=(s - (i+1))+1 by omega,List.getD_cons_succ]
  simp only[dX];cases hc:(v0.on r&&i != r&&src != some i && !ca root src v0)with
  | true =>
   simp only[cond_true,List.mem_cons,Prod.mk.injEq,ih,List.length_cons];constructor
   ·rintro (⟨rfl,rfl⟩|⟨h1,h2,h3,h4⟩)
    ·refine⟨rfl,Nat.le_refl _,by omega,?_⟩;rw[Nat.sub_self,List.getD_cons_zero];exact hc
    ·refine⟨h1,by omega,by omega,?_⟩;rw[ey h2];exact h4
   ·rintro⟨h1,h2,h3,h4⟩
    by_cases hs:s=i
    ·exact .inl ⟨hs,h1⟩
    ·refine .inr ⟨h1,by omega,by omega,?_⟩;rw[<-ey (by omega)];exact h4
  | false =>
   simp only[cond_false,ih,List.length_cons];constructor
   ·rintro⟨h1,h2,h3,h4⟩
    refine⟨h1,by omega,by omega,?_⟩;rw[ey h2];exact h4
   ·rintro⟨h1,h2,h3,h4⟩
    by_cases hs:s=i
    ·subst hs;rw[Nat.sub_self,List.getD_cons_zero,hc]at h4;cases h4
    ·refine⟨h1,by omega,by omega,?_⟩;rw[<-ey (by omega)];exact h4
theorem Ih{root:V}{src:Option Nat}:{i:Nat}->{l:List V}->oA r root src i l=true->∀s,s<l.length->((l.getD s .dead).on r&&(i+s) != r&&src != some (i+s) && !ca root src (l.getD s .dead))=true->(l.getD s .dead).aL=false
 | _,[],_,s,hs,_=>by simp at hs
 | i,v0::l,h,s,hs,hc=>by
  simp only[oA,Bool.and_eq_true,Bool.or_eq_true,Bool.not_eq_true']at h;cases s with
  | zero =>
   simp only[List.getD_cons_zero,Nat.add_zero]at hc ⊢;rcases h.1 with h|h
   ·rw[hc]at h;cases h
   ·exact h
  | succ s =>
   simp only[List.getD_cons_succ]at hc ⊢;exact Ih h.2 s (by simpa using hs) (by rwa [show i+1+s=i+(s+1)by omega])
theorem Ii{r:Nat}{root:V}{src:Option Nat}:{i:Nat}->{l:List V}->(∀s,(l.getD s .dead).on r=true->i+s≠r->src≠some (i+s)->ca root src (l.getD s .dead)=true)->dX r root src i l=[]/\oA r root src i l=true
 | i,[],_=>⟨rfl,rfl⟩
 | i,v::l,h=>by
  obtain⟨h1,h2⟩:=Ii (r:=r) (root:=root) (i:=i+1) (l:=l) (λs hs hr hn=>by
   have:=h (s+1) (by simpa using hs) (by omega) (by rw[show i+(s+1)=i+1+s by omega];exact hn);simpa using this)
  have h0:(v.on r&&i != r&&src != some i && !ca root src v)=false:=by
   rw[Bool.eq_false_iff];intro hc;simp only[Bool.and_eq_true,Bool.not_eq_true',bne_iff_ne]at hc;have:=h 0 (by simpa using hc.1.1.1) (by simpa using hc.1.1.2) (by simpa using hc.1.2);rw[List.getD_cons_zero,hc.2]at this;cases this
  simp[dX,oA,h0,h1,h2]
theorem aib[af](hI:Inv w0 L0 N vs T a w L){r:Nat}(hb:(T.getD r .dead).deep=false)(sE:∀A,a.tmps.getD r undef = .tuple A->False)(s:Nat)(hs:(T.getD s .dead).on r=true):ca (T.getD r .dead) none (T.getD s .dead)=true:=by
 have h:=hI.aV s;generalize hv:T.getD s .dead=v at h hs;have cA:(T.getD r .dead).deep=true->False:=λh=>by rw[hb]at h;cases h
 have cn:∀{q},v.root=some q->q=r:=λh=>by simpa[V.on,h]using hs
 cases v with
 | ptr r' p t=>rfl
 | d l n t x=>exact (cA (h.1 r (by simpa[V.on,V.root]using hs))).elim
 | box l n t x=>exact (cA (h.1 r (by simpa[V.on,V.root]using hs))).elim
 | rp l t x=>exact (cA (h.1 r (by simpa[V.on,V.root]using hs))).elim
 | view r' p t=>have:=cn rfl;subst this;exact (cA h.1).elim
 | part r' i n t x =>
  have:=cn rfl;subst this;obtain⟨_,A,_,_,h1,_⟩:=h;exact (sE A h1).elim
 | hole v p =>
  have:=cn (q:=r) (by simpa[V.on,V.root]using hs);have h0:v.root=none:=h.1;have h1:v.root=some r:=by simpa[V.on,V.root]using hs
  rw[h0]at h1;cases h1
 | bO _ _ _ _=>simp[V.on,V.root]at hs
 | same r' t =>
  have:=cn rfl;subst this;obtain⟨_,_,_,_,h2⟩:=h;rw[h2]at hb;cases hb
 | dead=>simp[V.on,V.root]at hs
 | bF l=>simp[V.on,V.root]at hs
theorem SA:¬SL (λ_=>aj.free) none k:=by
 rintro (h|⟨_,_,h,_⟩)<;>cases h
theorem tA[af](h:jg P C X t){o:Nat}{cur:Array Value}{c:Value}{cs:List Value}(hh:w.heap[g]?=some (.cells cur e (0,0)))(hf:Form t cs c)(h1:∀v∈cs,v.oneCell'=true)
  (hl:cs.length=t.sz) (hb:o+t.sz<=cur.size):(Instr.storeAt X (.pointer (some ⟨g,o,none⟩)) c).run P w = .ok () (w.setRow g (putCells cur o cs)):=by
 have hc:=Form.cells hf h1;have bp:c.cells.size=t.sz:=by rw[<-Array.length_toList,hc,hl]
 have a7:=run_storeCells_at P g o e cs 0 cur w hh (by simp;omega) h1;simp only[Nat.add_zero]at a7;simp[Instr.storeAt,Instr.sureAddr,storeVar,h.run_sizeOf,bp,hc,a7,putCells]
theorem xq[af](hI:Inv w0 L0 N vs T a w L)(hC:bD P C){t:Nat}{x:Operand}(ho:o.op = .store X (.tmp t) x)(ay:o.dst=none)
  {bk:Option (List Nat)} (h:(lA C vs N bk X t x).ai T ups log):Step P o w0 L0 N vs (ah T ups) a w:=by
 obtain⟨J2,rfl,h⟩:=h;have a7:=hI.aV t;have aiJ:∀r p,addrOf t (T.getD t .dead)=some (r,p)->∃g,a.eval (.tmp t) = .pointer (some ⟨g,(node [] 0 p).2,none⟩)/\L g = .own r (node [] 0 p).1:=by
  intro r p he;generalize T.getD t .dead=v at he a7;cases v with
  | ptr r2 p2 t2 =>
   simp only[addrOf,Option.some.injEq,Prod.mk.injEq]at he;obtain⟨rfl,rfl⟩:=he;exact a7
  | box l n t2 x2 =>
   simp only[addrOf,Option.some.injEq,Prod.mk.injEq]at he;obtain⟨rfl,rfl⟩:=he;obtain⟨_,g,cur,e,h1,h2,_⟩:=a7;exact⟨g,h1,h2⟩
  | dead=>cases he
  | bF _=>cases he
  | d _ _ _ _=>cases he
  | rp _ _ _=>cases he
  | view _ _ _=>cases he
  | hole _ _=>cases he
  | part _ _ _ _ _=>cases he
  | bO _ _ _ _=>cases he
  | same _ _=>cases he
 dsimp only at h;split at h
 ·exact h.elim
 ·rename_i r p he;obtain⟨g,cV,hg⟩:=aiJ r p he;obtain⟨eS,rfl,h⟩:=h;obtain⟨⟨l,n',t',x'⟩,l1,l2,rfl,hz,h⟩:=M.an h;dsimp only at h;split at h
  ·rename_i hc;obtain⟨hX,mn,dr⟩:=hc;obtain⟨⟨y,src⟩,l3,l4,rfl,hv,h⟩:=M.an h;obtain⟨u',l5,l6,rfl,hm,h⟩:=M.an h;have nM:ups=(r,u')::(src.toList.map (λs=>(s,V.dead))++dX r (T.getD r .dead) src 0 T)/\oA r (T.getD r .dead) src 0 T=true:=by
    cases lX:(!(T.getD r .dead).deep&&src.isNone)with
    | false =>
     rw[lX]at h;dsimp only[cond_false]at h;split at h
     ·rename_i ks;obtain⟨vL,h⟩:=h;obtain⟨cN,_,h⟩:=jQ h;obtain⟨rfl,_⟩:=h;obtain⟨e1,e2⟩:=Ii (r:=r) (root:=T.getD r .dead) (src:=src) (i:=0) (l:=T) (λs hs hr hn=>by
       rw[Nat.zero_add]at hr hn;have hd:(T.getD s .dead).eE r=false:=by
        cases cW:src with
        | none =>
         rw[cW]at cN;exact cN s hr
        | some s0 =>
         rw[cW]at cN hn;exact cN s (λe=>hn (by rw[e];rfl))
       unfold V.eE at hd;rw[hs,Bool.true_and]at hd;have cE:(T.getD r .dead).dE=false:=by
        generalize T.getD r .dead=u at vL;cases u<;>simp[V.fx,V.dE]at vL ⊢
       generalize T.getD s .dead=v at hd;cases v with
       | ptr r2 p2 t2 =>
        simp only[ca,cE,Bool.not_false,Bool.and_true,Bool.or_eq_true];exact .inr (by simpa using hd)
       | _=>simp at hd)
      rw[e1,e2,List.append_nil];exact⟨rfl,rfl⟩
     ·obtain⟨Ts,l7,l8,rfl,dQ,h⟩:=M.an h;obtain⟨jq,rfl,_⟩:=h;have bI:Ts=T:=by rw[lL dQ (by rw[Nat.zero_add,hI.len])];rfl
      subst bI;exact⟨rfl,jq⟩
    | true =>
     rw[lX]at h;obtain⟨rfl,_⟩:=h;simp only[Bool.and_eq_true,Bool.not_eq_true',Option.isNone_iff_eq_none]at lX;obtain⟨jW,rfl⟩:=lX;have sE:∀A,a.tmps.getD r undef = .tuple A->False:=by
      intro A hA;have bt:=hI.aV r;rw[hA]at bt;generalize T.getD r .dead=u at bt hz jW;cases u with
      | box l2 n t x=>obtain⟨_,_,_,_,h1,_⟩:=bt;cases h1
      | d l2 n t x =>
       simp only[dG]at hz;split at hz
       ·obtain⟨z,m1,m2,rfl,z1,z2⟩:=M.an hz;cases n with
        | zero=>cases t<;>simp only[aP]at z1<;>exact z1.elim
        | succ n =>
         cases t with
         | slice e t=>simp[V.deep,Ty.depth]at jW
         | _=>simp only[aP]at z1;exact z1.elim
       ·exact hz.elim
      | dead=>exact hz.elim
      | bF _=>exact hz.elim
      | rp _ _ _=>exact hz.elim
      | ptr _ _ _=>exact hz.elim
      | view _ _ _=>exact hz.elim
      | hole _ _=>exact hz.elim
      | part _ _ _ _ _=>exact hz.elim
      | bO _ _ _ _=>simp[V.deep]at jW
      | same _ _=>exact hz.elim
     obtain⟨e1,e2⟩:=Ii (r:=r) (root:=T.getD r .dead) (src:=none) (i:=0) (l:=T) (λs hs _ _=>aib hI jW sE s hs);rw[e1,e2];exact⟨rfl,rfl⟩
   obtain⟨rfl,jq⟩:=nM;generalize bI:T=Ts at *
   obtain⟨hb,sN,_,ik,lZ⟩:=lq hz (hI.aV r);obtain⟨g',cur,e,k1,k2,k3,k4⟩:=hb;obtain rfl:=hI.inj g g' r _ hg k1;have ef:∃cs,Form t' cs (a.eval x)/\(∀v∈cs,v.oneCell'=true)/\cs.length=t'.sz/\(∀s,src=some s->s≠r/\s∉vs/\∃k y,n'≠0/\k≠0/\t'.depth≠0/\Ts.getD s .dead = .d none k t' y) /\
     (∀(L':Nat->aj) (w':World) (u:V) q o',(∀k,L k = .aq->L' k = .aq/\w'.heap[k]?=w.heap[k]?) ->
      (∀s k z i,src=some s->L k = .own s (i::z)->i<t'.sz->w'.heap[k]?=w.heap[k]?/\(z.length<n'->L' k = .own r (q++(o'+i)::z))/\(n'<=z.length->L' k = .aq)) ->
      Own w' L' (SL L' u.root) r n' t' y q o' cs):=by
    obtain⟨v,m1,m2,rfl,Jx,cP⟩:=M.an hv;split at cP
    ·rename_i k tv y0;split at cP
     ·rename_i qa;subst qa;have dK:∃s0,aB L Ts a.tmps s0 (.d none k tv y0) w (a.eval x)/\(∀s,x = .tmp s->s0=s/\Ts.getD s .dead = .d none k tv y0)/\((∀s,x ≠ .tmp s)->∀L T tm s w,aB L T tm s (.d none k tv y0) w (a.eval x)):=by
       rcases kB hI Jx with⟨s,rfl,hv,hs⟩|⟨_,hs⟩
       ·exact⟨s,hs,λs' he=>by cases he;exact⟨rfl,hv.symm⟩,λh=>absurd rfl (h s)⟩
       ·cases x with
        | tmp s =>
         obtain⟨_,_,hv,_⟩:=Jx;refine⟨s,?_,λs' he=>by cases he;exact⟨rfl,hv.symm⟩,λh=>absurd rfl (h s)⟩;rw[hv];exact hI.aV s
        | const c=>exact⟨0,hs _ _ _ _ _,λs' he=>(by cases he),λ_=>hs⟩
        | func c=>exact⟨0,hs _ _ _ _ _,λs' he=>(by cases he),λ_=>hs⟩
        | global c=>exact Jx.elim
      obtain⟨s0,⟨_,cs,hf,bP⟩,hx,lh⟩:=dK;have wG:∀{L':Nat->aj} {w':World} {u:V},(∀k,L k = .aq->L' k = .aq/\w'.heap[k]?=w.heap[k]?)->∀k,SL L none k->SL L' u.root k/\w'.heap[k]?=w.heap[k]?:=by
       intro L' w' u H k hk;rcases hk with hk|⟨_,_,hk,_⟩
       ·exact⟨.inl (H k hk).1,(H k hk).2⟩
       ·cases hk
      refine⟨cs,hf,Own.one bP,Own.len bP,?_⟩;split at cP
      ·rename_i hd;obtain⟨cP,_⟩:=cP;cases cP;refine⟨λs hs=>(by cases hs),λL' w' u q o' H1 _=>?_⟩;rcases hd with hd|⟨rfl,rfl⟩
       ·exact Own.flat hd bP
       ·exact Own.dN (Rd.move (wG H1) (Own.eM bP))
      ·rename_i hd;cases x with
       | tmp s =>
        dsimp only at cP;split at cP
        ·rename_i vM;obtain⟨cP,_⟩:=cP;cases cP;obtain⟨c1,c2,ck,c3,c4⟩:=vM;obtain⟨rfl,hT⟩:=hx s rfl;refine⟨λs' hs=>?_,λL' w' u q o' H1 H2=>?_⟩
         ·injection hs with hs;subst hs;exact⟨c4,λhm=>(by rw[List.contains_iff_mem.2 hm]at c3;cases c3),k,_,c1,ck,λh=>hd (.inl h),hT⟩
         ·obtain⟨k9,c9,Jg⟩:=Own.HM c2 bP;refine Own.fi c9 (wG H1) (λk d rest iJ hk=>?_) Jg;have aI:L k = .own s0 (d::rest):=by simpa using hk
          have:=H2 s0 k rest d rfl aI iJ;exact⟨this.1,this.2.1,λh=>.inl (this.2.2 h)⟩
        ·exact cP.elim
       | const c =>
        dsimp only at cP;split at cP
        ·rename_i la;obtain⟨cP,_⟩:=cP;cases cP;refine⟨λs hs=>(by cases hs),λL' w' u q o' H1 _=>?_⟩;obtain⟨_,bj,vR,Wb⟩:=lh (by simp) (λ_=>.free) [] #[] 0 w;have de:bj=cs:=by
          have e1:=Form.cells vR (Own.one Wb);have e2:=Form.cells hf (Own.one bP);exact e1.symm.trans e2
         subst de;refine Own.fi la (λk hk=>absurd hk SA) (λk d rest _ hk=>by cases hk) Wb
        ·exact cP.elim
       | func f=>exact cP.elim
       | global g=>exact cP.elim
     ·exact cP.elim
    ·exact cP.elim
   obtain⟨cs,hf,dZ,hlen,cW,bw⟩:=ef;have aN:(execOp a.eval o).run P w = .ok .skip (w.setRow g (putCells cur (node [] 0 p).2 cs)):=by
    simp[execOp,ho,cV,tA (hC X t' hX) k2 hf dZ hlen k3]
   have bt:src≠some r:=λe=>(cW r e).1 rfl;have kY:(ah Ts ((r,u')::(src.toList.map (λs=>(s,V.dead))++dX r (Ts.getD r .dead) src 0 Ts))).length=N:=by rw[cF,hI.len]
   have b9:∀s,src=some s->s<N:=by
    intro s hs;obtain⟨_,_,k,y',_,_,_,hT⟩:=cW s hs;rcases Nat.lt_or_ge s N with h|h
    ·exact h
    ·rw[eF (by rw[hI.len];exact h)]at hT;cases hT
   have eH:∀s v,(s,v)∈((r,u')::(src.toList.map (λs=>(s,V.dead))++dX r (Ts.getD r .dead) src 0 Ts))->(s=r/\v=u')\/(src=some s/\v = .dead)\/(v = .dead/\((Ts.getD s .dead).on r&&s != r&&src != some s && !ca (Ts.getD r .dead) src (Ts.getD s .dead))=true):=by
    intro s v hm;rcases List.mem_cons.1 hm with hm|hm
    ·injection hm with h1 h2;exact .inl ⟨h1,h2⟩
    ·rcases List.mem_append.1 hm with hm|hm
     ·obtain⟨s',bM,he⟩:=List.mem_map.1 hm;injection he with h1 h2;subst h1;exact .inr (.inl ⟨by simpa using bM,h2.symm⟩)
     ·obtain⟨h1,_,_,h2⟩:=(vt s v).1 hm;exact .inr (.inr ⟨h1,by simpa using h2⟩)
   intro K Q hK;unfold Oper.wp;rw[aN,Oper.upon_skip,ay];refine hK a _ _ (Inv.store (m:=n') (src:=src) hI rfl hz hm (by simpa using mn) hg k2 k3 hlen ?_ kY ?_ ?_ ?_ ?_)
   ·intro s hs;obtain⟨h1,h2,k,y',h3,h4,h5,h6⟩:=cW s hs;refine⟨h1,h2,?_,by rw[h6];rfl⟩;refine iE (by rw[hI.len];exact b9 s hs) ?_ (λv hm=>?_)
    ·simp[hs]
    ·rcases eH s v hm with⟨h,_⟩|⟨_,h⟩|⟨h,_⟩
     ·exact absurd h h1
     ·exact h
     ·exact h
   ·refine iE (by rw[hI.len];exact dr) (by simp) (λv hm=>?_);rcases eH r v hm with⟨_,h⟩|⟨h,_⟩|⟨_,h⟩
    ·exact h
    ·exact absurd h bt
    ·simp at h
   ·intro s hs ed ag;have il:s<N:=by
     rcases Nat.lt_or_ge s N with h|h
     ·exact h
     ·rw[eF (by rw[hI.len];exact h)]at ag;simp[V.on,V.root]at ag
    cases hk:ca (Ts.getD r .dead) src (Ts.getD s .dead)with
    | true =>
     refine .inr ⟨fa _ _ _ (λhm=>?_),Or.inl rfl⟩;obtain⟨u,hu,he⟩:=List.mem_map.1 hm;rcases eH s u.2 (by rw[<-he];exact hu)with⟨h,_⟩|⟨h,_⟩|⟨_,h⟩
     ·exact hs h
     ·exact ed h
     ·rw[hk]at h;simp at h
    | false =>
     have hc:((Ts.getD s .dead).on r&&s != r&&src != some s && !ca (Ts.getD r .dead) src (Ts.getD s .dead))=true:=by
      rw[ag,hk];simp only[Bool.and_eq_true,bne_iff_ne,Bool.not_false,and_true,true_and];exact⟨hs,ed⟩
     refine .inl ⟨iE (by rw[hI.len];exact il) ?_ (λv hm=>?_),?_⟩
     ·rw[List.mem_map];exact⟨(s,.dead),by
       refine List.mem_cons_of_mem _ (List.mem_append_right _ ((vt s .dead).2 ⟨rfl,Nat.zero_le _,?_,?_⟩))
       ·rw[Nat.zero_add,hI.len];exact il
       ·simpa using hc,rfl⟩
     ·rcases eH s v hm with⟨h,_⟩|⟨h,_⟩|⟨h,_⟩
      ·exact absurd h hs
      ·exact absurd h ed
      ·exact h
     ·exact Ih jq s (by rw[hI.len];exact il) (by simpa using hc)
   ·intro s hs ed ag;refine fa _ _ _ (λhm=>?_);obtain⟨u,hu,he⟩:=List.mem_map.1 hm;rcases eH s u.2 (by rw[<-he];exact hu)with⟨h,_⟩|⟨h,_⟩|⟨_,h⟩
    ·exact hs h
    ·exact ed h
    ·rw[ag]at h;simp at h
   ·refine bw _ _ _ _ _ (λk hk=>⟨ez hI hk,setRow_other w g k _ (by rintro rfl;rw[hg]at hk;cases hk)⟩) (λs k z i hs hk hi=>?_);have bn:=(cW s hs).1;have hZ:aS (dO r (node [] 0 p).1 (node [] 0 p).2 t'.sz n' src) w L (λ_=>.free) k=if z.length<n' then .own r ((node [] 0 p).1++((node [] 0 p).2+i)::z)else .aq:=by
     rw[cX hI (by rw[hk];simp),hk];simp only[eN,dO];rw[if_neg bn,if_pos hs,if_pos hi]
    refine⟨setRow_other w g k _ (by rintro rfl;rw[hg]at hk;injection hk with hk _;exact bn hk.symm),λh=>by rw[hZ,if_pos h],λh=>by rw[hZ,if_neg (by omega)]⟩
  ·exact h.elim
end
def M.nU{α:Type}(T:List V):M α->M α
 | .ret a=>.ret a
 | .fail=>.fail
 | .get s k=>(k (T.getD s .dead)).nU T
 | .cJ t m k=>.cJ t m λx=>(k x).nU T
 | .bm b k=>.bm b (k.nU T)
 | .ask q k=>.bm (ep q T&&decide (bo<=q)) (k.nU T)
 | .ite b x y=>.ite b (x.nU T) (y.nU T)
theorem M.oX{α:Type}{T T':List V}:{m:M α}->{a:α}->{log:List Nat}->(m.nU T').ai T a log->∃aF,m.ai T' a aF
 | .ret _,_,_,h=>⟨[],h.1,rfl⟩
 | .fail,_,_,h=>h.elim
 | .get s k,a,log,h=>by
  obtain⟨aF,h⟩:=M.oX (m:=k _) h;exact⟨s::aF,aF,rfl,h⟩
 | .cJ t m k,a,log,h=>by
  obtain⟨x,hm,h⟩:=h;obtain⟨aF,h⟩:=M.oX (m:=k x) h;exact⟨aF,x,hm,h⟩
 | .bm c k,a,log,h=>by
  obtain⟨hc,h⟩:=h;obtain⟨aF,h⟩:=M.oX (m:=k) h;exact⟨aF,hc,h⟩
 | .ask q k,a,log,h=>by
  obtain⟨hc,h⟩:=h;obtain⟨aF,h⟩:=M.oX (m:=k) h;simp only[Bool.and_eq_true,decide_eq_true_eq]at hc;exact⟨q::aF,hc,aF,rfl,h⟩
 | .ite c x y,a,log,h=>by
  rcases h with⟨hc,h⟩|⟨hc,h⟩
  ·obtain⟨aF,h⟩:=M.oX (m:=x) h;exact⟨aF,.inl ⟨hc,h⟩⟩
  ·obtain⟨aF,h⟩:=M.oX (m:=y) h;exact⟨aF,.inr ⟨hc,h⟩⟩
def Ki(C:Ctx)(vs:List Nat)(d:Nat)(X:TypeId)(x:Operand):M (List (Nat×V)):=
 match x with
 | .tmp t=>.get t λv =>
   cond (v.aL && !vs.contains t&&v.root.isNone&&(match v with | .hole _ _=>false|_=>true)) (.ret [(t,.dead),(d,v)])
    ((Ie t v).bind λv'=>.bm (fB vs v') (.ret [(d,v')]))
 | x=>(cI C X x).bind λv'=>.bm (fB vs v') (.ret [(d,v')])
def nO(d:Nat):Nat->List V->List (Nat×V)
 | _,[]=>[]
 | i,v::l=>cond (i==d||v.on d) ((i,.dead)::nO d (i+1) l) (nO d (i+1) l)
def CC(d:Nat):Nat->List V->Bool
 | _,[]=>true
 | i,v::l=>(i==d || !(v.on d&&v.aL))&&CC d (i+1) l
def BB(C:Ctx)(vs:List Nat)(N d:Nat)(X:TypeId)(x:Operand):M (List (Nat×V)):=
 .get d λvd=>.bm (decide (d<N)) (cond vd.aL
  ((allM 0 N).bind λTs=>.bm (CC d 0 Ts) (((Ki C vs d X x).nU (ah Ts (nO d 0 Ts))).bind λups=>.ret (nO d 0 Ts++ups)))
  (Ki C vs d X x))
section
variable{P:Program}{C:Ctx}{w w' w0:World}{S S':Nat->Prop}{L L' L0:Nat->aj}{s N:Nat}{vs:List Nat}{T T':List V}{tm tm':Array Value}{a:Act}
def qk(o:Oper)(x:Operand):Prop:=o.op = .move x\/o.op = .assign x
theorem tw(h:qk o x):(execOp a.eval o).run P w = .ok (.value (a.eval x)) w:=by
 rcases h with h|h<;>simp[execOp,h]
theorem amo[af](hI:Inv w0 L0 N vs T a w L){t:Nat}(h:t∉vs):nT t t T=true:=by
 unfold nT;rw[List.all_eq_true];intro b hb;obtain⟨i,hi⟩:=List.mem_iff_getElem?.1 hb;simp only[List.getElem?_mapIdx,Option.map_eq_some_iff]at hi;obtain⟨v,hv,rfl⟩:=hi;have kW:T.getD i .dead=v:=by simp[List.getD_eq_getElem?_getD,hv]
 simp only[id_eq,Bool.or_eq_true,bne_iff_ne];right;intro hr;exact h (hI.roots i t (by rw[kW];simp[V.on,hr]))
theorem Zv[af](hI:Inv w0 L0 N vs T a w L){x:Operand}{d:Nat}{log:List Nat}(ho:qk o x)(ay:o.dst=some d)(hd:d<N)(hid:(T.getD d .dead).idle=true)
  (h:(Ki C vs d o.type x).ai T ups log):Step P o w0 L0 N vs (ah T ups) a w:=by
 have VF:∀{v':V} {log:List Nat},(qs C o.type x).ai T v' log->fB vs v'=true->Step P o w0 L0 N vs (ah T [(d,v')]) a w:=by
  intro v' log h az K Q hK;have:=Yo (P:=P) (d:=d) hI (tw ho) hid h (qx az);exact aK.inv hI hd hid ay this hK
 have Jf:(∀t,x ≠ .tmp t)->((cI C o.type x).bind λv'=>M.bm (fB vs v') (.ret [(d,v')])).ai T ups log->Step P o w0 L0 N vs (ah T ups) a w:=by
  intro hx h;obtain⟨v',l1,l2,rfl,h1,h2⟩:=M.an h;obtain⟨az,rfl,_⟩:=h2;refine VF (log:=l1) ?_ az;cases x with
  | tmp t=>exact absurd rfl (hx t)
  | const c=>exact h1
  | func c=>exact h1
  | global c=>exact h1
 cases x with
 | const c=>exact Jf (by simp) h
 | func c=>exact Jf (by simp) h
 | global c=>exact Jf (by simp) h
 | tmp t =>
  obtain⟨aF,rfl,h⟩:=h;dsimp only at h;cases hc:((T.getD t .dead).aL && !vs.contains t&&(T.getD t .dead).root.isNone&&(match T.getD t .dead with | .hole _ _=>false|_=>true))with
  | true =>
   rw[hc]at h;obtain⟨rfl,_⟩:=h;simp only[Bool.and_eq_true,Bool.not_eq_true']at hc;obtain⟨⟨⟨h1,h2⟩,h3⟩,h4⟩:=hc;have qa:t∉vs:=λhm=>by rw[List.contains_iff_mem.2 hm]at h2;cases h2
   have cn:(T.getD t .dead).root=none:=by simpa using h3
   obtain⟨L',iG⟩:=Inv.amg hI (t:=t) (d:=d) rfl h1 (λu p e=>by rw[e]at h4;cases h4) (λr i n t x e=>by rw[e]at cn;cases cn) hd hid (amo hI qa) (by rw[cn];simp) (by rw[cn];simp);exact Step.value ay (tw ho) iG
  | false =>
   rw[hc]at h;obtain⟨v',l1,l2,rfl,h1,h2⟩:=M.an h;obtain⟨az,rfl,_⟩:=h2;exact VF (log:=t::l1) ⟨l1,rfl,h1⟩ az
theorem CD{d:Nat}:{i:Nat}->{l:List V}->(s:Nat)->(v:V)->((s,v)∈nO d i l↔v = .dead/\i<=s/\s<i+l.length/\(s=d\/(l.getD (s - i) .dead).on d=true))
 | i,[],s,v=>by simp[nO];omega
 | i,v0::l,s,v=>by
  have ih:=CD (d:=d) (i:=i+1) (l:=l) s v;have ey:i+1<=s->(v0::l).getD (s - i) .dead=l.getD (s - (i+1)) .dead:=λh=>by
   rw[show s - i=(s - (i+1))+1 by omega,List.getD_cons_succ]
  simp only[nO];cases hc:(i==d||v0.on d)with
  | true =>
   simp only[cond_true,List.mem_cons,Prod.mk.injEq,ih,List.length_cons];constructor
   ·rintro (⟨rfl,rfl⟩|⟨h1,h2,h3,h4⟩)
    ·refine⟨rfl,Nat.le_refl _,by omega,?_⟩;rw[Nat.sub_self,List.getD_cons_zero];simpa using hc
    ·refine⟨h1,by omega,by omega,?_⟩;rw[ey h2];exact h4
   ·rintro⟨h1,h2,h3,h4⟩
    by_cases hs:s=i
    ·exact .inl ⟨hs,h1⟩
    ·refine .inr ⟨h1,by omega,by omega,?_⟩;rw[<-ey (by omega)];exact h4
  | false =>
   simp only[cond_false,ih,List.length_cons];constructor
   ·rintro⟨h1,h2,h3,h4⟩
    refine⟨h1,by omega,by omega,?_⟩;rw[ey h2];exact h4
   ·rintro⟨h1,h2,h3,h4⟩
    by_cases hs:s=i
    ·subst hs;rw[Nat.sub_self,List.getD_cons_zero]at h4;simp only[Bool.or_eq_false_iff,beq_eq_false_iff_ne]at hc;rcases h4 with h4|h4
     ·exact absurd h4 hc.1
     ·rw[hc.2]at h4;cases h4
    ·refine⟨h1,by omega,by omega,?_⟩;rw[<-ey (by omega)];exact h4
theorem XL:{i:Nat}->{l:List V}->CC d i l=true->∀s,i+s≠d->(l.getD s .dead).on d=true->(l.getD s .dead).aL=false
 | _,[],_,s,_,h=>by simp[V.on,V.root]at h
 | i,v0::l,h,s,hs,hc=>by
  simp only[CC,Bool.and_eq_true,Bool.or_eq_true,Bool.not_eq_true',beq_iff_eq]at h;cases s with
  | zero =>
   simp only[List.getD_cons_zero]at hc ⊢;have:=h.1.resolve_left (by simpa using hs);rw[hc,Bool.true_and]at this;exact this
  | succ s =>
   simp only[List.getD_cons_succ]at hc ⊢;exact XL h.2 s (by omega) hc
theorem XM[af](hl:T.length=N)(hd:d<N)(s:Nat):(ah T (nO d 0 T)).getD s .dead=if (s==d||(T.getD s .dead).on d)=true then .dead else T.getD s .dead:=by
 split
 ·rename_i hc;by_cases hs:s<N
  ·refine iE (by rw[hl];exact hs) (List.mem_map.2 ⟨(s,.dead),(CD s .dead).2 ⟨rfl,Nat.zero_le _,by rw[Nat.zero_add,hl];exact hs,?_⟩,rfl⟩) (λv hm=>((CD s v).1 hm).1);simpa using hc
  ·exact eF (by rw[cF,hl];omega)
 ·rename_i hc;refine fa _ _ _ (λhm=>hc ?_);obtain⟨u,hu,he⟩:=List.mem_map.1 hm;have:=((CD s u.2).1 (by rw[<-he];exact hu)).2.2.2;simpa using this
theorem K5[af](hI:Inv w0 L0 N vs T a w L)(ho:qk o x)(ay:o.dst=some d)
  (h:(BB C vs N d o.type x).ai T ups log):Step P o w0 L0 N vs (ah T ups) a w:=by
 obtain⟨J2,rfl,hd,h⟩:=h;have hd:d<N:=by simpa using hd
 cases bw:(T.getD d .dead).aL with
 | false =>
  rw[bw]at h;exact Zv hI ho ay hd (by rw[V.idle,bw];rfl) h
 | true =>
  rw[bw]at h;obtain⟨Ts,l1,l2,rfl,dQ,hk,h⟩:=M.an h;have bI:Ts=T:=by rw[lL dQ (by rw[Nat.zero_add,hI.len])];rfl
  subst bI;obtain⟨bH,l3,l4,rfl,h1,h2⟩:=M.an h;obtain⟨rfl,_⟩:=h2;obtain⟨aF,h1⟩:=M.oX h1;have bu:=Inv.kill hI (T':=ah Ts (nO d 0 Ts)) (λs=>s==d||(Ts.getD s .dead).on d) (by rw[cF,hI.len]) (λs=>XM hI.len hd s) (λs r hs mf kg=>by
   simp only[Bool.or_eq_false_iff,beq_eq_false_iff_ne]at hs ⊢;refine⟨λe=>?_,?_⟩
   ·subst e;rw[hs.2]at mf;cases mf
   ·cases hr:(Ts.getD r .dead).on d with
    | false=>rfl
    | true =>
     by_cases bC:r=d
     ·subst bC;rw[hs.2]at mf;cases mf
     ·rw[XL hk r (by simpa using bC) hr]at kg;cases kg)
  rw[lx];refine Zv bu ho ay hd ?_ h1;rw[XM hI.len hd,if_pos (by simp)];rfl
end
inductive Mode where
 | ro
 | mut (n:Nat)
 | ptr (n:Nat)
 | bV (n:Nat)
@[simp] def Mode.back:Mode->Bool
 | .ro=>false
 | .mut _=>true
 | .ptr _=>true
 | .bV _=>false
def Mode.dep:Mode->Nat
 | .ro=>0
 | .mut n=>n
 | .ptr n=>n
 | .bV n=>n
def Mode.owned(t:Ty):Mode->Bool
 | .ro=>false
 | .mut n=>n != 0&&t.depth != 0
 | .ptr _=>true
 | .bV n=>n != 0&&t.depth != 0
def dh:List (Ty×Mode)->Ty
 | []=>.unit
 | p::l=>.pair p.1 (dh l)
def cG:List (Ty×Mode)->Ty
 | []=>.unit
 | (t,.mut _)::l=>.pair t (cG l)
 | (t,.ptr _)::l=>.pair t (cG l)
 | (_,.ro)::l=>cG l
 | (_,.bV _)::l=>cG l
def cS:List (Ty×Nat)->Ty
 | []=>.unit
 | p::l=>.pair p.1 (cS l)
structure Fn where
 ps:List (Ty×Mode)
 rs:List (Ty×Nat)
 ao:(dh ps).den->Option (Ty.pair (cS rs) (cG ps)).den
def tX(w:World)(L:Nat->aj)(S:Nat->Prop)(s n:Nat)(t:Ty)(x:t.den)(c:Value):Prop :=
 ∃g cur e,c = .pointer (some ⟨g,0,none⟩)/\L g = .own s []/\w.heap[g]?=some (.cells cur e (0,0))/\cur.size=t.sz/\Own w L S s n t x [] 0 cur.toList
def dV(w:World)(L0:Nat->aj):Nat->(ps:List (Ty×Mode))->(dh ps).den->List Value->Prop
 | _,[],_,cs=>cs=[]
 | i,(t,.ptr n)::ps,x,cs=>∃c bj,cs=c::bj/\tX w L0 (λk=>L0 k = .aq) i n t x.1 c/\dV w L0 (i+1) ps x.2 bj
 | i,(t,.mut n)::ps,x,cs=>∃c bj cells,cs=c::bj/\Form t cells c/\Own w L0 (λk=>L0 k = .aq) i n t x.1 [] 0 cells/\dV w L0 (i+1) ps x.2 bj
 | i,(t,.bV n)::ps,x,cs=>∃c bj cells,cs=c::bj/\Form t cells c/\Own w L0 (λk=>L0 k = .aq) i n t x.1 [] 0 cells/\dV w L0 (i+1) ps x.2 bj
 | i,(t,.ro)::ps,x,cs=>∃c bj cells,cs=c::bj/\Form t cells c/\Own w L0 (λk=>L0 k = .aq) i 0 t x.1 [] 0 cells/\dV w L0 (i+1) ps x.2 bj
def fQ(w:World)(L0:Nat->aj):Nat->(ps:List (Ty×Mode))->(cG ps).den->List Value->Prop
 | _,[],_,cs=>cs=[]
 | i,(t,.mut n)::ps,x,cs=>∃c bj cells,cs=c::bj/\Form t cells c/\Own w L0 (λk=>L0 k = .aq) i n t x.1 [] 0 cells/\fQ w L0 (i+1) ps x.2 bj
 | i,(t,.ptr n)::ps,x,cs=>∃c bj,cs=c::bj/\tX w L0 (λk=>L0 k = .aq) i n t x.1 c/\fQ w L0 (i+1) ps x.2 bj
 | i,(_,.ro)::ps,x,cs=>∃c bj,cs=c::bj/\fQ w L0 (i+1) ps x bj
 | i,(_,.bV _)::ps,x,cs=>∃c bj,cs=c::bj/\fQ w L0 (i+1) ps x bj
def je(w:World)(L0:Nat->aj)(m:Nat):Nat->(rs:List (Ty×Nat))->(cS rs).den->List Value->Prop
 | _,[],_,cs=>cs=[]
 | o,(t,n)::rs,x,cs=>∃c bj cells,cs=c::bj/\Form t cells c/\Own w L0 (λk=>L0 k = .aq) m n t x.1 [] o cells/\je w L0 m (o+t.sz) rs x.2 bj
def jM(w:World)(L0:Nat->aj)(m:Nat):(rs:List (Ty×Nat))->(cS rs).den->List Value->Prop
 | [(t,n)],x,cs=>(n<1000/\je w L0 m 0 [(t,n)] x cs)\/(1000<=n/\∃c,cs=[c]/\tX w L0 (λk=>L0 k = .aq) m (n - 1000) t x.1 c)
 | rs,x,cs=>je w L0 m 0 rs x cs
def wT:List (Ty×Nat)->Bool
 | [(_,n)]=>decide (n<1000)
 | _=>true
theorem jM.low{w:World}{L0:Nat->aj}:{rs:List (Ty×Nat)}->{x:(cS rs).den}->{cs:List Value}->wT rs=true->(jM w L0 m rs x cs↔je w L0 m 0 rs x cs)
 | [(t,n)],x,cs,h=>by
  have h:n<1000:=of_decide_eq_true h;constructor
  ·rintro (⟨_,h1⟩|⟨h1,_⟩)
   ·exact h1
   ·omega
  ·exact λh1=>.inl ⟨h,h1⟩
 | [],_,_,_=>Iff.rfl
 | _::_::_,_,_,_=>Iff.rfl
def oZ:List Value->Value
 | [v]=>v
 | l=>.tuple l.toArray
structure jL [af] (w:World) (L0:Nat->aj) (ps:List (Ty×Mode)):Prop where
 free:∀k,w.heap.size<=k->L0 k = .free
 inj:∀k k' s q,L0 k = .own s q->L0 k' = .own s q->k=k'
 owner:∀k s q,L0 k = .own s q->∃t m,ps[s]?=some (t,m)/\m.owned t=true
 hG:af.ok w L0
theorem jL.write[af]{w:World}{L0:Nat->aj}{ps:List (Ty×Mode)}(h:jL w L0 ps){s:Nat}{q:List Nat}(hk:L0 k = .own s q):∃t m,ps[s]?=some (t,m)/\(m.back=true\/∃n,m = .bV n):=by
 obtain⟨t,m,h1,h2⟩:=h.owner k s q hk;refine⟨t,m,h1,?_⟩
 match m,h2 with
 | .mut n,_=>exact .inl rfl
 | .ptr n,_=>exact .inl rfl
 | .bV n,_=>exact .inr ⟨n,rfl⟩
structure Left (w w':World) (L0 L':Nat->aj) (ps:List (Ty×Mode)) (rs:List (Ty×Nat)):Prop where
 os:w'.os=w.os
 tape:w'.tape=w.tape
 output:w'.output=w.output
 size:w.heap.size<=w'.heap.size
 drawn:w.drawn<=w'.drawn
 aR:∀k,k<w.heap.size->(L0 k = .aq\/L0 k = .other)->L' k=L0 k/\w'.heap[k]?=w.heap[k]?
 free:∀k,w'.heap.size<=k->L' k = .free
 inj:∀k k' s q,L' k = .own s q->L' k' = .own s q->k=k'
 owner:∀k s q,L' k = .own s q->(s=ps.length/\∃t n,(t,n)∈rs/\((n≠0/\t.depth≠0)\/1000<=n))\/∃t m,ps[s]?=some (t,m)/\m.back=true
def au[af](P:Program)(f:FuncId)(F:Fn):Prop :=
 (∃ fn, P.funcs[f]? = some fn /\ (fn.name == "runtime.NumGoroutine") = false /\ fn.body.isNone = false) /\
 ∀x r,F.ao x=some r->∀(w:World) (L0:Nat->aj) (args:Array Value),jL w L0 F.ps->dV w L0 0 F.ps x args.toList ->
  Calls P f args w (λe w'=>∃cs L',e = .returned (oZ cs)/\Left w w' L0 L' F.ps F.rs/\jM w' L' F.ps.length F.rs r.1 cs/\fQ w' L' 0 F.ps r.2 args.toList)
def Yu:(t:Ty)->Option t.den
 | .slice _ _=>some []
 | .cap (some f) _=>cond (f==ky) (some none) none
 | _=>none
def U2(f:FuncId):(t:Ty)->M (t.den×List Nat)
 | .raw 1=>.ret ((Value.func (.func f) #[] #[]:(Ty.raw 1).den),[])
 | .cap (some g) .unit=>.bm (g==f && !(g==ky)) (.ret ((some ():Option Unit),[]))
 | _=>.fail
def pB(C:Ctx)(t:Ty)(x:Operand):M (t.den×List Nat):=
 match x with
 | .tmp s=>.get s λv=>(mF s v).bind λz=>if h:z.2.1=t then .ret (h▸z.2.2,if t.depth=0 then []else z.1.toList)else .fail
 | .const (.slice none 0 0)=>match Yu t with
  | some y=>.ret (y,[])
  | none=>.fail
 | .const c=>(BF C 0 c).bind λv=>match v with
  | .d none _ t' y=>if h:t'=t then .ret (h▸y,[])else .fail
  | _=>.fail
 | .func f=>U2 f t
 | _=>.fail
def Kg(t:Ty)(n:Nat)(x:Operand):M (t.den×Nat):=
 match x with
 | .tmp s=>.get s λv=>match v with
  | .view r [] _=>.get r λu=>match u with
   | .d none n' t' y=>if h:t'=t then (if n'=n/\n≠0/\t.depth≠0 then .ret (h▸y,r)else .fail)else .fail
   | _=>.fail
  | .d none n' t' y=>if h:t'=t then (if n'=n/\n≠0/\t.depth≠0 then .ret (h▸y,s)else .fail)else .fail
  | _=>.fail
 | _=>.fail
structure lI (ps:List (Ty×Mode)) where
 x:(dh ps).den
 ls:List Nat
 mu:List (Nat×Nat)
def lO(C:Ctx):Nat->(ps:List (Ty×Mode))->List Operand->M (lI ps)
 | _,[],[]=>.ret ⟨(),[],[]⟩
 | i,(t,.ro)::ps,x::xs=>(pB C t x).bind λy=>(lO C (i+1) ps xs).bind λr=>.ret ⟨(y.1,r.x),y.2++r.ls,r.mu⟩
 | i,(t,.mut n)::ps,x::xs=>(Kg t n x).bind λy=>(lO C (i+1) ps xs).bind λr=>.ret ⟨(y.1,r.x),r.ls,(y.2,i)::r.mu⟩
 | _,_,_=>.fail
section
variable{P:Program}{C:Ctx}{w w' w0:World}{S S':Nat->Prop}{L L' L0:Nat->aj}{s N:Nat}{vs:List Nat}{T T':List V}{tm tm':Array Value}{a:Act}
theorem Own.full:{n:Nat}->{t:Ty}->{x:t.den}->{q:List Nat}->{o:Nat}->{cs:List Value}->t.depth<=n->Own w L S s n t x q o cs->Own w L S' s n t x q o cs
 | _,.int _,_,_,_,_,_,h=>by simpa only[Own]using h
 | _,.bool,_,_,_,_,_,h=>by simpa only[Own]using h
 | _,.str,_,_,_,_,_,h=>by simpa only[Own]using h
 | _,.raw _,_,_,_,_,_,h=>by simpa only[Own]using h
 | 0,.cap _ _,_,_,_,_,hd,_=>by simp[Ty.depth]at hd
 | _+1,.cap _ _,_,_,_,_,_,h=>by simpa only[Own]using h
 | _,.unit,_,_,_,_,_,h=>by simpa only[Own]using h
 | _,.pair a b,_,_,_,_,hd,h=>by
  simp only[Own,Ty.depth]at h hd ⊢;obtain⟨c0,c1,rfl,h0,h1⟩:=h;exact⟨c0,c1,rfl,Own.full (by omega) h0,Own.full (by omega) h1⟩
 | _,.agg t,_,_,_,_,hd,h=>by simp only[Own,Ty.depth]at h hd ⊢;exact Own.full (t:=t) hd h
 | 0,.slice _ _,_,_,_,_,hd,h=>by simp[Ty.depth]at hd
 | n+1,.slice e t,xs,_,_,_,hd,h=>by
  simp only[Own,Ty.depth]at h hd ⊢;rcases h with h|⟨g,cap,cur,h1,h2,h3,h4,h5,h6,h7⟩
  ·exact .inl h
  ·exact .inr ⟨g,cap,cur,h1,h2,h3,h4,h5,h6,λj hj=>Own.full (by omega) (h7 j hj)⟩
def cL(mu:Option (Nat×Nat))(ls:List Nat):aj->aj
 | .own s q=>match mu with
  | some (r,i)=>if s=r then .own i q else if ls.contains s then .aq else .other
  | none=>if ls.contains s then .aq else .other
 | x=>x
def nk(mu:Option (Nat×Nat))(m d:Nat):aj->aj
 | .own i q=>if i=m then .own d q else match mu with
  | some (r,_)=>.own r q
  | none=>.other
 | x=>x
def dH(mu:Option (Nat×Nat))(m d:Nat)(L L':Nat->aj):Nat->aj:=λk=>match L k with
 | .free=>nk mu m d (L' k)
 | .own s q=>if mu.map (·.1)=some s then nk mu m d (L' k)else .own s q
 | x=>x
theorem lE{mu:Option (Nat×Nat)}{l:aj}{q:List Nat}(h:cL mu ls l = .own i q):∃r,mu=some (r,i)/\l = .own r q:=by
 cases l with
 | own s q' =>
  unfold cL at h;cases mu with
  | none=>dsimp only at h;split at h<;>cases h
  | some p =>
   obtain⟨r,i'⟩:=p;dsimp only at h;split at h
   ·rename_i hs;injection h with h1 h2;exact⟨r,by rw[h1],by rw[hs,h2]⟩
   ·split at h<;>cases h
 | aq=>cases h
 | free=>cases h
 | other=>cases h
theorem vi[af](hI:Inv w0 L0 N vs T a w L){y:t.den}(h:(pB C t x).ai T (y,ls) log):
  ∃cells,Form t cells (a.eval x)/\(∀r∈ls,(T.getD r .dead).deep=true)/\∀(S:Nat->Prop),(∀k,L k = .aq->S k)->(∀k r q,r∈ls->L k = .own r q->S k)->Rd w S t y cells:=by
 unfold pB at h;split at h
 ·rename_i s;obtain⟨aF,rfl,h⟩:=h;obtain⟨⟨l,t',y'⟩,l1,l2,rfl,h1,h2⟩:=M.an h;dsimp only at h2;split at h2
  ·rename_i ht;subst ht;obtain⟨h2,_⟩:=h2;injection h2 with h2 h3;subst h2 h3;obtain⟨cells,hf,bC,cD⟩:=qB hI h1 (hI.aV s) (λ_=>rfl);refine⟨cells,hf,λr hr=>?_,λS H1 H2=>?_⟩
   ·split at hr
    ·simp at hr
    ·exact cD r (by simpa using hr)
   ·by_cases hd:t'.depth=0
    ·have:=Own.dN (L:=L) (s:=0) (q:=[]) (o:=0) bC;exact Own.eM (Own.flat (L':=L) (S':=S) (s':=0) (q':=[]) (o':=0) (n':=0) hd this)
    ·rw[if_neg hd]at H2;refine Rd.move (λk hk=>⟨?_,rfl⟩) bC;rcases hk with hk|⟨r,q,hl,hk⟩
     ·exact H1 k hk
     ·exact H2 k r q (by simp[hl]) hk
  ·exact h2.elim
 ·split at h
  ·rename_i y' hn;obtain⟨h,_⟩:=h;injection h with h1 h2;subst h1 h2;unfold Yu at hn;split at hn
   ·injection hn with hn;subst hn;exact⟨[.slice none 0 0],rfl,by simp,λS _ _=>by
     simp only[Rd];refine⟨none,0,rfl,Nat.le_refl _,λ_=>?_,λh=>absurd rfl h⟩
     first|exact⟨rfl,rfl⟩|simp⟩
   ·rename_i f u _;cases hf:f==ky with
    | false=>rw[hf]at hn;cases hn
    | true =>
     rw[hf,cond_true]at hn;injection hn with hn;subst hn;refine⟨[.slice none 0 0],rfl,by simp,λS _ _=>?_⟩;simp only[Rd];refine .inl ⟨by trivial,?_⟩;show [_]=[cond (f==ky) _ _];rw[hf];rfl
   ·cases hn
  ·exact h.elim
 ·rename_i c _;obtain⟨v,l1,l2,rfl,h1,h2⟩:=M.an h;split at h2
  ·rename_i n t' y';split at h2
   ·rename_i ht;subst ht;obtain⟨h2,_⟩:=h2;injection h2 with h2 h3;subst h2 h3;obtain⟨⟨_,cells,hf,ho⟩,_⟩:=Ib (L:=λ_=>.free) (T:=T) (tm:=a.tmps) (s:=0) (w:=w) h1;refine⟨cells,hf,by simp,λS _ _=>?_⟩;exact Own.eM (Own.fi (L':=L) (S':=S) (s':=0) (q2:=[]) (o2:=0) (Nat.zero_le _) (λk hk=>absurd hk SA) (λk d rest _ hk=>by cases hk) ho)
   ·exact h2.elim
  ·exact h2.elim
 ·rename_i f;unfold U2 at h;split at h
  ·obtain⟨h,_⟩:=h;injection h with h1 h2;subst h1 h2;refine⟨[.func (.func f) #[] #[]],rfl,by simp,λS _ _=>?_⟩
   first|exact⟨rfl,rfl⟩|simp[Rd,Value.mB]
  ·rename_i g;obtain⟨hg,h,_⟩:=h;injection h with h1 h2;subst h1 h2;simp only[Bool.and_eq_true,beq_iff_eq,Bool.not_eq_true']at hg;obtain⟨rfl,hn⟩:=hg;refine⟨[.func (.func g) #[] #[]],rfl,by simp,λS _ _=>?_⟩;simp only[Rd];exact .inr ⟨(),[],trivial,rfl,hn,rfl⟩
  ·exact h.elim
 ·exact h.elim
theorem ami[af](hI:Inv w0 L0 N vs T a w L){y:t.den}(h:(Kg t n x).ai T (y,r) log):
  T.getD r .dead = .d none n t y/\n≠0/\t.depth≠0/\a.eval x=a.tmps.getD r undef:=by
 unfold Kg at h;split at h
 ·rename_i s;obtain⟨aF,rfl,h⟩:=h;have hs:=hI.aV s;generalize hv:T.getD s .dead=v at h hs;dsimp only at h;split at h
  ·rename_i r' t2;obtain⟨log2,rfl,h⟩:=h;dsimp only at h;split at h
   ·rename_i n' t' y' hu;split at h
    ·rename_i ht;subst ht;split at h
     ·rename_i hc;obtain⟨rfl,hn,hd⟩:=hc;obtain⟨h,_⟩:=h;injection h with h1 h2;subst h1 h2;refine⟨hu,hn,hd,?_⟩;obtain⟨_,h1⟩:=hs;rcases h1 with⟨_,h2,_⟩|⟨_,_,_,h2,_⟩
      ·exact h2
      ·rw[hu]at h2;simp[V.dE]at h2
     ·exact h.elim
    ·exact h.elim
   ·exact h.elim
  ·rename_i n' t' y';split at h
   ·rename_i ht;subst ht;split at h
    ·rename_i hc;obtain⟨rfl,hn,hd⟩:=hc;obtain⟨h,_⟩:=h;injection h with h1 h2;subst h1 h2;exact⟨hv,hn,hd,rfl⟩
    ·exact h.elim
   ·exact h.elim
  ·exact h.elim
 ·exact h.elim
theorem HH[af](hI:Inv w0 L0 N vs T a w L):{ps:List (Ty×Mode)}->{i:Nat}->{xs:List Operand}->{A:lI ps}->{log:List Nat}->(lO C i ps xs).ai T A log ->
  (∀r∈A.ls,(T.getD r .dead).deep=true)/\(∀r j,(r,j)∈A.mu->i<=j/\∃t n y,ps[j - i]?=some (t,.mut n)/\n≠0/\t.depth≠0/\T.getD r .dead = .d none n t y/\(xs.map a.eval)[j - i]?=some (a.tmps.getD r undef)) /\
  (∀j t n,ps[j]?=some (t,.mut n)->∃r,(r,i+j)∈A.mu) /\
  ∀L1:Nat->aj,(∀k,L k = .aq->L1 k = .aq)->(∀k r q,r∈A.ls->L k = .own r q->L1 k = .aq)->(∀k r j q,(r,j)∈A.mu->L k = .own r q->L1 k = .own j q)->dV w L1 i ps A.x (xs.map a.eval)
 | [],i,[],A,log,h=>by
  obtain⟨rfl,_⟩:=h;exact⟨by simp,by simp,by simp,λ_ _ _ _=>rfl⟩
 | (t,.ro)::ps,i,x::xs,A,log,h=>by
  simp only[lO]at h;obtain⟨⟨y,ls⟩,l1,l2,rfl,h1,h⟩:=M.an h;obtain⟨A',l3,l4,rfl,h2,h⟩:=M.an h;obtain⟨rfl,_⟩:=h;obtain⟨cells,k1,k2,k3⟩:=vi hI h1;obtain⟨j1,j2,j4,j3⟩:=HH hI h2;refine⟨λr hr=>?_,λr j hm=>?_,λj t' n hj=>?_,λL1 H1 H2 H3=>?_⟩
  ·rcases List.mem_append.1 hr with hr|hr
   ·exact k2 r hr
   ·exact j1 r hr
  ·obtain⟨hi,t',n',y',e1,e2,e3,e4,e5⟩:=j2 r j hm;have:j - i=(j - (i+1))+1:=by omega
   refine⟨by omega,t',n',y',by rw[this];simpa using e1,e2,e3,e4,by rw[this];simpa using e5⟩
  ·cases j with
   | zero=>simp at hj
   | succ j =>
    obtain⟨r,hr⟩:=j4 j t' n (by simpa using hj);exact⟨r,by rw[show i+(j+1)=i+1+j by omega];exact hr⟩
  ·exact⟨a.eval x,_,cells,rfl,k1,Own.dN (k3 _ H1 (λk r q hr hk=>H2 k r q (List.mem_append_left _ hr) hk)),j3 L1 H1 (λk r q hr hk=>H2 k r q (List.mem_append_right _ hr) hk) H3⟩
 | (t,.mut n)::ps,i,x::xs,A,log,h=>by
  simp only[lO]at h;obtain⟨⟨y,r0⟩,l1,l2,rfl,h1,h⟩:=M.an h;obtain⟨A',l3,l4,rfl,h2,h⟩:=M.an h;obtain⟨rfl,_⟩:=h;obtain⟨k1,k2,k3,k4⟩:=ami hI h1;obtain⟨j1,j2,j4,j3⟩:=HH hI h2;refine⟨j1,λr j hm=>?_,λj t' n' hj=>?_,λL1 H1 H2 H3=>?_⟩
  ·rcases List.mem_cons.1 hm with hm|hm
   ·injection hm with e1 e2;subst e1 e2;exact⟨Nat.le_refl _,t,n,y,by simp,k2,k3,k1,by simp[k4]⟩
   ·obtain⟨hi,t',n',y',e1,e2,e3,e4,e5⟩:=j2 r j hm;have:j - i=(j - (i+1))+1:=by omega
    refine⟨by omega,t',n',y',by rw[this];simpa using e1,e2,e3,e4,by rw[this];simpa using e5⟩
  ·cases j with
   | zero=>exact⟨r0,by simp⟩
   | succ j =>
    obtain⟨r,hr⟩:=j4 j t' n' (by simpa using hj);exact⟨r,by rw[show i+(j+1)=i+1+j by omega];exact List.mem_cons_of_mem _ hr⟩
  ·have hs:=hI.aV r0;rw[k1]at hs;obtain⟨_,cells,hf,ho⟩:=hs;refine⟨a.eval x,_,cells,rfl,by rw[k4];exact hf,?_,j3 L1 H1 H2 (λk r j q hm hk=>H3 k r j q (List.mem_cons_of_mem _ hm) hk)⟩;refine Own.move (λk hk=>⟨?_,rfl⟩) (λk d rest _ hk=>⟨H3 k r0 i _ (by simp) hk,rfl⟩) ho;rcases hk with hk|⟨_,_,hk,_⟩
   ·exact H1 k hk
   ·cases hk
 | [],_,_::_,_,_,h=>h.elim
 | (_,.ro)::_,_,[],_,_,h=>h.elim
 | (_,.mut _)::_,_,[],_,_,h=>h.elim
 | (_,.ptr _)::_,_,[],_,_,h=>h.elim
 | (_,.ptr _)::_,_,_::_,_,_,h=>h.elim
 | (_,.bV _)::_,_,[],_,_,h=>h.elim
 | (_,.bV _)::_,_,_::_,_,_,h=>h.elim
theorem HG{C:Ctx}:{ps:List (Ty×Mode)}->{i:Nat}->{xs:List Operand}->{A:lI ps}->{log:List Nat}->(lO C i ps xs).ai T A log->∀(j:Nat) (t:Ty) (n:Nat),ps[j]?≠some (t,.ptr n)
 | [],_,_,_,_,_,j,t,n=>by simp
 | (t0,.ro)::ps,i,x::xs,A,log,h,j,t,n=>by
  simp only[lO]at h;obtain⟨_,_,_,_,_,h⟩:=M.an h;obtain⟨_,_,_,_,h2,_⟩:=M.an h;cases j with
  | zero=>simp
  | succ j=>simpa using HG h2 j t n
 | (t0,.mut n0)::ps,i,x::xs,A,log,h,j,t,n=>by
  simp only[lO]at h;obtain⟨_,_,_,_,_,h⟩:=M.an h;obtain⟨_,_,_,_,h2,_⟩:=M.an h;cases j with
  | zero=>simp
  | succ j=>simpa using HG h2 j t n
 | (_,.ro)::_,_,[],_,_,h,_,_,_=>h.elim
 | (_,.mut _)::_,_,[],_,_,h,_,_,_=>h.elim
 | (_,.ptr _)::_,_,[],_,_,h,_,_,_=>h.elim
 | (_,.ptr _)::_,_,_::_,_,_,h,_,_,_=>h.elim
 | (_,.bV _)::_,_,[],_,_,h,_,_,_=>h.elim
 | (_,.bV _)::_,_,_::_,_,_,h,_,_,_=>h.elim
theorem TM[af]{C:Ctx}{ps:List (Ty×Mode)}{xs:List Operand}{A:lI ps}(h:(lO C i ps xs).ai T A log){j:Nat}{m:Mode}(hj:ps[j]?=some (t,m))(hm:m.back=true):∃n,m = .mut n:=by
 match m,hj,hm with
 | .ro,_,hm=>cases hm
 | .bV _,_,hm=>cases hm
 | .mut n,_,_=>exact⟨n,rfl⟩
 | .ptr n,hj,_=>exact absurd hj (HG h j t n)
end
section
variable{P:Program}{C:Ctx}{w w' w0:World}{S S':Nat->Prop}{L L' L0:Nat->aj}{s N:Nat}{vs:List Nat}{T T':List V}{tm tm':Array Value}{a:Act}
theorem BS{l:aj}{s:Nat}{q:List Nat}(h:nk mu m d l = .own s q):∃i,l = .own i q/\((i=m/\s=d)\/(i≠m/\∃j,mu=some (s,j))):=by
 cases l with
 | own i q' =>
  unfold nk at h;dsimp only at h;split at h
  ·rename_i hi;injection h with h1 h2;exact⟨i,by rw[h2],.inl ⟨hi,h1.symm⟩⟩
  ·rename_i hi;split at h
   ·injection h with h1 h2;subst h1;exact⟨i,by rw[h2],.inr ⟨hi,_,rfl⟩⟩
   ·cases h
 | aq=>cases h
 | free=>cases h
 | other=>cases h
def gw(mu:Option (Nat×Nat))(l:aj):Prop:=l = .free\/∃s q,l = .own s q/\mu.map (·.1)=some s
theorem jP(h:gw mu (L k)):dH mu m d L L' k=nk mu m d (L' k):=by
 unfold dH;rcases h with h|⟨s,q,h,hm⟩
 ·rw[h]
 ·rw[h];simp[hm]
theorem ot(h:¬gw mu (L k)):dH mu m d L L' k=L k:=by
 unfold dH;cases hl:L k with
 | own s q =>
  dsimp only;rw[if_neg];intro hm;exact h (.inr ⟨s,q,hl,hm⟩)
 | aq=>rfl
 | other=>rfl
 | free=>exact absurd (.inl hl) h
theorem kH{mu:Option (Nat×Nat)}{ls:List Nat}{l:aj}(h:¬gw mu l):cL mu ls l = .aq\/cL mu ls l = .other:=by
 cases l with
 | own s q =>
  unfold cL;cases mu with
  | none=>dsimp only;split<;>simp
  | some p =>
   obtain⟨r,i⟩:=p;dsimp only;rw[if_neg (λe=>h (.inr ⟨s,q,rfl,by simp[e]⟩))];split<;>simp
 | aq=>exact .inl rfl
 | other=>exact .inr rfl
 | free=>exact absurd (.inl rfl) h
theorem Inv.H0[af](hI:Inv w0 L0 N vs T a w L)(hd:d<N)(hid:(T.getD d .dead).idle=true){ps:List (Ty×Mode)}(hm:m=ps.length)
  (Jb:∀r i,mu=some (r,i)->i<m) (ba:Left w w' (λk=>cL mu ls (L k)) L' ps rs) (kY:T'.length=N)
  (jt:∀j t md,ps[j]?=some (t,md)->md.back=true->mu.map (·.2)=some j)
  {c:Value}
  (bE:∀r i,mu=some (r,i)->(T.getD r .dead).aL=true/\((∀(j:Nat) (t:Ty) (md:Mode),ps[j]?=some (t,md)->md.back=false)\/(T'.getD r .dead).aL=true)/\(T'.getD r .dead).root=none/\aB (dH mu m d L L') T' (a.put (some d) c).tmps r (T'.getD r .dead) w' (a.tmps.getD r undef))
  (hT:∀s r i,mu=some (r,i)->s≠d->s≠r->(T.getD s .dead).on r=true->(T'.getD s .dead = .dead/\(T.getD s .dead).aL=false) \/
   (T'.getD s .dead=T.getD s .dead/\(T.getD s .dead).aL=false/\aB (dH mu m d L L') T' (a.put (some d) c).tmps s (T.getD s .dead) w' (a.tmps.getD s undef)))
  (iH:∀s,s≠d->(∀r i,mu=some (r,i)->s≠r/\(T.getD s .dead).on r=false)->T'.getD s .dead=T.getD s .dead)
  {V0:V} (bT:T'.getD d .dead=V0) (vH:∀r,V0.on r=true->r∈vs) (IP:∀k q,L' k = .own m q->V0.aL=true)
  (ew:∀r i,mu=some (r,i)->r∉ls)
  (vI:∀tm',aB (dH mu m d L L') T' tm' d V0 w' c):Inv w0 L0 N vs T' (a.put (some d) c) w' (dH mu m d L L'):=by
 have bC:∀r i,mu=some (r,i)->r≠d:=by
  intro r i h;exact df hid (bE r i h).1
 have cE:∀k q,L k ≠ .own d q:=λk q h=>by
  have:=hI.owner k d q h;rw[V.kA hid]at this;cases this
 have nK:∀k,¬gw mu (L k)->(dH mu m d L L' k=L k/\w'.heap[k]?=w.heap[k]?):=by
  intro k h;have ax:k<w.heap.size:=hI.lt (λe=>h (.inl e));exact⟨ot h,(ba.aR k ax (kH h)).2⟩
 let X:Nat->Prop:=λs=>s=d\/∃r i,mu=some (r,i)/\(s=r\/(T.getD s .dead).on r=true);have mc:∀s,¬X s->s≠d/\(∀r i,mu=some (r,i)->s≠r/\(T.getD s .dead).on r=false):=by
  intro s hs;have hs:=not_or.1 hs;refine⟨hs.1,λr i hr=>⟨λe=>hs.2 ⟨r,i,hr,.inl e⟩,?_⟩⟩;cases ho:(T.getD s .dead).on r with
  | false=>rfl
  | true=>exact absurd ⟨r,i,hr,.inr ho⟩ hs.2
 refine Inv.upd X hI (by simp[Act.put,hI.size]) kY hI.dP ?_ ?_ ?_ ?_ ?_ ?_ ?_ ?_ ?_
 ·refine⟨ba.os.trans hI.fr.os,ba.tape.trans hI.fr.tape,ba.output.trans hI.fr.output,Nat.le_trans hI.fr.size ba.size,Nat.le_trans hI.fr.drawn ba.drawn,λk hk h0=>?_,hI.fr.hG⟩;have h1:=hI.fr.aR k hk h0;have p4:¬gw mu (L k):=by
   rintro (h|⟨s,q,h,_⟩)<;>rw[h1.1]at h<;>rcases h0 with h0|h0<;>rw[h0]at h<;>cases h
  have:=nK k p4;exact⟨this.1.trans h1.1,this.2.trans h1.2⟩
 ·intro k hk;have hf:=hI.free k (Nat.le_trans ba.size hk);rw[jP (.inl hf),ba.free k hk];rfl
 ·intro k k' s q h h';by_cases hp:gw mu (L k)
  ·rw[jP hp]at h;obtain⟨i,e1,e2⟩:=BS h;by_cases cB:gw mu (L k')
   ·rw[jP cB]at h';obtain⟨i',Uz,lP⟩:=BS h';have:i=i':=by
     rcases e2 with⟨rfl,rfl⟩|⟨h1,j,h2⟩
     ·rcases lP with⟨h3,_⟩|⟨_,j,h4⟩
      ·exact h3.symm
      ·exact absurd rfl (bC _ _ h4)
     ·rcases lP with⟨rfl,rfl⟩|⟨h3,j',h4⟩
      ·exact absurd rfl (bC _ _ h2)
      ·
       rcases ba.owner k i q e1 with⟨h5,_⟩|⟨t,n,h5,h5'⟩
       ·exact absurd (h5.trans hm.symm) h1
       ·rcases ba.owner k' i' q Uz with⟨h6,_⟩|⟨t',n',h6,B0⟩
        ·exact absurd (h6.trans hm.symm) h3
        ·have e5:=jt i t n h5 h5';have e6:=jt i' t' n' h6 B0;rw[e5]at e6;exact Option.some.inj e6
    subst this;exact ba.inj k k' i q e1 Uz
   ·rw[ot cB]at h';rcases e2 with⟨_,rfl⟩|⟨_,j,h2⟩
    ·exact absurd h' (cE k' q)
    ·exact absurd (.inr ⟨s,q,h',by simp[h2]⟩) cB
  ·rw[ot hp]at h;by_cases cB:gw mu (L k')
   ·rw[jP cB]at h';obtain⟨i,e1,e2⟩:=BS h';rcases e2 with⟨_,rfl⟩|⟨_,j,h2⟩
    ·exact absurd h (cE k q)
    ·exact absurd (.inr ⟨s,q,h,by simp[h2]⟩) hp
   ·rw[ot cB]at h';exact hI.inj k k' s q h h'
 ·intro k s q h;by_cases hp:gw mu (L k)
  ·rw[jP hp]at h;obtain⟨i,e1,e2⟩:=BS h;rcases e2 with⟨rfl,rfl⟩|⟨I5,j,h2⟩
   ·rw[bT];exact IP k q e1
   ·rcases (bE s j h2).2.1 with cA|aj9
    ·rcases ba.owner k i q e1 with⟨h5,_⟩|⟨t,md,h5,h6⟩
     ·exact absurd (h5.trans hm.symm) I5
     ·rw[cA i t md h5]at h6;cases h6
    ·exact aj9
  ·rw[ot hp]at h;have ho:=hI.owner k s q h;have bL:s≠d:=df hid ho;by_cases hx:X s
   ·rcases hx with h|⟨r,i,hr,h|h⟩
    ·exact absurd h bL
    ·exact absurd (.inr ⟨s,q,by assumption,by simp[hr,h]⟩) hp
    ·by_cases bt:s=r
     ·exact absurd (.inr ⟨s,q,by assumption,by simp[hr,bt]⟩) hp
     ·rcases hT s r i hr bL bt h with⟨_,h⟩|⟨_,h,_⟩
      ·rw[h]at ho;cases ho
      ·rw[h]at ho;cases ho
   ·obtain⟨_,h2⟩:=mc s hx;rw[iH s bL h2];exact ho
 ·intro s hs k hk;obtain⟨h1,h2⟩:=mc s hs;refine nK k ?_
  rintro (hp|⟨s',q',hp,gg⟩)
  ·rcases hk with hk|⟨r,q,hk,_⟩<;>rw[hp]at hk<;>cases hk
  ·obtain⟨⟨r,i⟩,hr,mi⟩:=Option.map_eq_some_iff.1 gg;dsimp only at mi;subst mi;rcases hk with hk|⟨r',q,hk,gI⟩
   ·rw[hp]at hk;cases hk
   ·rw[hp]at hk;injection hk with hk _;subst hk;rcases gI with rfl|gI
    ·exact (h2 _ _ hr).1 rfl
    ·rw[(h2 _ _ hr).2]at gI;cases gI
 ·intro s hs;obtain⟨h1,h2⟩:=mc s hs;refine⟨iH s h1 h2,?_⟩;show (a.tmps.setIfInBounds d c).getD s undef=_;rw[dY,if_neg (λe=>h1 e.1)]
 ·intro s r h;by_cases bL:s=d
  ·subst bL;rw[bT]at h;exact vH r h
  ·by_cases hx:X s
   ·rcases hx with h1|⟨r1,i,hr,h1⟩
    ·exact absurd h1 bL
    ·by_cases bt:s=r1
     ·subst bt;have h0:=(bE s i hr).2.2.1;unfold V.on at h;rw[h0]at h;cases h
     ·have ho:=h1.resolve_left bt;rcases hT s r1 i hr bL bt ho with⟨h2,_⟩|⟨h2,_⟩
      ·rw[h2]at h;simp[V.on,V.root]at h
      ·rw[h2]at h;exact hI.roots s r h
   ·obtain⟨_,h2⟩:=mc s hx;rw[iH s bL h2]at h;exact hI.roots s r h
 ·intro s r hs ag ho;obtain⟨h1,h2⟩:=mc s hs;have oQ:r≠d:=df hid ho;have:T'.getD r .dead=T.getD r .dead:=by
   by_cases hx:X r
   ·rcases hx with h|⟨r1,i,hr,h|h⟩
    ·exact absurd h oQ
    ·subst h;rw[(h2 r i hr).2]at ag;cases ag
    ·by_cases bt:r=r1
     ·subst bt;rw[(h2 r i hr).2]at ag;cases ag
     ·rcases hT r r1 i hr oQ bt h with⟨_,h⟩|⟨h,_⟩
      ·rw[h]at ho;cases ho
      ·exact h
   ·obtain⟨_,h3⟩:=mc r hx;exact iH r oQ h3
  refine⟨this,?_⟩;show (a.tmps.setIfInBounds d c).getD r undef=_;rw[dY,if_neg (λe=>oQ e.1)]
 ·intro s hX;by_cases bL:s=d
  ·subst bL;rw[bT];show aB _ _ _ _ _ _ ((a.tmps.setIfInBounds s c).getD s undef);rw[dY,if_pos ⟨rfl,by rw[hI.size];exact hd⟩];exact vI _
  ·obtain⟨r,i,hr,hX⟩:=hX.resolve_left bL;have gk:∀s',s'≠d->(a.put (some d) c).tmps.getD s' undef=a.tmps.getD s' undef:=λs' h=>kD (by simpa using Ne.symm h);rw[gk s bL];by_cases bt:s=r
   ·subst bt;exact (bE s i hr).2.2.2
   ·have ho:=hX.resolve_left bt;rcases hT s r i hr bL bt ho with⟨h,_⟩|⟨h,_,h'⟩
    ·rw[h];trivial
    ·rw[h];exact h'
theorem Inv.called[af](hI:Inv w0 L0 N vs T a w L)(hd:d<N)(hid:(T.getD d .dead).idle=true){mu:Option (Nat×Nat)}{ls:List Nat}{ps:List (Ty×Mode)}(hm:m=ps.length)
  (Jb:∀r i,mu=some (r,i)->i<m) (ba:Left w w' (λk=>cL mu ls (L k)) L' ps rs) (kY:T'.length=N)
  (jt:∀j t md,ps[j]?=some (t,md)->md.back=true->mu.map (·.2)=some j)
  (bE:∀r i,mu=some (r,i)->∃t n y y2 cells,T.getD r .dead = .d none n t y/\(n≠0/\(t.depth<=n\/ls=[]))/\t.depth≠0/\T'.getD r .dead = .d none n t y2/\Form t cells (a.tmps.getD r undef)/\Own w' L' (λk=>L' k = .aq) i n t y2 [] 0 cells)
  (hT:∀s r i,mu=some (r,i)->s≠d->s≠r->(T.getD s .dead).on r=true->(T'.getD s .dead = .dead/\(T.getD s .dead).aL=false)\/(T'.getD s .dead=T.getD s .dead/\∃t,T.getD s .dead = .view r [] t))
  (iH:∀s,s≠d->(∀r i,mu=some (r,i)->s≠r/\(T.getD s .dead).on r=false)->T'.getD s .dead=T.getD s .dead)
  {V0:V} {c:Value} (bT:T'.getD d .dead=V0) (vH:∀r,V0.on r=true->r∈vs) (IP:∀k q,L' k = .own m q->V0.aL=true)
  (ew:∀r i,mu=some (r,i)->r∉ls)
  (vI:∀tm',aB (dH mu m d L L') T' tm' d V0 w' c):Inv w0 L0 N vs T' (a.put (some d) c) w' (dH mu m d L L'):=by
 have bC:∀r i,mu=some (r,i)->r≠d:=by
  intro r i h;obtain⟨t,n,y,y2,cells,h1,h2,h3,_⟩:=bE r i h;refine df hid ?_;rw[h1];simp only[V.aL,Bool.and_eq_true,bne_iff_ne];omega
 have gk:∀s',s'≠d->(a.put (some d) c).tmps.getD s' undef=a.tmps.getD s' undef:=λs' h=>kD (by simpa using Ne.symm h);refine Inv.H0 hI hd hid hm Jb ba kY jt (λr i hr=>?_) (λs r i hr bL bt ho=>?_) iH bT vH IP ew vI
 ·obtain⟨t,n,y,y2,cells,h3,h4,h5,h6,h7,h8⟩:=bE r i hr;refine⟨by rw[h3];simp only[V.aL,Bool.and_eq_true,bne_iff_ne];omega,.inr (by rw[h6];simp only[V.aL,Bool.and_eq_true,bne_iff_ne];omega),by rw[h6];rfl,?_⟩;rw[h6];refine⟨by simp,cells,h7,?_⟩;have vZ:i≠m:=by have:=Jb r i hr;omega
  have bw:∀k q',L' k = .own i q'->dH mu m d L L' k = .own r q':=by
   intro k q' hk;have hp:gw mu (L k):=by
    apply Classical.byContradiction;intro hp;have ax:k<w.heap.size:=hI.lt (λe=>hp (.inl e));have h9:=(ba.aR k ax (kH hp)).1;rw[hk]at h9;rcases kH (ls:=ls) hp with h|h<;>rw[h]at h9<;>cases h9
   rw[jP hp,hk];simp[nk,vZ,hr]
  rcases h4.2 with h4|h4
  ·exact Own.move (S:=λ_=>False) (λk hk=>hk.elim) (λk dd rest _ hk=>⟨bw k _ hk,rfl⟩) (Own.full h4 h8)
  ·refine Own.move (λk hk=>⟨.inl ?_,rfl⟩) (λk dd rest _ hk=>⟨bw k _ hk,rfl⟩) h8;have hk:L' k = .aq:=hk;by_cases hp:gw mu (L k)
   ·rw[jP hp,hk];rfl
   ·have ax:k<w.heap.size:=hI.lt (λe=>hp (.inl e));have h9:=(ba.aR k ax (kH hp)).1;rw[hk]at h9;rw[ot hp];cases ie:L k with
    | aq=>rfl
    | own s q' =>
     rw[ie,h4]at h9;exfalso;unfold cL at h9;cases mu with
     | none=>cases hr
     | some p =>
      obtain⟨r1,i1⟩:=p;dsimp only at h9;split at h9
      ·cases h9
      ·split at h9
       ·rename_i hc;simp at hc
       ·cases h9
    | other=>rw[ie]at h9;cases h9
    | free=>exact absurd (.inl ie) hp
 ·obtain⟨t,n,y,y2,cells,h3,h4,h5,h6,h7,h8⟩:=bE r i hr;rcases hT s r i hr bL bt ho with h|⟨h,t',h'⟩
  ·exact .inl h
  ·refine .inr ⟨h,by rw[h'];rfl,?_⟩;rw[h'];have hs:=hI.aV s;rw[h']at hs;obtain⟨_,h1⟩:=hs;rcases h1 with⟨_,h2,l1,n1,x1,h9,lU⟩|⟨_,_,_,h2,_⟩
   ·rw[h3]at h9;cases h9;refine⟨by rw[h6];simp only[V.deep,Bool.and_eq_true,bne_iff_ne];omega,.inl ⟨rfl,?_,none,n,y2,h6,by simp only[V.aL,Bool.and_eq_true,bne_iff_ne];omega⟩⟩;rw[gk r (bC r i hr)];exact h2
   ·rw[h3]at h2;simp[V.dE]at h2
end
def xx:(rs:List (Ty×Nat))->(cS rs).den->List (Nat×Option (Nat×(t:Ty)×t.den))
 | [],_=>[]
 | (t,n)::rs,x=>(t.sz,some (n,⟨t,x.1⟩))::xx rs x.2
def mG(vs ls:List Nat):(rs:List (Ty×Nat))->(cS rs).den->Option V
 | [(t,n)],x=>if 1000<=n then (match ls with
  | []=>some (.box none (n - 1000) t x.1)
  | _::_=>none)else if t.depth<=n then some (.d none n t x.1)else match ls with
  | []=>some (.d none n t x.1)
  | l::J5=>cond (J5.all (· == l)&&vs.contains l) (some (.d (some l) n t x.1)) none
 | rs,x=>cond (ls.isEmpty||rs.all (λp=>decide (p.1.depth<=p.2))) (some (.bF (xx rs x))) none
def tj:(ps:List (Ty×Mode))->(cG ps).den->Option V
 | [],_=>none
 | (t,.mut n)::_,x=>some (.d none n t x.1)
 | (_,.ptr _)::_,_=>none
 | (_,.bV _)::_,_=>none
 | (_,.ro)::ps,x=>tj ps x
abbrev cU:=FuncId->Option Fn
def qt:List (Ty×Mode)->Bool
 | []=>true
 | (t,.mut n)::ps=>decide (t.depth<=n)&&qt ps
 | _::ps=>qt ps
def vo(C:Ctx)(bh:cU)(vs:List Nat)(N d:Nat)(f:FuncId)(args:List Operand):M (List (Nat×V)):=
 match bh f with
 | none=>.fail
 | some F=>(lO C 0 F.ps args).bind λA=>match A.mu with
  | []=>.cJ (.pair (cS F.rs) (cG F.ps)) (F.ao A.x) λr=>match mG vs A.ls F.rs r.1 with
   | some v=>.ret [(d,v)]
   | none=>.fail
  | [(r0,_)]=>cond (A.ls.contains r0 || !decide (r0<N) || !(qt F.ps||A.ls.isEmpty)) .fail (.get r0 λu=>.cJ (.pair (cS F.rs) (cG F.ps)) (F.ao A.x) λr=>match mG vs A.ls F.rs r.1,tj F.ps r.2 with
   | some v,some u'=>(allM 0 N).bind λTs=>.bm (oA r0 u (some r0) 0 Ts) (.ret (((r0,u')::dX r0 u (some r0) 0 Ts)++[(d,v)]))
   | _,_=>.fail)
  | _=>.fail
def fw[af](P:Program)(bh:cU):Prop:=∀f F,bh f=some F->au P f F
section
variable{P:Program}{C:Ctx}{w w' w0:World}{S S':Nat->Prop}{L L' L0:Nat->aj}{s N:Nat}{vs:List Nat}{T T':List V}{tm tm':Array Value}{a:Act}
theorem w4:{ps:List (Ty×Mode)}->qt ps=true->(j:Nat)->{t:Ty}->{n:Nat}->ps[j]?=some (t,.mut n)->t.depth<=n
 | [],_,_,_,_,h=>by simp at h
 | (t0,.mut n0)::ps,h,0,t,n,hj=>by
  simp only[qt,Bool.and_eq_true,decide_eq_true_eq]at h;simp only[List.getElem?_cons_zero,Option.some.injEq,Prod.mk.injEq,Mode.mut.injEq]at hj;obtain⟨rfl,rfl⟩:=hj;exact h.1
 | (t0,.mut n0)::ps,h,j+1,t,n,hj=>by
  simp only[qt,Bool.and_eq_true]at h;exact w4 h.2 j (by simpa using hj)
 | (t0,.ro)::ps,h,0,t,n,hj=>by simp at hj
 | (t0,.ptr _)::ps,h,0,t,n,hj=>by simp at hj
 | (t0,.bV _)::ps,h,0,t,n,hj=>by simp at hj
 | (t0,.ro)::ps,h,j+1,t,n,hj=>w4 (ps:=ps) h j (by simpa using hj)
 | (t0,.ptr _)::ps,h,j+1,t,n,hj=>w4 (ps:=ps) h j (by simpa using hj)
 | (t0,.bV _)::ps,h,j+1,t,n,hj=>w4 (ps:=ps) h j (by simpa using hj)
theorem Kh:{ps:List (Ty×Mode)}->{i:Nat}->{x:(cG ps).den}->{cs:List Value}->{v:V}->fQ w L0 i ps x cs->tj ps x=some v ->
  ∃j t n y c cells,ps[j]?=some (t,.mut n)/\v = .d none n t y/\cs[j]?=some c/\Form t cells c/\Own w L0 (λk=>L0 k = .aq) (i+j) n t y [] 0 cells
 | [],_,_,_,_,_,hv=>by cases hv
 | (t,.mut n)::ps,i,x,cs,v,h,hv=>by
  simp only[fQ]at h;obtain⟨c,bj,cells,rfl,h1,h2,_⟩:=h;simp only[tj,Option.some.injEq]at hv;exact⟨0,t,n,x.1,c,cells,rfl,hv.symm,rfl,h1,h2⟩
 | (t,.ptr n)::ps,i,x,cs,v,h,hv=>by cases hv
 | (t,.bV n)::ps,i,x,cs,v,h,hv=>by cases hv
 | (t,.ro)::ps,i,x,cs,v,h,hv=>by
  simp only[fQ]at h;obtain⟨c,bj,rfl,h⟩:=h;simp only[tj]at hv;obtain⟨j,t',n,y,c',cells,h1,h2,h3,h4,h5⟩:=Kh h hv;exact⟨j+1,t',n,y,c',cells,by simpa using h1,h2,by simpa using h3,h4,by rw[show i+(j+1)=i+1+j by omega];exact h5⟩
theorem vm[af]{mu:Option (Nat×Nat)}{ls:List Nat}{ps:List (Ty×Mode)}(hI:Inv w0 L0 N vs T a w L)(ba:Left w w' (λk=>cL mu ls (L k)) L' ps rs)
  {l:Option Nat} {n:Nat} {t:Ty} {x:t.den} {q:List Nat} {o:Nat} {cs:List Value} (hl:t.depth<=n\/∀r∈ls,l=some r)
  (h:Own w' L' (λk=>L' k = .aq) m n t x q o cs):Own w' (dH mu m d L L') (SL (dH mu m d L L') l) d n t x q o cs:=by
 have bw:∀k q',L' k = .own m q'->dH mu m d L L' k = .own d q':=by
  intro k q' hk;have hp:gw mu (L k):=by
   apply Classical.byContradiction;intro hp;have ax:k<w.heap.size:=hI.lt (λe=>hp (.inl e));have h9:=(ba.aR k ax (kH hp)).1;rw[hk]at h9;rcases kH (ls:=ls) hp with h|h<;>rw[h]at h9<;>cases h9
  rw[jP hp,hk];simp[nk]
 rcases hl with hl|hl
 ·exact Own.move (S:=λ_=>False) (λk hk=>hk.elim) (λk dd rest _ hk=>⟨bw k _ hk,rfl⟩) (Own.full hl h)
 ·refine Own.move (λk hk=>⟨?_,rfl⟩) (λk dd rest _ hk=>⟨bw k _ hk,rfl⟩) h;by_cases hp:gw mu (L k)
  ·left;rw[jP hp,hk];rfl
  ·have ax:k<w.heap.size:=hI.lt (λe=>hp (.inl e));have h9:=(ba.aR k ax (kH hp)).1;rw[hk]at h9;unfold SL;rw[ot hp];cases ie:L k with
   | aq=>exact .inl rfl
   | own s q' =>
    right;rw[ie]at h9;unfold cL at h9;refine⟨s,q',hl s ?_,rfl⟩;cases mu with
    | none =>
     dsimp only at h9;split at h9
     ·rename_i hc;simpa using hc
     ·cases h9
    | some p =>
     obtain⟨r,i⟩:=p;dsimp only at h9;split at h9
     ·cases h9
     ·split at h9
      ·rename_i hc;simpa using hc
      ·cases h9
   | other=>rw[ie]at h9;cases h9
   | free=>exact absurd (.inl ie) hp
theorem ZK[af]{ps:List (Ty×Mode)}{KP:List (Ty×Nat)}(hI:Inv w0 L0 N vs T a w L)(ba:Left w w' (λk=>cL mu ls (L k)) L' ps KP):
  {rs:List (Ty×Nat)}->{o:Nat}->{x:(cS rs).den}->{cs:List Value}->(ls=[]\/∀p∈rs,p.1.depth<=p.2)->je w' L' m o rs x cs->eZ w' (dH mu m d L L') d o (xx rs x) cs
 | [],_,_,_,_,h=>h
 | (t,n)::rs,o,x,cs,hl,h=>by
  simp only[je]at h;obtain⟨c,bj,cells,rfl,h1,h2,h3⟩:=h;refine⟨c,bj,rfl,λn' t' x' hc=>?_,ZK hI ba (hl.imp id λh p hp=>h p (by simp[hp])) h3⟩;simp only[Option.some.injEq,Prod.mk.injEq]at hc;obtain⟨rfl,hc⟩:=hc;cases hc;refine⟨rfl,cells,h1,vm hI ba ?_ h2⟩;rcases hl with rfl|hl
  ·exact .inr (by simp)
  ·exact .inl (hl (t,n) (by simp))
theorem aoy[af]{ps:List (Ty×Mode)}{KP:List (Ty×Nat)}{tm':Array Value}(hI:Inv w0 L0 N vs T a w L)(ba:Left w w' (λk=>cL mu ls (L k)) L' ps KP)
  {rs:List (Ty×Nat)} {x:(cS rs).den} {cs:List Value} (bn:∀p,rs≠[p]) (hl:ls=[]\/∀p∈rs,p.1.depth<=p.2) (h:je w' L' m 0 rs x cs):aB (dH mu m d L L') T' tm' d (.bF (xx rs x)) w' (oZ cs):=by
 refine⟨cs.toArray,?_,by simpa using ZK hI ba hl h⟩
 match rs,x,cs,h with
 | [],_,cs,h =>
  obtain rfl:cs=[]:=h;rfl
 | [p],_,_,_=>exact absurd rfl (bn p)
 | p::p'::rs,x,cs,h =>
  obtain⟨c,bj,cells,rfl,_,_,h3⟩:=h;obtain⟨c',auc,cu,rfl,_⟩:=h3;rfl
theorem xj[af]{ls:List Nat}{ps:List (Ty×Mode)}{d:Nat}(hI:Inv w0 L0 N vs T a w L)(ba:Left w w' (λk=>cL mu ls (L k)) L' ps rs)
  (hm:m=ps.length) (B9:∀r∈ls,(T'.getD r .dead).deep=true) {x:(cS rs).den} {cs:List Value} {v:V} (h:jM w' L' m rs x cs) (hv:mG vs ls rs x=some v) :
  (∀r,v.on r=true->r∈vs)/\(∀k q,L' k = .own m q->v.aL=true)/\∀tm',aB (dH mu m d L L') T' tm' d v w' (oZ cs):=by
 have wz:∀k q,L' k = .own m q->∃t n,(t,n)∈rs/\((n≠0/\t.depth≠0)\/1000<=n):=by
  intro k q hk;rcases ba.owner k m q hk with⟨_,h⟩|⟨t,n,h,_⟩
  ·exact h
  ·rw[hm]at h;simp at h
 have sP:wT rs=true->(∀p,rs≠[p])->cond (ls.isEmpty||rs.all (λp=>decide (p.1.depth<=p.2))) (some (V.bF (xx rs x))) none=some v ->
   (∀r,v.on r=true->r∈vs)/\(∀k q,L' k = .own m q->v.aL=true)/\∀tm',aB (dH mu m d L L') T' tm' d v w' (oZ cs):=by
  intro aju bn hv;have h:=(jM.low aju).1 h;cases hc:(ls.isEmpty||rs.all (λp=>decide (p.1.depth<=p.2)))with
  | false=>rw[hc]at hv;cases hv
  | true =>
   rw[hc]at hv;injection hv with hv;subst hv;refine⟨λr h=>by simp[V.on,V.root]at h,λk q hk=>?_,λtm'=>aoy hI ba bn ?_ h⟩
   ·exact rfl
   ·simp only[Bool.or_eq_true,List.isEmpty_iff,List.all_eq_true,decide_eq_true_eq]at hc;exact hc
 match rs,x,h,hv,sP,wz with
 | [],x,h,hv,sP,wz=>exact sP rfl (by simp) hv
 | p::p'::rs,x,h,hv,sP,wz=>exact sP rfl (by simp) hv
 | [(t,n)],x,h,hv,sP,wz =>
  by_cases Ck:1000<=n
  ·simp only[mG,if_pos Ck]at hv;cases ls with
   | cons _ _=>cases hv
   | nil =>
    injection hv with hv;subst hv;rcases h with⟨h,_⟩|⟨_,c,rfl,g,cur,e,rfl,h1,h2,h3,h4⟩
    ·omega
    ·refine⟨λr h=>by simp[V.on,V.root]at h,λ_ _ _=>rfl,λtm'=>⟨by simp,g,cur,e,rfl,?_,h2,h3,vm hI ba (.inr (by simp)) h4⟩⟩;have hp:gw mu (L g):=by
      apply Classical.byContradiction;intro hp;have ax:g<w.heap.size:=hI.lt (λe=>hp (.inl e));have h9:=(ba.aR g ax (kH hp)).1;rw[h1]at h9;rcases kH (ls:=[]) hp with h|h<;>rw[h]at h9<;>cases h9
     rw[jP hp,h1];simp[nk]
  have h:=((or_iff_left (b:=_) (λhh=>Ck hh.1)).1 h).2;simp only[je]at h;obtain⟨c,bj,cells,rfl,h1,h2,rfl⟩:=h;have ik:∀l,∀k q,L' k = .own m q->(V.d l n t x.1).aL=true:=by
   intro l k q hk;obtain⟨t',n',g1,g2⟩:=wz k q hk;simp only[List.mem_singleton,Prod.mk.injEq]at g1;obtain⟨rfl,rfl⟩:=g1;simp only[V.aL,Bool.and_eq_true,bne_iff_ne];exact g2.resolve_right Ck
  simp only[mG,if_neg Ck]at hv;split at hv
  ·rename_i hd;injection hv with hv;subst hv;exact⟨λr h=>by simp[V.on,V.root]at h,ik none,λtm'=>⟨by simp,cells,h1,vm hI ba (.inl hd) h2⟩⟩
  ·cases ls with
   | nil =>
    injection hv with hv;subst hv;exact⟨λr h=>by simp[V.on,V.root]at h,ik none,λtm'=>⟨by simp,cells,h1,vm hI ba (.inr (by simp)) h2⟩⟩
   | cons l J5 =>
    dsimp only at hv;cases hc:(J5.all (· == l)&&vs.contains l)with
    | false=>rw[hc]at hv;cases hv
    | true =>
     rw[hc]at hv;injection hv with hv;subst hv;simp only[Bool.and_eq_true,List.all_eq_true,beq_iff_eq]at hc;refine⟨λr h=>?_,ik _,λtm'=>⟨λr hr=>?_,cells,h1,vm hI ba (.inr λr hr=>?_) h2⟩⟩
     ·have:l=r:=by simpa[V.on,V.root]using h
      rw[<-this];simpa using hc.2
     ·injection hr with hr;exact B9 r (by rw[hr];simp)
     ·rcases List.mem_cons.1 hr with rfl|hr
      ·rfl
      ·rw[hc.1 r hr]
theorem K6[af](hI:Inv w0 L0 N vs T a w L){bh:cU}(ee:fw P bh){f:FuncId}{args:Array Operand}{cH:Array TypeId}{d:Nat}  
  (ho:o.op = .call { callee:=.value (.func f),args,argTypes:=cH }) (ay:o.dst=some d) (hd:d<N) (hid:(T.getD d .dead).idle=true)
  (h:(vo C bh vs N d f args.toList).ai T ups log):Step P o w0 L0 N vs (ah T ups) a w:=by
 unfold vo at h;split at h
 ·exact h.elim
 ·rename_i F hF;obtain⟨⟨fn,iL,gh,nt⟩,az⟩:=ee f F hF;have hb:=M.an h;clear h;obtain⟨A,l1,l2,rfl,h1,h⟩:=hb;obtain⟨ew,gg,pZ,hY⟩:=HH hI h1;have aN:=Go.Conc.run_call_body (P:=P) (a:=a) (w:=w) ho iL gh nt;have ma:∀r∈A.ls,r≠d:=λr hr=>df hid (V.fj (ew r hr));have fin:∀(mu:Option (Nat×Nat)),A.mu=mu.toList->(∀r i,mu=some (r,i)->r∉A.ls)->∀r,F.ao A.x=some r ->
    (∀w' cs L',Left w w' (λk=>cL mu A.ls (L k)) L' F.ps F.rs->jM w' L' F.ps.length F.rs r.1 cs->fQ w' L' 0 F.ps r.2 (args.toList.map a.eval)->Inv w0 L0 N vs (ah T ups) (a.put (some d) (oZ cs)) w' (dH mu F.ps.length d L L')) ->
    Step P o w0 L0 N vs (ah T ups) a w:=by
   intro mu V4 ajy r fe hinv K Q hK;unfold Oper.wp;rw[aN,Oper.upon_enter];have gf:∀r i,mu=some (r,i)->(r,i)∈A.mu:=λr i h=>by rw[V4,h];simp
   have nC:jL w (λk=>cL mu A.ls (L k)) F.ps:=by
    refine⟨λk hk=>by rw[hI.free k hk];rfl,λk k' s q h h'=>?_,λk s q h=>?_,af.aR hI.fr.hG λk hk h0=>⟨?_,(hI.fr.aR k hk h0).2⟩⟩
    ·obtain⟨r1,e1,e2⟩:=lE h;obtain⟨r2,e3,e4⟩:=lE h';rw[e1]at e3;injection e3 with e3;injection e3 with e3 _;subst e3;exact hI.inj k k' _ _ e2 e4
    ·obtain⟨r1,e1,e2⟩:=lE h;obtain⟨_,t,n,y,h2,h3,h4,_⟩:=gg r1 s (gf r1 s e1);exact⟨t,.mut n,by simpa using h2,by simp only[Mode.owned,Bool.and_eq_true,bne_iff_ne];omega⟩
    ·rw[(hI.fr.aR k hk h0).1];rcases h0 with h0|h0<;>rw[h0]<;>simp[cL]
   have dK:=hY (λk=>cL mu A.ls (L k)) (λk hk=>by rw[hk];rfl) (λk r q hr hk=>by
    rw[hk];unfold cL;cases mu with
    | none=>dsimp only;rw[if_pos (by simpa using hr)]
    | some p =>
     obtain⟨r0,i⟩:=p;dsimp only;rw[if_neg (λe:r=r0=>ajy r0 i rfl (by rw[<-e];exact hr)),if_pos (by simpa using hr)]) (λk r j q hm hk=>by
    rw[hk];rw[V4]at hm;cases mu with
    | none=>simp at hm
    | some p =>
     obtain⟨r0,i⟩:=p;simp only[Option.toList_some,List.mem_singleton,Prod.mk.injEq]at hm;obtain⟨rfl,rfl⟩:=hm;simp[cL])
   refine Calls.mono (az A.x r fe w _ (args.map a.eval) nC (by simpa using dK)) ?_
   rintro e w' ⟨cs,L',rfl,ba,cj,kf⟩
   dsimp only;rw[ay];exact hK _ _ _ (hinv w' cs L' ba cj (by simpa using kf))
  rcases fc:A.mu with _|⟨⟨r0,i⟩,_|⟨p2,rest⟩⟩
  ·
   rw[fc]at h;obtain⟨r,fe,h⟩:=h;dsimp only at h;split at h
   ·rename_i v hv;obtain⟨rfl,_⟩:=h;refine fin none (by simpa using fc) (by simp) r fe (λw' cs L' ba cj kf=>?_);have nG:∀(j:Nat) (t:Ty) (m:Mode),F.ps[j]?=some (t,m)->m.back=true->False:=by
     intro j t m hj hm;obtain⟨n,rfl⟩:=TM h1 hj hm;obtain⟨r',aW⟩:=pZ j t n hj;rw[fc]at aW;simp at aW
    have bT:(ah T [(d,v)]).getD d .dead=v:=by
     show (T.set d v).getD d .dead=v;rw[aH,if_pos ⟨rfl,by rw[hI.len];exact hd⟩]
    have bq:∀s,s≠d->(ah T [(d,v)]).getD s .dead=T.getD s .dead:=by
     intro s hs;show (T.set d v).getD s .dead=_;rw[aH,if_neg (λe=>hs e.1)]
    obtain⟨k1,k2,k3⟩:=xj (T':=ah T [(d,v)]) (d:=d) hI ba rfl (λr hr=>by rw[bq r (ma r hr)];exact ew r hr) cj hv;exact Inv.called hI hd hid rfl (λr i h=>by cases h) ba (by rw[cF,hI.len]) (λj t n hj hm=>(nG j t n hj hm).elim) (λr i h=>by cases h) (λs r i h=>by cases h) (λs hs _=>bq s hs) bT k1 k2 (λr i h=>by cases h) k3
   ·exact h.elim
  ·
   rw[fc]at h;dsimp only at h;cases hc:(A.ls.contains r0 || !decide (r0<N) || !(qt F.ps||A.ls.isEmpty))with
   | true=>rw[hc]at h;exact h.elim
   | false =>
    rw[hc]at h;obtain⟨aF,rfl,h⟩:=h;obtain⟨r,fe,h⟩:=h;dsimp only at h;rw[Bool.or_eq_false_iff,Bool.or_eq_false_iff,Bool.not_eq_false',Bool.not_eq_false',decide_eq_true_eq]at hc;obtain⟨⟨eu,dr⟩,lX⟩:=hc;have ju:r0∉A.ls:=λhm=>by rw[List.contains_iff_mem.2 hm]at eu;cases eu
    split at h
    ·rename_i v u' hv qc;obtain⟨Ts,l3,l4,rfl,dQ,jq,nM⟩:=M.an h;obtain⟨rfl,_⟩:=nM;have bI:Ts=T:=by rw[lL dQ (by rw[Nat.zero_add,hI.len])];rfl
     subst bI;obtain⟨_,t,n,y,h2,h3,h4,h5,h6⟩:=gg r0 i (by rw[fc];simp);simp only[Nat.sub_zero]at h2 h6;have sK:i<F.ps.length:=(List.getElem?_eq_some_iff.1 h2).1;have wB:r0≠d:=df hid (by rw[h5];simp only[V.aL,Bool.and_eq_true,bne_iff_ne];omega);have jt:∀(j:Nat) (t:Ty) (n:Nat),F.ps[j]?=some (t,Mode.mut n)->j=i:=by
      intro j t n hj;obtain⟨r',aW⟩:=pZ j t n hj;rw[fc]at aW;simp only[List.mem_singleton,Prod.mk.injEq]at aW;omega
     refine fin (some (r0,i)) (by simpa using fc) (λr' i' h=>by injection h with h;injection h with h _;subst h;exact ju) r fe (λw' cs L' ba cj kf=>?_);have hM:ah Ts (((r0,u')::dX r0 (Ts.getD r0 .dead) (some r0) 0 Ts)++[(d,v)])=(ah Ts ((r0,u')::dX r0 (Ts.getD r0 .dead) (some r0) 0 Ts)).set d v:=by
      rw[lx];rfl
     have nD:(ah Ts ((r0,u')::dX r0 (Ts.getD r0 .dead) (some r0) 0 Ts)).length=N:=by rw[cF,hI.len]
     have bT:(ah Ts (((r0,u')::dX r0 (Ts.getD r0 .dead) (some r0) 0 Ts)++[(d,v)])).getD d .dead=v:=by
      rw[hM,aH,if_pos ⟨rfl,by rw[nD];exact hd⟩]
     have bq:∀s,s≠d->(ah Ts (((r0,u')::dX r0 (Ts.getD r0 .dead) (some r0) 0 Ts)++[(d,v)])).getD s .dead=(ah Ts ((r0,u')::dX r0 (Ts.getD r0 .dead) (some r0) 0 Ts)).getD s .dead:=by
      intro s hs;rw[hM,aH,if_neg (λe=>hs e.1)]
     have eH:∀s v,(s,v)∈((r0,u')::dX r0 (Ts.getD r0 .dead) (some r0) 0 Ts)->(s=r0/\v=u')\/(v = .dead/\s≠r0/\((Ts.getD s .dead).on r0&&s != r0&&some r0 != some s && !ca (Ts.getD r0 .dead) (some r0) (Ts.getD s .dead))=true):=by
      intro s v hm;rcases List.mem_cons.1 hm with hm|hm
      ·injection hm with h1 h2;exact .inl ⟨h1,h2⟩
      ·obtain⟨h1,_,_,h2⟩:=(vt s v).1 hm;simp only[Nat.sub_zero]at h2;refine .inr ⟨h1,?_,h2⟩
       rintro rfl
       simp at h2
     have bE:(ah Ts ((r0,u')::dX r0 (Ts.getD r0 .dead) (some r0) 0 Ts)).getD r0 .dead=u':=by
      refine iE (by rw[hI.len];exact dr) (by simp) (λv hm=>?_);rcases eH r0 v hm with⟨_,h⟩|⟨_,h,_⟩
      ·exact h
      ·exact absurd rfl h
     have oH:∀s,s≠r0->(Ts.getD s .dead).on r0=true->((ah Ts ((r0,u')::dX r0 (Ts.getD r0 .dead) (some r0) 0 Ts)).getD s .dead = .dead/\(Ts.getD s .dead).aL=false) \/
       ((ah Ts ((r0,u')::dX r0 (Ts.getD r0 .dead) (some r0) 0 Ts)).getD s .dead=Ts.getD s .dead/\∃t,Ts.getD s .dead = .view r0 [] t):=by
      intro s hs ag;have il:s<N:=by
       rcases Nat.lt_or_ge s N with h|h
       ·exact h
       ·rw[eF (by rw[hI.len];exact h)]at ag;simp[V.on,V.root]at ag
      cases hk:ca (Ts.getD r0 .dead) (some r0) (Ts.getD s .dead)with
      | true =>
       refine .inr ⟨fa _ _ _ (λhm=>?_),?_⟩
       ·obtain⟨u,hu,he⟩:=List.mem_map.1 hm;rcases eH s u.2 (by rw[<-he];exact hu)with⟨h,_⟩|⟨_,_,h⟩
        ·exact hs h
        ·rw[hk]at h;simp at h
       ·generalize Cq:Ts.getD s .dead=vv at hk ag;cases vv with
        | view r2 p2 t2 =>
         have:r2=r0:=by simpa[V.on,V.root]using ag
         subst this;cases p2 with
         | nil=>exact⟨t2,rfl⟩
         | cons _ _=>simp[ca]at hk
        | ptr _ _ _ =>
         rw[h5]at hk;simp[ca,V.dE]at hk
        | dead=>simp[ca]at hk
        | bF _=>simp[ca]at hk
        | d _ _ _ _=>simp[ca]at hk
        | box _ _ _ _=>simp[ca]at hk
        | rp _ _ _=>simp[ca]at hk
        | hole _ _=>simp[ca]at hk
        | part _ _ _ _ _=>simp[ca]at hk
        | bO _ _ _ _=>simp[ca]at hk
        | same _ _=>simp[ca]at hk
      | false =>
       have hc:((Ts.getD s .dead).on r0&&s != r0&&some r0 != some s && !ca (Ts.getD r0 .dead) (some r0) (Ts.getD s .dead))=true:=by
        rw[ag,hk];simp only[Bool.and_eq_true,bne_iff_ne,Bool.not_false,and_true,true_and];exact⟨hs,λe=>hs (Option.some.inj e).symm⟩
       refine .inl ⟨iE (by rw[hI.len];exact il) ?_ (λv hm=>?_),?_⟩
       ·rw[List.mem_map];exact⟨(s,.dead),List.mem_cons_of_mem _ ((vt s .dead).2 ⟨rfl,Nat.zero_le _,by rw[Nat.zero_add,hI.len];exact il,by simpa using hc⟩),rfl⟩
       ·rcases eH s v hm with⟨h,_⟩|⟨h,_⟩
        ·exact absurd h hs
        ·exact h
       ·exact Ih jq s (by rw[hI.len];exact il) (by simpa using hc)
     have oG:∀s,s≠r0->(Ts.getD s .dead).on r0=false->(ah Ts ((r0,u')::dX r0 (Ts.getD r0 .dead) (some r0) 0 Ts)).getD s .dead=Ts.getD s .dead:=by
      intro s hs ag;refine fa _ _ _ (λhm=>?_);obtain⟨u,hu,he⟩:=List.mem_map.1 hm;rcases eH s u.2 (by rw[<-he];exact hu)with⟨h,_⟩|⟨_,_,h⟩
      ·exact hs h
      ·rw[ag]at h;simp at h
     have we:∀r∈A.ls,((ah Ts (((r0,u')::dX r0 (Ts.getD r0 .dead) (some r0) 0 Ts)++[(d,v)])).getD r .dead).deep=true:=by
      intro r hr;have gm:r≠r0:=λe=>ju (e▸hr);have ho:=V.fj (ew r hr);rw[bq r (ma r hr)];cases ag:(Ts.getD r .dead).on r0 with
      | false=>rw[oG r gm ag];exact ew r hr
      | true =>
       rcases oH r gm ag with⟨_,h⟩|⟨h,_⟩
       ·rw[h]at ho;cases ho
       ·rw[h];exact ew r hr
     obtain⟨j,t',n',y',c',cells,m1,m2,m3,m4,m5⟩:=Kh kf qc;have cO:=jt j t' n' m1;subst cO;rw[h2]at m1;injection m1 with m1;injection m1 with m1 lj;injection lj with lj;subst m1 lj;rw[h6]at m3;injection m3 with m3;subst m3;rw[Nat.zero_add]at m5;obtain⟨k1,k2,k3⟩:=xj (T':=ah Ts (((r0,u')::dX r0 (Ts.getD r0 .dead) (some r0) 0 Ts)++[(d,v)])) (d:=d) hI ba rfl we cj hv;refine Inv.called hI hd hid rfl (λr i h=>by injection h with h;injection h with _ h;subst h;exact sK) ba (by rw[cF,hI.len]) (λj' t n hj hm=>by obtain⟨n,rfl⟩:=TM h1 hj hm;rw[jt j' t n hj];rfl) ?_ ?_ ?_ bT k1 k2 (λr i h=>by injection h with h;injection h with h _;subst h;exact ju) k3
     ·intro r i h;injection h with h;injection h with h h';subst h h';exact⟨t,n,y,y',cells,h5,⟨h3,(Bool.or_eq_true_iff.1 lX).imp (λh=>w4 h _ h2) List.isEmpty_iff.1⟩,h4,by rw[bq r0 wB,bE,m2],m4,m5⟩
     ·intro s r i h bL bt ag;injection h with h;injection h with h h';subst h h';rw[bq s bL];exact oH s bt ag
     ·intro s bL hs;obtain⟨e1,e2⟩:=hs r0 j rfl;rw[bq s bL];exact oG s e1 e2
    ·exact h.elim
  ·rw[fc]at h;exact h.elim
end
structure LG (t:Ty) where
 xs:List t.den
 n:Nat
 s:Option Nat
def HN(vs:List Nat)(e:TypeId)(t:Ty)(x:Operand):M (LG t):=
 match x with
 | .tmp s=>.get s λv=>match v with
  | .d none (n+1) t' y=>if h:t' = .slice e t then (if vs.contains s=true then .fail else .ret ⟨(h▸y:(Ty.slice e t).den),n,some s⟩)else .fail
  | _=>.fail
 | .const (.slice none 0 0)=>.ret ⟨[],t.depth,none⟩
 | _=>.fail
structure S8 (t:Ty) where
 ys:List t.den
 n:Option Nat
 s:Option Nat
def K2(vs:List Nat)(e:TypeId)(t:Ty)(x:Operand):M (S8 t):=
 match x with
 | .tmp s=>.get s λv =>
   if t.depth=0 then (mF s v).bind λz=>if h:z.2.1 = .slice e t then .ret ⟨(h▸z.2.2:(Ty.slice e t).den),none,none⟩else .fail
   else match v with
   | .d none 0 t' y=>if h:t' = .slice e t then .ret ⟨(h▸y:(Ty.slice e t).den),some 0,none⟩else .fail
   | .d none (n+1) t' y=>if h:t' = .slice e t then (if vs.contains s=true then .fail else .ret ⟨(h▸y:(Ty.slice e t).den),some n,some s⟩)else .fail
   | _=>.fail
 | .const (.slice none 0 0)=>.ret ⟨[],none,none⟩
 | _=>.fail
def jO(b:Nat):Option Nat->Nat
 | none=>b
 | some k=>min b k
def HB(C:Ctx)(vs:List Nat)(d:Nat)(X X2:TypeId)(s x:Operand):M (List (Nat×V)):=
 match C.ty X with
 | some (.slice e t)=>match C.ty X2 with
  | some (.slice _ _)=>(HN vs e t s).bind λb=>(K2 vs e t x).bind λc =>
    if t.sz≠0/\C.bytes e≠0/\(c.s.isNone||c.s != b.s)=true then
     .bm (decide ((b.xs.length+c.ys.length)*C.bytes e<=140737488355328))
      (.ret ((b.s.toList++c.s.toList).map (λs=>(s,V.dead))++[(d,.d none (jO b.n c.n+1) (.slice e t) (b.xs++c.ys))]))
    else .fail
  | _=>.fail
 | _=>.fail
def gz(d so:Nat)(sx:Option Nat)(kept:Bool)(b1 b2 m:Nat):Nat->List Nat->aj:=λs z =>
 if s=so then match z with
  | [y]=>if y=0/\kept=true then .own d [0]else .other
  | z0::y::rest=>if z0=0/\y<b1 then (if rest.length<m then .own d (0::y::rest)else .aq)else .other
  | []=>.other
 else if sx=some s then match z with
  | z0::y::rest=>if z0=0/\y<b2 then (if rest.length<m then .own d (0::(b1+y)::rest)else .aq)else .other
  | _=>.other
 else if s=d then .other else .own s z
theorem oq{so:Nat}{sx:Option Nat}{kept:Bool}{b1 b2 s:Nat}{z:List Nat}{s':Nat}{z':List Nat}(h:gz d so sx kept b1 b2 m s z = .own s' z'):
  (s=so/\z=[0]/\kept=true/\s'=d/\z'=[0])\/(s=so/\∃y rest,z=0::y::rest/\y<b1/\s'=d/\z'=0::y::rest) \/
  (s≠so/\sx=some s/\∃y rest,z=0::y::rest/\y<b2/\s'=d/\z'=0::(b1+y)::rest)\/(s≠so/\sx≠some s/\s≠d/\s'=s/\z'=z):=by
 unfold gz at h;split at h
 ·rename_i hs;split at h
  ·split at h
   ·rename_i hc;obtain⟨rfl,hk⟩:=hc;injection h with h1 h2;exact .inl ⟨hs,rfl,hk,h1.symm,h2.symm⟩
   ·cases h
  ·split at h
   ·rename_i hc;obtain⟨rfl,hy⟩:=hc;split at h
    ·injection h with h1 h2;exact .inr (.inl ⟨hs,_,_,rfl,hy,h1.symm,h2.symm⟩)
    ·cases h
   ·cases h
  ·cases h
 ·rename_i hs;split at h
  ·rename_i hx;split at h
   ·split at h
    ·rename_i hc;obtain⟨rfl,hy⟩:=hc;split at h
     ·injection h with h1 h2;exact .inr (.inr (.inl ⟨hs,hx,_,_,rfl,hy,h1.symm,h2.symm⟩))
     ·cases h
    ·cases h
   ·cases h
  ·rename_i hx;split at h
   ·cases h
   ·rename_i hd;injection h with h1 h2;exact .inr (.inr (.inr ⟨hs,hx,hd,h1.symm,h2.symm⟩))
theorem ahB[af]{so:Nat}{sx:Option Nat}{kept:Bool}{b1 b2:Nat}:fF (gz d so sx kept b1 b2 m) (λs=>s=d\/s=so\/sx=some s):=by
 refine⟨λs z hX=>?_,λs z s' z' hX h=>?_,λs z s2 z2 s' z' h1 h2=>?_,λs z=>?_⟩
 ·have h1:=not_or.1 hX;have h2:=not_or.1 h1.2;simp[gz,h1.1,h2.1,h2.2]
 ·rcases oq h with⟨_,_,_,rfl,_⟩|⟨_,_,_,_,_,rfl,_⟩|⟨_,_,_,_,_,_,rfl,_⟩|⟨h1,h2,h3,rfl,_⟩
  ·exact .inl rfl
  ·exact .inl rfl
  ·exact .inl rfl
  ·exact hX
 ·rcases oq h1 with⟨rfl,rfl,_,rfl,rfl⟩|⟨rfl,y,rest,rfl,hy,rfl,rfl⟩|⟨hs,hx,y,rest,rfl,hy,rfl,rfl⟩|⟨hs,hx,hd,rfl,rfl⟩
  ·rcases oq h2 with⟨rfl,rfl,_,_,_⟩|⟨_,_,_,_,_,_,h⟩|⟨_,_,_,_,_,_,_,h⟩|⟨_,_,hd,h,_⟩
   ·exact⟨rfl,rfl⟩
   ·simp at h
   ·simp at h
   ·exact absurd h.symm hd
  ·rcases oq h2 with⟨_,_,_,_,h⟩|⟨rfl,y',fD,rfl,_,_,h⟩|⟨_,_,_,_,_,_,_,h⟩|⟨_,_,hd,h,_⟩
   ·simp at h
   ·simp only[List.cons.injEq,true_and]at h;obtain⟨rfl,rfl⟩:=h;exact⟨rfl,rfl⟩
   ·simp only[List.cons.injEq,true_and]at h;omega
   ·exact absurd h.symm hd
  ·rcases oq h2 with⟨_,_,_,_,h⟩|⟨_,_,_,_,_,_,h⟩|⟨_,lh,y',fD,rfl,_,_,h⟩|⟨_,_,hd,h,_⟩
   ·simp at h
   ·simp only[List.cons.injEq,true_and]at h;omega
   ·simp only[List.cons.injEq,true_and]at h;obtain⟨h,rfl⟩:=h;rw[hx]at lh;cases lh;exact⟨rfl,by rw[show y=y' by omega]⟩
   ·exact absurd h.symm hd
  ·rcases oq h2 with⟨_,_,_,h,_⟩|⟨_,_,_,_,_,h,_⟩|⟨_,_,_,_,_,_,h,_⟩|⟨_,_,_,h3,h4⟩
   ·exact absurd h hd
   ·exact absurd h hd
   ·exact absurd h hd
   ·exact⟨h3,h4⟩
 ·unfold gz
  repeat' split
  all_goals simp
structure fP (P:Program) (sz:Nat) (X:TypeId) (v:Value) (n:Nat) (news:List Value) (w:World):Prop where
 b7:(∃e,P.underlying X=some (.slice e))\/P.underlying X=some .string
 count:∀w1:World,(Builtin.lenOf v).run P w1 = .ok n w1
 now:(Builtin.firstCells sz n v).run P w = .ok news.toArray w
 next:(Builtin.firstCells sz n v).run P w.drew = .ok news.toArray w.drew
 total:news.length=n*sz
 single:∀u∈news,u.oneCell'=true
section
variable{P:Program}
theorem fP.row{w:World}(hX:P.underlying X=some (.slice e))(A:Addr)(n c:Nat)(h1:news.length=n*sz)(h2:∀i u,news[i]?=some u->w.cell? (A.add i)=some u)(h3:∀u∈news,u.oneCell'=true):
  fP P sz X (.slice (some A) n c) n news w where
 b7:=.inl ⟨e,hX⟩
 count:=λ_=>rfl
 now:=run_firstCells_some w sz n A n c news h1 h2
 next:=run_firstCells_some w.drew sz n A n c news h1 (by simpa using h2)
 total:=h1
 single:=h3
theorem fP.none{w:World}{X:TypeId}(hX:P.underlying X=some (.slice e))(c:Nat):fP P sz X (.slice none 0 c) 0 [] w where
 b7:=.inl ⟨e,hX⟩
 count:=λ_=>rfl
 now:=run_firstCells_none w sz 0 0 c
 next:=run_firstCells_none w.drew sz 0 0 c
 total:=by simp
 single:=by simp
theorem ahF{w:World}{X2 ty:TypeId}{i:TypeInfo}(hX:P.underlying X=some (.slice e))(hi:P.info? e=some i){g len cap:Nat}{v:Value}(h:fP P i.size X2 v n news w)(hr:len+n<=cap)
  (h1:∀k,k<news.length->(w.cell? ⟨g,len*i.size+k,none⟩).isSome=true) (h2:∀k,k<news.length->w.frozen? ⟨g,len*i.size+k,none⟩=false) :
  (Builtin.append_ #[X,X2] ty #[.slice (some ⟨g,0,none⟩) len cap,v]).run P w = .ok (.slice (some ⟨g,0,none⟩) (len+n) cap) (w.setCells g (len*i.size) news):=by
 have a7:=run_storeCells_cells (P:=P) g (len*i.size) news 0 w (by simpa using h1) (by simpa using h2) h.single;rw[Nat.add_zero]at a7;rcases h.b7 with⟨e',hk⟩|hk<;>simp[Builtin.append_,run_underlying hX,run_underlying hk,sizeOf,typeInfo,hi,h.count,hr,h.now,Addr.add_lit,a7]
theorem ahE{w:World}{ty:TypeId}{i:TypeInfo}(hX:P.underlying X=some (.slice e))(hi:P.info? e=some i){v:Value}(h:fP P i.size X2 v 0 [] w):
  (Builtin.append_ #[X,X2] ty #[.slice none 0 0,v]).run P w = .ok (.slice none 0 0) w:=by
 rcases h.b7 with⟨e',hk⟩|hk<;>simp[Builtin.append_,run_underlying hX,run_underlying hk,sizeOf,typeInfo,hi,h.count,h.now,storeCells]
theorem ahD{w:World}{X2 ty:TypeId}{i:TypeInfo}{z:Value}(hX:P.underlying X=some (.slice e))(hi:P.info? e=some i)(hz:i.zero=some z){A:Option Addr}{len cap:Nat}{iU:List Value}{v:Value}
  (h0:(Builtin.firstCells i.size len (.slice A len cap)).run P w.drew = .ok iU.toArray w.drew) (h:fP P i.size X2 v n news w) (hg:cap<len+n) (hm:len+n<=maxLen) (hb:(len+n)*i.bytes<=140737488355328) :
  (Builtin.append_ #[X,X2] ty #[.slice A len cap,v]).run P w = .ok (.slice (some ⟨w.heap.size,0,none⟩) (len+n) (grownCap w (len+n) cap e))
   (w.drew.alloc (.cells ((iU++news).toArray++Builtin.zeroCells z.cells (grownCap w (len+n) cap e - (len+n))) e)):=by
 have hf:=growslice_fits hg hb;have e1:¬(len+n<=cap):=by omega
 have e2:¬(9223372036854775807<((len:Int)+(n:Int))):=by simp only[maxLen]at hm;omega
 have e3:¬(281474976710656<Builtin.nextslicecap (len+n) cap*i.bytes):=by omega
 rcases h.b7 with⟨e',hk⟩|hk<;>
  (simp[Builtin.append_,run_underlying hX,run_underlying hk,sizeOf,typeInfo,zeroValue,hi,hz,h.count,e1,e2,e3,Question.forced,h.next,h0,newRow,grownCap]
   congr 2;apply Array.ext';simp[List.append_assoc])
end
section
variable{P:Program}{C:Ctx}{w w' w0:World}{S S':Nat->Prop}{L L' L0:Nat->aj}{s N:Nat}{vs:List Nat}{T T':List V}{tm tm':Array Value}{a:Act}
theorem qQ{l l':List Value}{j:Nat}(h:∀k,k<sz->l[i+k]?=l'[j+k]?):(l.drop i).take sz=(l'.drop j).take sz:=by
 apply List.ext_getElem?;intro k;rw[List.getElem?_take,List.getElem?_take];split
 ·rw[List.getElem?_drop,List.getElem?_drop];exact h k (by assumption)
 ·rfl
theorem Lv{l:List Value}(h:k<sz):((l.drop i).take sz)[k]?=l[i+k]?:=by
 rw[List.getElem?_take,if_pos h,List.getElem?_drop]
theorem U4[af](sz:Nat):(n:Nat)->(f:∀j,j<n->List Value)->(∀j h,(f j h).length=sz)->∃news:List Value,news.length=n*sz/\∀j h,(news.drop (j*sz)).take sz=f j h
 | 0,_,_=>⟨[],by simp,λj h=>absurd h (by omega)⟩
 | n+1,f,hl=>by
  obtain⟨news,h1,h2⟩:=U4 sz n (λj h=>f j (by omega)) (λj h=>hl j _);refine⟨news++f n (by omega),by rw[List.length_append,h1,hl,Nat.add_mul,Nat.one_mul],λj h=>?_⟩;by_cases hj:j<n
  ·rw[<-h2 j hj];refine qQ λk hk=>?_;have:(j+1)*sz<=n*sz:=Nat.mul_le_mul_right _ (by omega);rw[Nat.add_mul,Nat.one_mul]at this;rw[List.getElem?_append_left (by omega)]
  ·obtain rfl:j=n:=by omega
   rw[<-h1,List.drop_left,List.take_of_length_le (by rw[hl];exact Nat.le_refl _)]
theorem H7[af]{p:Nat->Value->Prop}(hl:news.length=n*sz)(h:∀j,j<n->∀k u,((news.drop (j*sz)).take sz)[k]?=some u->p (j*sz+k) u):∀i u,news[i]?=some u->p i u:=by
 intro i u hu;have hi:i<n*sz:=by
  rw[<-hl];exact (List.getElem?_eq_some_iff.1 hu).1
 have bp:0<sz:=by
  rcases Nat.eq_zero_or_pos sz with h0|h0
  ·subst h0;simp at hi
  ·exact h0
 have h1:i / sz<n:=(Nat.div_lt_iff_lt_mul bp).2 hi;have h2:i / sz*sz+i % sz=i:=by rw[Nat.mul_comm];exact Nat.div_add_mod i sz
 have:=h (i / sz) h1 (i % sz) u (by rw[Lv (Nat.mod_lt _ bp),h2];exact hu)
 rwa [h2]at this
theorem Zj:(vs:List Value)->(o:Nat)->(w:World)->(w.setCells g o vs).drawn=w.drawn
 | [],_,_=>rfl
 | v::vs,o,w=>by rw[World.setCells,Zj vs];rfl
theorem Zk:(vs:List Value)->(o:Nat)->(w:World)->(cur:Array Value)->(e:TypeId)->w.heap[g]?=some (.cells cur e (0,0))->o+vs.length<=cur.size ->
  (w.setCells g o vs).os=w.os/\(w.setCells g o vs).tape=w.tape/\(w.setCells g o vs).output=w.output/\(w.setCells g o vs).heap.size=w.heap.size/\(∀k,k≠g->(w.setCells g o vs).heap[k]?=w.heap[k]?) /\
  ∃cur':Array Value,(w.setCells g o vs).heap[g]?=some (.cells cur' e (0,0))/\cur'.size=cur.size/\∀i,cur'[i]?=if o<=i/\i<o+vs.length then vs[i - o]? else cur[i]?
 | [],o,w,cur,e,h,_=>⟨rfl,rfl,rfl,rfl,λ_ _=>rfl,cur,h,rfl,λi=>by rw[if_neg (by simp)]⟩
 | v::vs,o,w,cur,e,h,hb=>by
  simp only[List.length_cons]at hb;have hg:(w.setCell ⟨g,o,none⟩ v).heap[g]?=some (.cells (cur.setIfInBounds o v) e (0,0)):=by
   simp[World.setCell,Array.getElem?_modify,h]
  obtain⟨h1,h2,h3,h4,h5,cur',h6,h7,h8⟩:=Zk vs (o+1) (w.setCell ⟨g,o,none⟩ v) (cur.setIfInBounds o v) e hg (by simp;omega);rw[World.setCells];refine⟨h1,h2,h3,by rw[h4];simp[World.setCell],λk hk=>?_,cur',h6,by rw[h7];simp,λi=>?_⟩
  ·rw[h5 k hk];simp only[World.setCell,Array.getElem?_modify];rw[if_neg (Ne.symm hk)]
  ·rw[h8,Array.getElem?_setIfInBounds];simp only[List.length_cons];by_cases hi:i=o
   ·subst hi;rw[if_neg (by omega),if_pos rfl,if_pos (by omega),if_pos (by omega)];simp
   ·by_cases dm:o+1<=i/\i<o+1+vs.length
    ·rw[if_pos dm,if_pos (by omega),show i - o=(i - (o+1))+1 by omega,List.getElem?_cons_succ]
    ·rw[if_neg dm,if_neg (by omega),if_neg (by omega)]
end
section
variable{P:Program}{C:Ctx}{w w' w0:World}{S S':Nat->Prop}{L L' L0:Nat->aj}{s N:Nat}{vs:List Nat}{T T':List V}{tm tm':Array Value}{a:Act}
theorem ahN[af](hI:Inv w0 L0 N vs T a w L){x:Operand}{b:LG t}(h:(HN vs e t x).ai T b log)(d:Nat):
  ∃so,((b.s=some so/\so∉vs/\(T.getD so .dead).aL=true/\(T.getD so .dead).root=none)\/(b.s=none/\so=d))/\Own w L (SL L none) so (b.n+1) (.slice e t) b.xs [] 0 [a.eval x]:=by
 cases x with
 | tmp s =>
  obtain⟨aF,rfl,h⟩:=h;have hs:=hI.aV s;dsimp only at h;generalize hv:T.getD s .dead=v at h hs;split at h
  ·rename_i n t' y;split at h
   ·rename_i ht;subst ht;split at h
    ·exact h.elim
    ·rename_i hc;obtain⟨rfl,_⟩:=h;obtain⟨_,cs,hf,ho⟩:=hs;refine⟨s,.inl ⟨rfl,by simpa using hc,by rw[hv];simp[V.aL,Ty.depth],by rw[hv];rfl⟩,?_⟩;have hf:cs=[a.tmps.getD s undef]:=hf;rw[hf]at ho;exact ho
   ·exact h.elim
  ·exact h.elim
 | const c =>
  dsimp only[HN]at h;split at h
  ·cases ‹Operand.const _=_›
  ·rename_i hc;cases hc;obtain⟨rfl,_⟩:=h;exact⟨d,.inr ⟨rfl,rfl⟩,by simp only[Own];exact .inl ⟨rfl,trivial⟩⟩
  ·exact h.elim
 | func f=>exact h.elim
 | global g=>exact h.elim
theorem anI[af](hI:Inv w0 L0 N vs T a w L){e':TypeId}{x:Operand}{c:S8 t}(h:(K2 vs e t x).ai T c log)(iI:P.underlying X2=some (.slice e')):
  ∃news,fP P t.sz X2 (a.eval x) c.ys.length news w/\(∀s,c.s=some s->s∉vs/\(T.getD s .dead).aL=true/\(T.getD s .dead).root=none) /\
   ∀(L':Nat->aj) (w':World) (d o0 m:Nat),(∀k,c.n=some k->m<=k)->(∀k,L k = .aq->L' k = .aq/\w'.heap[k]?=w.heap[k]?) ->
    (∀s k y rest,c.s=some s->y<c.ys.length*t.sz->L k = .own s (0::y::rest)->w'.heap[k]?=w.heap[k]?/\(rest.length<m->L' k = .own d (0::(o0+y)::rest))/\(m<=rest.length->L' k = .aq)) ->
    ∀j (h:j<c.ys.length),Own w' L' (SL L' none) d m t (c.ys[j]) [0] (o0+j*t.sz) ((news.drop (j*t.sz)).take t.sz):=by
 have bC:∀{S:Nat->Prop} {ys:List t.den} {v:Value},Rd w S (.slice e t) ys [v] ->
   ∃news,fP P t.sz X2 v ys.length news w/\∀j (h:j<ys.length),Rd w S t (ys[j]) ((news.drop (j*t.sz)).take t.sz):=by
  intro S ys v hr;simp only[Rd]at hr;obtain⟨A,cp,hv,h1,h2,h3⟩:=hr;have hv:v=_:=(List.cons.inj hv).1;subst hv;by_cases hy:ys=[]
  ·subst hy;refine⟨[],?_,λj h=>absurd h (by simp)⟩;cases A with
   | none=>exact fP.none iI cp
   | some A=>exact fP.row iI A 0 cp (by simp) (λj u h=>by simp at h) (by simp)
  ·obtain⟨g,o,rfl,hS,h4⟩:=h3 hy;obtain⟨news,n1,n2⟩:=U4 t.sz ys.length (λj h=>(h4 j h).choose) (λj h=>Rd.len (h4 j h).choose_spec.1);refine⟨news,fP.row iI ⟨g,o,none⟩ ys.length cp n1 (λj u hu=>?_) (λu hu=>?_),λj h=>by rw[n2 j h];exact (h4 j h).choose_spec.1⟩
   ·rw[Addr.add_lit];exact H7 (p:=λi u=>w.cell? ⟨g,o+i,none⟩=some u) n1 (λj hj k u hk=>by rw[n2 j hj]at hk;exact (h4 j hj).choose_spec.2 k u hk) j u hu
   ·obtain⟨i,hi⟩:=List.mem_iff_getElem?.1 hu;refine H7 (p:=λi u=>u.oneCell'=true) n1 (λj hj k u hk=>?_) i u hi;rw[n2 j hj]at hk;exact Rd.one (h4 j hj).choose_spec.1 u (List.mem_of_getElem? hk)
 cases x with
 | tmp s =>
  obtain⟨aF,rfl,h⟩:=h;have hs:=hI.aV s;dsimp only at h;split at h
  ·rename_i hd;obtain⟨⟨l,t',y⟩,l1,l2,rfl,h1,h2⟩:=M.an h;dsimp only at h2;split at h2
   ·rename_i ht;subst ht;obtain⟨rfl,_⟩:=h2;obtain⟨cells,hf,hr,cD⟩:=qB hI h1 hs (λ_=>rfl);have hf:cells=[a.tmps.getD s undef]:=hf;subst hf;obtain⟨news,k1,k2⟩:=bC hr;refine⟨news,k1,by simp,λL' w' d o0 m _ _ _ j hj=>?_⟩;have:=k2 j hj;have h0:=Own.dN (L:=L) (s:=0) (q:=[]) (o:=0) this;exact aia hd h0
   ·exact h2.elim
  ·generalize hv:T.getD s .dead=v at h hs;split at h
   ·rename_i t' y;split at h
    ·rename_i ht;subst ht;obtain⟨rfl,_⟩:=h;obtain⟨_,cs,hf,ho⟩:=hs;have hf:cs=[a.tmps.getD s undef]:=hf;subst hf;obtain⟨news,k1,k2⟩:=bC (Own.eM ho);refine⟨news,k1,by simp,λL' w' d o0 m hm a7 _ j hj=>?_⟩;obtain rfl:m=0:=by have:=hm 0 rfl;omega
     refine Own.dN (Rd.move (λk hk=>?_) (k2 j hj));rcases hk with hk|⟨_,_,hk,_⟩
     ·exact⟨.inl (a7 k hk).1,(a7 k hk).2⟩
     ·cases hk
    ·exact h.elim
   ·rename_i n t' y;split at h
    ·rename_i ht;subst ht;split at h
     ·exact h.elim
     ·rename_i hc;obtain⟨rfl,_⟩:=h;obtain⟨_,cs,hf,ho⟩:=hs;have hf:cs=[a.tmps.getD s undef]:=hf;subst hf;have Wi:s∉vs/\(T.getD s .dead).aL=true/\(T.getD s .dead).root=none:=⟨by simpa using hc,by rw[hv];simp[V.aL,Ty.depth],by rw[hv];rfl⟩;simp only[Own]at ho;rcases ho with⟨gi,rfl⟩|⟨g,cap,cur,de,hL,hg,h5,h6,h7,h8⟩
      ·have gi:a.tmps.getD s undef=_:=(List.cons.inj gi).1;refine⟨[],?_,λs' bM=>by cases bM;exact Wi,λL' w' d o0 m _ _ _ j hj=>absurd hj (by simp)⟩;show fP P t.sz X2 (a.tmps.getD s undef) 0 [] w;rw[gi];exact fP.none iI 0
      ·have de:a.tmps.getD s undef=_:=(List.cons.inj de).1;have hlen:(List.length y)*t.sz<=cur.size:=by rw[h7];exact Nat.mul_le_mul_right _ h5
       refine⟨cur.toList.take (y.length*t.sz),?_,λs' bM=>by cases bM;exact Wi,λL' w' d o0 m hm a7 hZ j hj=>?_⟩
       ·show fP P t.sz X2 (a.tmps.getD s undef) y.length _ w;rw[de];have hl:(cur.toList.take (y.length*t.sz)).length=y.length*t.sz:=by rw[List.length_take];simp;omega
        refine fP.row iI ⟨g,0,none⟩ _ cap hl (λj u hu=>?_) (λu hu=>?_)
        ·rw[List.getElem?_take]at hu;split at hu
         ·rw[show (⟨g,0,none⟩:Addr).add j=⟨g,j,none⟩by rw[Addr.add_lit,Nat.zero_add]];simp only[World.cell?,hg];simpa using hu
         ·cases hu
        ·obtain⟨i,hi⟩:=List.mem_iff_getElem?.1 hu;refine H7 (p:=λi u=>u.oneCell'=true) hl (λj hj k u hk=>?_) i u hi;have hw:((cur.toList.take (y.length*t.sz)).drop (j*t.sz)).take t.sz=(cur.toList.drop (j*t.sz)).take t.sz:=qQ λk hk=>by
          have:(j+1)*t.sz<=y.length*t.sz:=Nat.mul_le_mul_right _ (by omega);rw[Nat.add_mul,Nat.one_mul]at this;rw[List.getElem?_take,if_pos (by omega)]
         rw[hw]at hk;exact Own.one (h8 j hj) u (List.mem_of_getElem? hk)
       ·have hw:((cur.toList.take (y.length*t.sz)).drop (j*t.sz)).take t.sz=(cur.toList.drop (j*t.sz)).take t.sz:=qQ λk hk=>by
         have:(j+1)*t.sz<=y.length*t.sz:=Nat.mul_le_mul_right _ (by have:j<List.length y:=hj;omega);rw[Nat.add_mul,Nat.one_mul]at this;rw[List.getElem?_take,if_pos (by omega)]
        rw[hw];refine Own.fi (hm n rfl) (λk hk=>?_) (λk i rest hi hk=>?_) (h8 j hj)
        ·rcases hk with hk|⟨_,_,hk,_⟩
         ·exact⟨.inl (a7 k hk).1,(a7 k hk).2⟩
         ·cases hk
        ·have aI:L k = .own s (0::(j*t.sz+i)::rest):=by simpa using hk
         have ax:j*t.sz+i<y.length*t.sz:=by
          have:(j+1)*t.sz<=y.length*t.sz:=Nat.mul_le_mul_right _ (by have:j<List.length y:=hj;omega);rw[Nat.add_mul,Nat.one_mul]at this;omega
         have:=hZ s k (j*t.sz+i) rest rfl ax aI;refine⟨this.1,λh=>?_,λh=>.inl (this.2.2 h)⟩;rw[this.2.1 h];simp[Nat.add_assoc]
    ·exact h.elim
   ·exact h.elim
 | const cv =>
  dsimp only[K2]at h;split at h
  ·cases ‹Operand.const _=_›
  ·rename_i hc;cases hc;obtain⟨rfl,_⟩:=h;exact⟨[],fP.none iI 0,by simp,λL' w' d o0 m _ _ _ j hj=>absurd hj (by simp)⟩
  ·exact h.elim
 | func f=>exact h.elim
 | global g=>exact h.elim
 where
 aia:{w w':World}->{L L':Nat->aj}->{S S':Nat->Prop}->{s s' n n':Nat}->{t:Ty}->{x:t.den}->{q q':List Nat}->{o o':Nat}->{cs:List Value}->t.depth=0->Own w L S s n t x q o cs->Own w' L' S' s' n' t x q' o' cs:=λh1 h2=>Own.flat h1 h2
theorem Inv.app[af](hI:Inv w0 L0 N vs T a w L){so:Nat}{sb sx:Option Nat}{kept:Bool}{b1 b2 m:Nat}{nl:Nat->aj}{v:V}{c:Value}(hd:d<N)(hid:(T.getD d .dead).idle=true)
  (nJ:(sb=some so/\so∉vs/\(T.getD so .dead).aL=true)\/(sb=none/\so=d)) (oS:∀s,sx=some s->s∉vs/\(T.getD s .dead).aL=true)
  (hw:Wd w w' L nl (λs=>s=d\/s=so\/sx=some s)) (gj:∀k s q,w.heap.size<=k->nl k = .own s q->s=d/\q=[0]/\k=w.heap.size/\kept=false)
  (hv:v.root=none) (Jz:v.aL=true)
  (hr:∀T' tm',aB (aS (gz d so sx kept b1 b2 m) w L nl) T' tm' d v w' c) :
  Inv w0 L0 N vs (ah T ((sb.toList++sx.toList).map (λs=>(s,V.dead))++[(d,v)])) (a.put (some d) c) w' (aS (gz d so sx kept b1 b2 m) w L nl):=by
 have cA:(T.getD d .dead).aL=false:=V.kA hid;have vP:d∉sb.toList++sx.toList:=λh=>by
  have:(T.getD d .dead).aL=true:=by
   rcases List.mem_append.1 h with h|h
   ·rcases nJ with⟨rfl,_,ho⟩|⟨rfl,_⟩
    ·simp only[Option.toList_some,List.mem_singleton]at h;rw[h];exact ho
    ·simp at h
   ·cases sx with
    | none=>simp at h
    | some x =>
     simp only[Option.toList_some,List.mem_singleton]at h;rw[h];exact (oS x rfl).2
  rw[cA]at this;cases this
 have hX:∀s,(s=d\/s=so\/sx=some s)↔(s=d\/s∈sb.toList++sx.toList):=by
  intro s;constructor
  ·rintro (h|h|h)
   ·exact .inl h
   ·rcases nJ with⟨rfl,_⟩|⟨_,h2⟩
    ·exact .inr (by simp[h])
    ·exact .inl (h.trans h2)
   ·exact .inr (by simp[h])
  ·rintro (h|h)
   ·exact .inl h
   ·rcases List.mem_append.1 h with h|h
    ·rcases nJ with⟨rfl,_⟩|⟨rfl,_⟩
     ·simp only[Option.toList_some,List.mem_singleton]at h;exact .inr (.inl h)
     ·simp at h
    ·cases sx with
     | none=>simp at h
     | some x =>
      simp only[Option.toList_some,List.mem_singleton]at h;exact .inr (.inr (by rw[h]))
 have hT:ah T ((sb.toList++sx.toList).map (λs=>(s,V.dead))++[(d,v)])=(ah T ((sb.toList++sx.toList).map λs=>(s,V.dead))).set d v:=by
  rw[lx];rfl
 have hlen:(ah T ((sb.toList++sx.toList).map λs=>(s,V.dead))).length=N:=by rw[cF,hI.len]
 have bT:(ah T ((sb.toList++sx.toList).map (λs=>(s,V.dead))++[(d,v)])).getD d .dead=v:=by
  rw[hT,aH,if_pos ⟨rfl,by rw[hlen];exact hd⟩]
 have bI:∀s,s∈sb.toList++sx.toList->(ah T ((sb.toList++sx.toList).map (λs=>(s,V.dead))++[(d,v)])).getD s .dead = .dead:=by
  intro s hs;rw[hT,aH,if_neg (λe=>vP (by rw[<-e.1];exact hs))];exact Va _ _ _ hs
 refine Inv.gP (X:=λs=>s=d\/s=so\/sx=some s) hI ahB hw ?_ (by simp[Act.put,hI.size]) (by rw[hT,List.length_set,hlen]) hI.dP ?_ ?_ ?_ ?_ ?_
 ·intro k k' s q hk h h';obtain⟨rfl,rfl,rfl,ajq⟩:=gj k s q hk h;unfold aS at h';split at h'
  ·exfalso;obtain⟨s0,q0,e0,f0⟩:=eV h';rcases oq f0 with⟨_,_,gI,_⟩|⟨_,_,_,_,_,_,h8⟩|⟨_,_,_,_,_,_,_,h8⟩|⟨_,_,kU,h8,_⟩
   ·rw[ajq]at gI;cases gI
   ·simp at h8
   ·simp at h8
   ·exact kU h8.symm
  ·exact (gj k' s _ (by omega) h').2.2.1.symm
 ·intro k s q hs h;by_cases bL:s=d
  ·subst bL;rw[bT];exact Jz
  ·exfalso;unfold aS at h;split at h
   ·obtain⟨s0,q0,e0,f0⟩:=eV h;rcases oq f0 with⟨_,_,_,h7,_⟩|⟨_,_,_,_,_,h7,_⟩|⟨_,_,_,_,_,_,h7,_⟩|⟨h5,h6,_,h7,_⟩
    ·exact bL h7
    ·exact bL h7
    ·exact bL h7
    ·subst h7;rcases hs with h|h|h
     ·exact bL h
     ·exact h5 h
     ·exact h6 h
   ·exact bL (gj k s q (by omega) h).1
 ·intro s r hs ag aW;rcases aW with rfl|rfl|hx
  ·exact cA
  ·rcases nJ with⟨_,h,_⟩|⟨_,rfl⟩
   ·exact absurd (hI.roots s _ ag) h
   ·exact cA
  ·exact absurd (hI.roots s r ag) (oS r hx).1
 ·intro s hs;have bM:=not_or.1 (λh=>hs ((hX s).2 h));rw[hT,aH,if_neg (λe=>bM.1 e.1),fa _ _ _ (by simpa[List.map_map]using bM.2)];refine⟨rfl,?_⟩;show (a.tmps.setIfInBounds d c).getD s undef=_;rw[dY,if_neg (λe=>bM.1 e.1)]
 ·intro s r hs ag;rcases (hX s).1 hs with rfl|hs
  ·rw[bT]at ag;simp[V.on,hv]at ag
  ·rw[bI s hs]at ag;simp[V.on,V.root]at ag
 ·intro s hs;rcases (hX s).1 hs with rfl|hs
  ·rw[bT];show aB _ _ _ _ _ _ ((a.tmps.setIfInBounds s c).getD s undef);rw[dY,if_pos ⟨rfl,by rw[hI.size];exact hd⟩];exact hr _ _
  ·rw[bI s hs];trivial
theorem TJ{b:Nat}{n:Option Nat}:jO b n<=b/\∀k,n=some k->jO b n<=k:=by
 cases n with
 | none=>exact⟨Nat.le_refl _,by simp⟩
 | some k=>exact⟨Nat.min_le_left _ _,λk' h=>by cases h;exact Nat.min_le_right _ _⟩
end
end Go.Proofs.YtbhogmdpmkpinaaGreat.P.Am
