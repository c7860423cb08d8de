/- A part of the proof: Am25,Am26,Am27,Am28,Am29,Am37,Am38. No conditions. -/
import Derived.Test.YtbhogmdpmkpinaaGreatPG3
import Derived.Conc.Own4
import Derived.ArgAppend
set_option linter.unusedVariables false
set_option linter.unusedSimpArgs false
namespace Go.Proofs.YtbhogmdpmkpinaaGreat.P.Am
variable{d g i k m n r sz:Nat}{mu:Option (Nat×Nat)}{log ls:List Nat}{X X2 e:TypeId}{x:Operand}{t:Ty}{ups:List (Nat×V)}{o:Oper}{fu:Bool}{rs:List (Ty×Nat)}{news:List Value}
def addrOf(t:Nat):V->Option (Nat×List St)
 | .ptr r p _=>some (r,p)
 | .box _ _ _ _=>some (t,[])
 | _=>none
def allM:Nat->Nat->M (List V)
 | _,0=>.ret []
 | i,n+1=>.get i λv=>(allM (i+1) n).bind λl=>.ret (v::l)
def dZ(r:Nat)(root:V)(src:Option Nat):Nat->List V->List (Nat×V)
 | _,[]=>[]
 | i,v::l=>cond (v.on r&&i != r&&src != some i && !ca root src v) ((i,.dead)::dZ r root src (i+1) l) (dZ r root src (i+1) l)
def oN(r:Nat)(root:V)(src:Option Nat):Nat->List V->Bool
 | _,[]=>true
 | i,v::l=>(!(v.on r&&i != r&&src != some i && !ca root src v) || !v.aM)&&oN r root src (i+1) l
def axa(C:Ctx)(vs:List Nat)(X:TypeId)(x:Operand)(t:Ty)(n r:Nat):M (t.den×Option Nat):=
 (cK C X x).bind λv=>match v with
 | .d none k tv y=>if h:tv=t then
   if t.depth=0\/(n=0/\k=0)then .ret (h▸y,none)
   else match x with
    | .tmp s=>if n≠0/\(n<=k\/t.depth<=k)/\k≠0/\vs.contains s=false/\s≠r then .ret (h▸y,some s)else .fail
    | .const _=>if n<=k then .ret (h▸y,none)else .fail
    | _=>.fail
  else .fail
 | _=>.fail
def jD(fu:Bool):List Nat->Nat
 | []=>cond fu 1 0
 | k::l=>2 ^ (k+1) ||| jD fu l
def xj{α:Type}(fu:Bool)(r s:Nat):List Nat->M α->M α
 | [],m=>m
 | k::l,m=>cond (k==s) (xj fu r s l m) (.get k λv=>.bn (!cond fu (v.on r) (v.eI r)) (xj fu r s l m))
def iI{α:Type}(fu:Bool)(r s:Nat)(kids:List Nat)(m:M α):M α :=
 if r<100000 then xj fu r s kids (.ask (vS r (jD fu (s::kids))) m)else .fail
def lG(C:Ctx)(vs:List Nat)(N:Nat)(bk:Option (List Nat))(X:TypeId)(t:Nat)(x:Operand):M (List (Nat×V)):=
 .get t λv=>match addrOf t v with
 | none=>.fail
 | some (r,p)=>.get r λu=>(dI p u).bind λz =>
  if C.ty X=some z.2.t/\(u.root != some r)=true/\r<N then
   (axa C vs X x z.2.t z.2.n r).bind λy =>
   (gf p u z.2.t y.1).bind λu' =>
   cond (!u.deep&&y.2.isNone) (.ret [(r,u')])
    (match bk with
     | some ks=>.bn u.fD (iI false r (y.2.getD r) ks (.ret ((r,u')::y.2.toList.map (λs=>(s,V.dead)))))
     | none=>(allM 0 N).bind λTs=>.bn (oN r u y.2 0 Ts) (.ret ((r,u')::(y.2.toList.map (λs=>(s,V.dead))++dZ r u y.2 0 Ts))))
  else .fail
section
variable{P:Program}{C:Ctx}{w w' w0:World}{S S':Nat->Prop}{L L' L0:Nat->aj}{s N:Nat}{vs:List Nat}{T T':List V}{tm tm':Array Value}{a:Act}
theorem lT:{n i:Nat}->{l:List V}->{log:List Nat}->(allM i n).ai T l log->i+n=T.length->l=T.drop i
 | 0,i,l,log,h,hl=>by
  obtain⟨rfl,_⟩:=h;rw[List.drop_eq_nil_of_le (by omega)]
 | n+1,i,l,log,h,hl=>by
  obtain⟨aG,rfl,h⟩:=h;obtain⟨l',l1,l2,rfl,h1,h2⟩:=M.aq h;obtain⟨rfl,_⟩:=h2;rw[lT h1 (by omega)];have ax:i<T.length:=by omega
  rw[List.getD_eq_getElem?_getD,List.getElem?_eq_getElem ax];simp
theorem iK[af]{T:List V}{s:Nat}{v:V}(hs:s<T.length)(hm:s∈ups.map (·.1))(h:∀v',(s,v')∈ups->v'=v):(ah T ups).getD s .dead=v:=by
 have key:∀(ups:List (Nat×V)) (T:List V),s<T.length->(∀v',(s,v')∈ups->v'=v)->(T.getD s .dead=v\/s∈ups.map (·.1))->(ah T ups).getD s .dead=v:=by
  intro ups;induction ups with
  | nil =>
   intro T _ _ h;exact h.resolve_right (by simp)
  | cons u l ih =>
   intro T hs h hm;show (ah (T.set u.1 u.2) l).getD s .dead=v;refine ih _ (by simpa using hs) (λv' hv=>h v' (by simp[hv])) ?_;by_cases hu:s=u.1
   ·left;rw[aH,if_pos ⟨hu,by rw[<-hu];exact hs⟩];exact h u.2 (by rw[hu];simp)
   ·rcases hm with hm|hm
    ·left;rw[aH,if_neg (λe=>hu e.1)];exact hm
    ·right;simp only[List.map_cons,List.mem_cons]at hm;exact hm.resolve_left hu
 exact key ups T hs h (.inr hm)
theorem xq{fu:Bool}{z:Nat}:{l:List Nat}->z∉l->(jD fu l).testBit (z+1)=false
 | [],_=>by cases fu<;>simp[jD,Nat.testBit_succ]
 | k::l,h=>by
  simp only[List.mem_cons,not_or]at h;simp only[jD,Nat.testBit_or,xq h.2,Bool.or_false];rw[Nat.testBit_two_pow];simp;omega
theorem xr{fu:Bool}:{l:List Nat}->(jD fu l).testBit 0=fu
 | []=>by cases fu<;>simp[jD]
 | k::l=>by
  simp only[jD,Nat.testBit_or,xr (l:=l)];rw[Nat.testBit_two_pow];simp
theorem K5{α:Type}{s:Nat}{m:M α}{x:α}:{l:List Nat}->{log:List Nat}->(xj fu r s l m).ai T x log->(∀k∈l,k≠s->cond fu ((T.getD k .dead).on r) ((T.getD k .dead).eI r)=false)/\∃aG,m.ai T x aG
 | [],log,h=>⟨by simp,log,h⟩
 | k::l,log,h=>by
  simp only[xj]at h;cases hk:(k==s)with
  | true =>
   rw[hk]at h;obtain⟨h1,h2⟩:=K5 (l:=l) h;refine⟨λk' aI bo=>?_,h2⟩;rcases List.mem_cons.1 aI with rfl|aI
   ·exact absurd (by simpa using hk) bo
   ·exact h1 k' aI bo
  | false =>
   rw[hk]at h;obtain⟨aG,rfl,hc,h⟩:=h;obtain⟨h1,h2⟩:=K5 (l:=l) h;refine⟨λk' aI bo=>?_,h2⟩;rcases List.mem_cons.1 aI with rfl|aI
   ·simpa using hc
   ·exact h1 k' aI bo
theorem jV[af]{α:Type}{s:Nat}{kids:List Nat}{m:M α}{x:α}(h:(iI fu r s kids m).ai T x log):
  (∀z,z≠s->cond fu ((T.getD z .dead).on r) ((T.getD z .dead).eI r)=false)/\∃aG,m.ai T x aG:=by
 unfold iI at h;split at h
 ·rename_i hr;obtain⟨h1,aG,h⟩:=K5 h;obtain⟨⟨hq,_⟩,log2,rfl,h⟩:=h;refine⟨λz hz=>?_,log2,h⟩;by_cases hm:z∈kids
  ·exact h1 z hm hz
  ·have:=I3 hr hq z (xq (by simp[hz,hm]))
   rwa [xr]at this
 ·exact h.elim
theorem vW{r:Nat}{root:V}{src:Option Nat}:{i:Nat}->{l:List V}->(s:Nat)->(v:V)->((s,v)∈dZ r root src i l↔v = .dead/\i<=s/\s<i+l.length/\((l.getD (s - i) .dead).on r&&s != r&&src != some s && !ca root src (l.getD (s - i) .dead))=true)
 | i,[],s,v=>by simp[dZ];omega
 | i,v0::l,s,v=>by
  have ih:=vW (r:=r) (root:=root) (src:=src) (i:=i+1) (l:=l) s v;have eC:i+1<=s->(v0::l).getD (s - i) .dead=l.getD (s - (i+1)) .dead:=λh=>by
   rw[show s - i=(s - (i+1))+1 by omega,List.getD_cons_succ]
  simp only[dZ];cases hc:(v0.on r&&i != r&&src != some i && !ca root src v0)with
  | true =>
   simp only[cond_true,List.mem_cons,Prod.mk.injEq,ih,List.length_cons];constructor
   ·rintro (⟨rfl,rfl⟩|⟨h1,h2,h3,h4⟩)
    ·refine⟨rfl,Nat.le_refl _,by omega,?_⟩;rw[Nat.sub_self,List.getD_cons_zero];exact hc
    ·refine⟨h1,by omega,by omega,?_⟩;rw[eC h2];exact h4
   ·rintro⟨h1,h2,h3,h4⟩
    by_cases hs:s=i
    ·exact .inl ⟨hs,h1⟩
    ·refine .inr ⟨h1,by omega,by omega,?_⟩;rw[<-eC (by omega)];exact h4
  | false =>
   simp only[cond_false,ih,List.length_cons];constructor
   ·rintro⟨h1,h2,h3,h4⟩
    refine⟨h1,by omega,by omega,?_⟩;rw[eC h2];exact h4
   ·rintro⟨h1,h2,h3,h4⟩
    by_cases hs:s=i
    ·subst hs;rw[Nat.sub_self,List.getD_cons_zero,hc]at h4;cases h4
    ·refine⟨h1,by omega,by omega,?_⟩;rw[<-eC (by omega)];exact h4
theorem Jt{root:V}{src:Option Nat}:{i:Nat}->{l:List V}->oN r root src i l=true->∀s,s<l.length->((l.getD s .dead).on r&&(i+s) != r&&src != some (i+s) && !ca root src (l.getD s .dead))=true->(l.getD s .dead).aM=false
 | _,[],_,s,hs,_=>by simp at hs
 | i,v0::l,h,s,hs,hc=>by
  simp only[oN,Bool.and_eq_true,Bool.or_eq_true,Bool.not_eq_true']at h;cases s with
  | zero =>
   simp only[List.getD_cons_zero,Nat.add_zero]at hc ⊢;rcases h.1 with h|h
   ·rw[hc]at h;cases h
   ·exact h
  | succ s =>
   simp only[List.getD_cons_succ]at hc ⊢;exact Jt h.2 s (by simpa using hs) (by rwa [show i+1+s=i+(s+1)by omega])
theorem Ju{r:Nat}{root:V}{src:Option Nat}:{i:Nat}->{l:List V}->(∀s,(l.getD s .dead).on r=true->i+s≠r->src≠some (i+s)->ca root src (l.getD s .dead)=true)->dZ r root src i l=[]/\oN r root src i l=true
 | i,[],_=>⟨rfl,rfl⟩
 | i,v::l,h=>by
  obtain⟨h1,h2⟩:=Ju (r:=r) (root:=root) (i:=i+1) (l:=l) (λs hs hr hn=>by
   have:=h (s+1) (by simpa using hs) (by omega) (by rw[show i+(s+1)=i+1+s by omega];exact hn);simpa using this)
  have h0:(v.on r&&i != r&&src != some i && !ca root src v)=false:=by
   rw[Bool.eq_false_iff];intro hc;simp only[Bool.and_eq_true,Bool.not_eq_true',bne_iff_ne]at hc;have:=h 0 (by simpa using hc.1.1.1) (by simpa using hc.1.1.2) (by simpa using hc.1.2);rw[List.getD_cons_zero,hc.2]at this;cases this
  simp[dZ,oN,h0,h1,h2]
theorem ald[af](hI:Inv w0 L0 N vs T a w L){r:Nat}(hb:(T.getD r .dead).deep=false)(sW:∀A,a.tmps.getD r undef = .tuple A->False)(s:Nat)(hs:(T.getD s .dead).on r=true):ca (T.getD r .dead) none (T.getD s .dead)=true:=by
 have h:=hI.aY s;generalize hv:T.getD s .dead=v at h hs;have cB:(T.getD r .dead).deep=true->False:=λh=>by rw[hb]at h;cases h
 have cq:∀{q},v.root=some q->q=r:=λh=>by simpa[V.on,h]using hs
 cases v with
 | ptr r' p t=>rfl
 | d l n t x=>exact (cB (h.1 r (by simpa[V.on,V.root]using hs))).elim
 | box l n t x=>exact (cB (h.1 r (by simpa[V.on,V.root]using hs))).elim
 | rp l t x=>exact (cB (h.1 r (by simpa[V.on,V.root]using hs))).elim
 | view r' p t=>have:=cq rfl;subst this;exact (cB h.1).elim
 | part r' i n t x =>
  have:=cq rfl;subst this;obtain⟨_,A,_,_,h1,_⟩:=h;exact (sW A h1).elim
 | hole v p =>
  have:=cq (q:=r) (by simpa[V.on,V.root]using hs);have h0:v.root=none:=h.1;have h1:v.root=some r:=by simpa[V.on,V.root]using hs
  rw[h0]at h1;cases h1
 | bP _ _ _ _=>simp[V.on,V.root]at hs
 | same r' t =>
  have:=cq rfl;subst this;obtain⟨_,_,_,_,h2⟩:=h;rw[h2]at hb;cases hb
 | dead=>simp[V.on,V.root]at hs
 | bF l=>simp[V.on,V.root]at hs
theorem UN:¬SL (λ_=>aj.free) none k:=by
 rintro (h|⟨_,_,h,_⟩)<;>cases h
theorem tT[af](h:jk P C X t){o:Nat}{cur:Array Value}{c:Value}{cs:List Value}(hh:w.heap[g]?=some (.cells cur e (0,0)))(hf:Form t cs c)(h1:∀v∈cs,v.oneCell'=true)
  (hl:cs.length=t.sz) (hb:o+t.sz<=cur.size):(Instr.storeAt X (.pointer (some ⟨g,o,none⟩)) c).run P w = .ok () (w.setRow g (putCells cur o cs)):=by
 have hc:=Form.cells hf h1;have bq:c.cells.size=t.sz:=by rw[<-Array.length_toList,hc,hl]
 have ba:=run_storeCells_at P g o e cs 0 cur w hh (by simp;omega) h1;simp only[Nat.add_zero]at ba;simp[Instr.storeAt,Instr.sureAddr,storeVar,h.run_sizeOf,bq,hc,ba,putCells]
theorem xR[af](hI:Inv w0 L0 N vs T a w L)(hC:bD P C){t:Nat}{x:Operand}(ho:o.op = .store X (.tmp t) x)(aB:o.dst=none)
  {bk:Option (List Nat)} (h:(lG C vs N bk X t x).ai T ups log):Step P o w0 L0 N vs (ah T ups) a w:=by
 obtain⟨Lc,rfl,h⟩:=h;have ba:=hI.aY t;have alM:∀r p,addrOf t (T.getD t .dead)=some (r,p)->∃g,a.eval (.tmp t) = .pointer (some ⟨g,(node [] 0 p).2,none⟩)/\L g = .own r (node [] 0 p).1:=by
  intro r p he;generalize T.getD t .dead=v at he ba;cases v with
  | ptr r2 p2 t2 =>
   simp only[addrOf,Option.some.injEq,Prod.mk.injEq]at he;obtain⟨rfl,rfl⟩:=he;exact ba
  | box l n t2 x2 =>
   simp only[addrOf,Option.some.injEq,Prod.mk.injEq]at he;obtain⟨rfl,rfl⟩:=he;obtain⟨_,g,cur,e,h1,h2,_⟩:=ba;exact⟨g,h1,h2⟩
  | dead=>cases he
  | bF _=>cases he
  | d _ _ _ _=>cases he
  | rp _ _ _=>cases he
  | view _ _ _=>cases he
  | hole _ _=>cases he
  | part _ _ _ _ _=>cases he
  | bP _ _ _ _=>cases he
  | same _ _=>cases he
 dsimp only at h;split at h
 ·exact h.elim
 ·rename_i r p he;obtain⟨g,cZ,hg⟩:=alM r p he;obtain⟨eW,rfl,h⟩:=h;obtain⟨⟨l,n',t',x'⟩,l1,l2,rfl,hz,h⟩:=M.aq h;dsimp only at h;split at h
  ·rename_i hc;obtain⟨hX,mC,dw⟩:=hc;obtain⟨⟨y,src⟩,l3,l4,rfl,hv,h⟩:=M.aq h;obtain⟨u',l5,l6,rfl,hm,h⟩:=M.aq h;have nX:ups=(r,u')::(src.toList.map (λs=>(s,V.dead))++dZ r (T.getD r .dead) src 0 T)/\oN r (T.getD r .dead) src 0 T=true:=by
    cases mf:(!(T.getD r .dead).deep&&src.isNone)with
    | false =>
     rw[mf]at h;dsimp only[cond_false]at h;split at h
     ·rename_i ks;obtain⟨wq,h⟩:=h;obtain⟨cQ,_,h⟩:=jV h;obtain⟨rfl,_⟩:=h;obtain⟨e1,e2⟩:=Ju (r:=r) (root:=T.getD r .dead) (src:=src) (i:=0) (l:=T) (λs hs hr hn=>by
       rw[Nat.zero_add]at hr hn;have hd:(T.getD s .dead).eI r=false:=by
        cases c7:src with
        | none =>
         rw[c7]at cQ;exact cQ s hr
        | some s0 =>
         rw[c7]at cQ hn;exact cQ s (λe=>hn (by rw[e];rfl))
       unfold V.eI at hd;rw[hs,Bool.true_and]at hd;have cG:(T.getD r .dead).dG=false:=by
        generalize T.getD r .dead=u at wq;cases u<;>simp[V.fD,V.dG]at wq ⊢
       generalize T.getD s .dead=v at hd;cases v with
       | ptr r2 p2 t2 =>
        simp only[ca,cG,Bool.not_false,Bool.and_true,Bool.or_eq_true];exact .inr (by simpa using hd)
       | _=>simp at hd)
      rw[e1,e2,List.append_nil];exact⟨rfl,rfl⟩
     ·obtain⟨Ts,l7,l8,rfl,dS,h⟩:=M.aq h;obtain⟨ju,rfl,_⟩:=h;have bI:Ts=T:=by rw[lT dS (by rw[Nat.zero_add,hI.len])];rfl
      subst bI;exact⟨rfl,ju⟩
    | true =>
     rw[mf]at h;obtain⟨rfl,_⟩:=h;simp only[Bool.and_eq_true,Bool.not_eq_true',Option.isNone_iff_eq_none]at mf;obtain⟨ke,rfl⟩:=mf;have sW:∀A,a.tmps.getD r undef = .tuple A->False:=by
      intro A hA;have bu:=hI.aY r;rw[hA]at bu;generalize T.getD r .dead=u at bu hz ke;cases u with
      | box l2 n t x=>obtain⟨_,_,_,_,h1,_⟩:=bu;cases h1
      | d l2 n t x =>
       simp only[dI]at hz;split at hz
       ·obtain⟨z,m1,m2,rfl,z1,z2⟩:=M.aq hz;cases n with
        | zero=>cases t<;>simp only[aR]at z1<;>exact z1.elim
        | succ n =>
         cases t with
         | slice e t=>simp[V.deep,Ty.depth]at ke
         | _=>simp only[aR]at z1;exact z1.elim
       ·exact hz.elim
      | dead=>exact hz.elim
      | bF _=>exact hz.elim
      | rp _ _ _=>exact hz.elim
      | ptr _ _ _=>exact hz.elim
      | view _ _ _=>exact hz.elim
      | hole _ _=>exact hz.elim
      | part _ _ _ _ _=>exact hz.elim
      | bP _ _ _ _=>simp[V.deep]at ke
      | same _ _=>exact hz.elim
     obtain⟨e1,e2⟩:=Ju (r:=r) (root:=T.getD r .dead) (src:=none) (i:=0) (l:=T) (λs hs _ _=>ald hI ke sW s hs);rw[e1,e2];exact⟨rfl,rfl⟩
   obtain⟨rfl,ju⟩:=nX;generalize bI:T=Ts at *
   obtain⟨hb,th,_,ix,mh⟩:=lC hz (hI.aY r);obtain⟨g',cur,e,k1,k2,k3,k4⟩:=hb;obtain rfl:=hI.inj g g' r _ hg k1;have ek:∃cs,Form t' cs (a.eval x)/\(∀v∈cs,v.oneCell'=true)/\cs.length=t'.sz/\(∀s,src=some s->s≠r/\s∉vs/\∃k y,n'≠0/\k≠0/\t'.depth≠0/\Ts.getD s .dead = .d none k t' y) /\
     (∀(L':Nat->aj) (w':World) (u:V) q o',(∀k,L k = .au->L' k = .au/\w'.heap[k]?=w.heap[k]?) ->
      (∀s k z i,src=some s->L k = .own s (i::z)->i<t'.sz->w'.heap[k]?=w.heap[k]?/\(z.length<n'->L' k = .own r (q++(o'+i)::z))/\(n'<=z.length->L' k = .au)) ->
      Own w' L' (SL L' u.root) r n' t' y q o' cs):=by
    obtain⟨v,m1,m2,rfl,KF,cS⟩:=M.aq hv;split at cS
    ·rename_i k tv y0;split at cS
     ·rename_i qs;subst qs;have dM:∃s0,aD L Ts a.tmps s0 (.d none k tv y0) w (a.eval x)/\(∀s,x = .tmp s->s0=s/\Ts.getD s .dead = .d none k tv y0)/\((∀s,x ≠ .tmp s)->∀L T tm s w,aD L T tm s (.d none k tv y0) w (a.eval x)):=by
       rcases kH hI KF with⟨s,rfl,hv,hs⟩|⟨_,hs⟩
       ·exact⟨s,hs,λs' he=>by cases he;exact⟨rfl,hv.symm⟩,λh=>absurd rfl (h s)⟩
       ·cases x with
        | tmp s =>
         obtain⟨_,_,hv,_⟩:=KF;refine⟨s,?_,λs' he=>by cases he;exact⟨rfl,hv.symm⟩,λh=>absurd rfl (h s)⟩;rw[hv];exact hI.aY s
        | const c=>exact⟨0,hs _ _ _ _ _,λs' he=>(by cases he),λ_=>hs⟩
        | func c=>exact⟨0,hs _ _ _ _ _,λs' he=>(by cases he),λ_=>hs⟩
        | global c=>exact KF.elim
      obtain⟨s0,⟨_,cs,hf,bQ⟩,hx,lq⟩:=dM;have xa:∀{L':Nat->aj} {w':World} {u:V},(∀k,L k = .au->L' k = .au/\w'.heap[k]?=w.heap[k]?)->∀k,SL L none k->SL L' u.root k/\w'.heap[k]?=w.heap[k]?:=by
       intro L' w' u H k hk;rcases hk with hk|⟨_,_,hk,_⟩
       ·exact⟨.inl (H k hk).1,(H k hk).2⟩
       ·cases hk
      refine⟨cs,hf,Own.one bQ,Own.len bQ,?_⟩;split at cS
      ·rename_i hd;obtain⟨cS,_⟩:=cS;cases cS;refine⟨λs hs=>(by cases hs),λL' w' u q o' H1 _=>?_⟩;rcases hd with hd|⟨rfl,rfl⟩
       ·exact Own.flat hd bQ
       ·exact Own.dP (Rd.move (xa H1) (Own.eQ bQ))
      ·rename_i hd;cases x with
       | tmp s =>
        dsimp only at cS;split at cS
        ·rename_i wu;obtain⟨cS,_⟩:=cS;cases cS;obtain⟨c1,c2,ck,c3,c4⟩:=wu;obtain⟨rfl,hT⟩:=hx s rfl;refine⟨λs' hs=>?_,λL' w' u q o' H1 H2=>?_⟩
         ·injection hs with hs;subst hs;exact⟨c4,λhm=>(by rw[List.contains_iff_mem.2 hm]at c3;cases c3),k,_,c1,ck,λh=>hd (.inl h),hT⟩
         ·obtain⟨k9,c9,Ko⟩:=Own.I5 c2 bQ;refine Own.fp c9 (xa H1) (λk d rest iP hk=>?_) Ko;have aI:L k = .own s0 (d::rest):=by simpa using hk
          have:=H2 s0 k rest d rfl aI iP;exact⟨this.1,this.2.1,λh=>.inl (this.2.2 h)⟩
        ·exact cS.elim
       | const c =>
        dsimp only at cS;split at cS
        ·rename_i lj;obtain⟨cS,_⟩:=cS;cases cS;refine⟨λs hs=>(by cases hs),λL' w' u q o' H1 _=>?_⟩;obtain⟨_,bl,wC,Yj⟩:=lq (by simp) (λ_=>.free) [] #[] 0 w;have dh:bl=cs:=by
          have e1:=Form.cells wC (Own.one Yj);have e2:=Form.cells hf (Own.one bQ);exact e1.symm.trans e2
         subst dh;refine Own.fp lj (λk hk=>absurd hk UN) (λk d rest _ hk=>by cases hk) Yj
        ·exact cS.elim
       | func f=>exact cS.elim
       | global g=>exact cS.elim
     ·exact cS.elim
    ·exact cS.elim
   obtain⟨cs,hf,ee,hlen,c7,bz⟩:=ek;have aP:(execOp a.eval o).run P w = .ok .skip (w.setRow g (putCells cur (node [] 0 p).2 cs)):=by
    simp[execOp,ho,cZ,tT (hC X t' hX) k2 hf ee hlen k3]
   have bu:src≠some r:=λe=>(c7 r e).1 rfl;have lg:(ah Ts ((r,u')::(src.toList.map (λs=>(s,V.dead))++dZ r (Ts.getD r .dead) src 0 Ts))).length=N:=by rw[cH,hI.len]
   have b9:∀s,src=some s->s<N:=by
    intro s hs;obtain⟨_,_,k,y',_,_,_,hT⟩:=c7 s hs;rcases Nat.lt_or_ge s N with h|h
    ·exact h
    ·rw[eJ (by rw[hI.len];exact h)]at hT;cases hT
   have eL:∀s v,(s,v)∈((r,u')::(src.toList.map (λs=>(s,V.dead))++dZ r (Ts.getD r .dead) src 0 Ts))->(s=r/\v=u')\/(src=some s/\v = .dead)\/(v = .dead/\((Ts.getD s .dead).on r&&s != r&&src != some s && !ca (Ts.getD r .dead) src (Ts.getD s .dead))=true):=by
    intro s v hm;rcases List.mem_cons.1 hm with hm|hm
    ·injection hm with h1 h2;exact .inl ⟨h1,h2⟩
    ·rcases List.mem_append.1 hm with hm|hm
     ·obtain⟨s',bN,he⟩:=List.mem_map.1 hm;injection he with h1 h2;subst h1;exact .inr (.inl ⟨by simpa using bN,h2.symm⟩)
     ·obtain⟨h1,_,_,h2⟩:=(vW s v).1 hm;exact .inr (.inr ⟨h1,by simpa using h2⟩)
   intro K Q hK;unfold Oper.wp;rw[aP,Oper.upon_skip,aB];refine hK a _ _ (Inv.store (m:=n') (src:=src) hI rfl hz hm (by simpa using mC) hg k2 k3 hlen ?_ lg ?_ ?_ ?_ ?_)
   ·intro s hs;obtain⟨h1,h2,k,y',h3,h4,h5,h6⟩:=c7 s hs;refine⟨h1,h2,?_,by rw[h6];rfl⟩;refine iK (by rw[hI.len];exact b9 s hs) ?_ (λv hm=>?_)
    ·simp[hs]
    ·rcases eL s v hm with⟨h,_⟩|⟨_,h⟩|⟨h,_⟩
     ·exact absurd h h1
     ·exact h
     ·exact h
   ·refine iK (by rw[hI.len];exact dw) (by simp) (λv hm=>?_);rcases eL r v hm with⟨_,h⟩|⟨h,_⟩|⟨_,h⟩
    ·exact h
    ·exact absurd h bu
    ·simp at h
   ·intro s hs ef ag;have iy:s<N:=by
     rcases Nat.lt_or_ge s N with h|h
     ·exact h
     ·rw[eJ (by rw[hI.len];exact h)]at ag;simp[V.on,V.root]at ag
    cases hk:ca (Ts.getD r .dead) src (Ts.getD s .dead)with
    | true =>
     refine .inr ⟨fg _ _ _ (λhm=>?_),Or.inl rfl⟩;obtain⟨u,hu,he⟩:=List.mem_map.1 hm;rcases eL s u.2 (by rw[<-he];exact hu)with⟨h,_⟩|⟨h,_⟩|⟨_,h⟩
     ·exact hs h
     ·exact ef h
     ·rw[hk]at h;simp at h
    | false =>
     have hc:((Ts.getD s .dead).on r&&s != r&&src != some s && !ca (Ts.getD r .dead) src (Ts.getD s .dead))=true:=by
      rw[ag,hk];simp only[Bool.and_eq_true,bne_iff_ne,Bool.not_false,and_true,true_and];exact⟨hs,ef⟩
     refine .inl ⟨iK (by rw[hI.len];exact iy) ?_ (λv hm=>?_),?_⟩
     ·rw[List.mem_map];exact⟨(s,.dead),by
       refine List.mem_cons_of_mem _ (List.mem_append_right _ ((vW s .dead).2 ⟨rfl,Nat.zero_le _,?_,?_⟩))
       ·rw[Nat.zero_add,hI.len];exact iy
       ·simpa using hc,rfl⟩
     ·rcases eL s v hm with⟨h,_⟩|⟨h,_⟩|⟨h,_⟩
      ·exact absurd h hs
      ·exact absurd h ef
      ·exact h
     ·exact Jt ju s (by rw[hI.len];exact iy) (by simpa using hc)
   ·intro s hs ef ag;refine fg _ _ _ (λhm=>?_);obtain⟨u,hu,he⟩:=List.mem_map.1 hm;rcases eL s u.2 (by rw[<-he];exact hu)with⟨h,_⟩|⟨h,_⟩|⟨_,h⟩
    ·exact hs h
    ·exact ef h
    ·rw[ag]at h;simp at h
   ·refine bz _ _ _ _ _ (λk hk=>⟨eD hI hk,setRow_other w g k _ (by rintro rfl;rw[hg]at hk;cases hk)⟩) (λs k z i hs hk hi=>?_);have bo:=(c7 s hs).1;have im:aU (dQ r (node [] 0 p).1 (node [] 0 p).2 t'.sz n' src) w L (λ_=>.free) k=if z.length<n' then .own r ((node [] 0 p).1++((node [] 0 p).2+i)::z)else .au:=by
     rw[c8 hI (by rw[hk];simp),hk];simp only[eR,dQ];rw[if_neg bo,if_pos hs,if_pos hi]
    refine⟨setRow_other w g k _ (by rintro rfl;rw[hg]at hk;injection hk with hk _;exact bo hk.symm),λh=>by rw[im,if_pos h],λh=>by rw[im,if_neg (by omega)]⟩
  ·exact h.elim
end
def M.oc{α:Type}(T:List V):M α->M α
 | .ret a=>.ret a
 | .fail=>.fail
 | .get s k=>(k (T.getD s .dead)).oc T
 | .cM t m k=>.cM t m λx=>(k x).oc T
 | .bn b k=>.bn b (k.oc T)
 | .ask q k=>.bn (ey q T&&decide (bp<=q)) (k.oc T)
 | .ite b x y=>.ite b (x.oc T) (y.oc T)
theorem M.ph{α:Type}{T T':List V}:{m:M α}->{a:α}->{log:List Nat}->(m.oc T').ai T a log->∃aG,m.ai T' a aG
 | .ret _,_,_,h=>⟨[],h.1,rfl⟩
 | .fail,_,_,h=>h.elim
 | .get s k,a,log,h=>by
  obtain⟨aG,h⟩:=M.ph (m:=k _) h;exact⟨s::aG,aG,rfl,h⟩
 | .cM t m k,a,log,h=>by
  obtain⟨x,hm,h⟩:=h;obtain⟨aG,h⟩:=M.ph (m:=k x) h;exact⟨aG,x,hm,h⟩
 | .bn c k,a,log,h=>by
  obtain⟨hc,h⟩:=h;obtain⟨aG,h⟩:=M.ph (m:=k) h;exact⟨aG,hc,h⟩
 | .ask q k,a,log,h=>by
  obtain⟨hc,h⟩:=h;obtain⟨aG,h⟩:=M.ph (m:=k) h;simp only[Bool.and_eq_true,decide_eq_true_eq]at hc;exact⟨q::aG,hc,aG,rfl,h⟩
 | .ite c x y,a,log,h=>by
  rcases h with⟨hc,h⟩|⟨hc,h⟩
  ·obtain⟨aG,h⟩:=M.ph (m:=x) h;exact⟨aG,.inl ⟨hc,h⟩⟩
  ·obtain⟨aG,h⟩:=M.ph (m:=y) h;exact⟨aG,.inr ⟨hc,h⟩⟩
def Ls(C:Ctx)(vs:List Nat)(d:Nat)(X:TypeId)(x:Operand):M (List (Nat×V)):=
 match x with
 | .tmp t=>.get t λv =>
   cond (v.aM && !vs.contains t&&v.root.isNone&&(match v with | .hole _ _=>false|_=>true)) (.ret [(t,.dead),(d,v)])
    ((Jr t v).bind λv'=>.bn (fH vs v') (.ret [(d,v')]))
 | x=>(cK C X x).bind λv'=>.bn (fH vs v') (.ret [(d,v')])
def nZ(d:Nat):Nat->List V->List (Nat×V)
 | _,[]=>[]
 | i,v::l=>cond (i==d||v.on d) ((i,.dead)::nZ d (i+1) l) (nZ d (i+1) l)
def Dt(d:Nat):Nat->List V->Bool
 | _,[]=>true
 | i,v::l=>(i==d || !(v.on d&&v.aM))&&Dt d (i+1) l
def Cs(C:Ctx)(vs:List Nat)(N d:Nat)(X:TypeId)(x:Operand):M (List (Nat×V)):=
 .get d λvd=>.bn (decide (d<N)) (cond vd.aM
  ((allM 0 N).bind λTs=>.bn (Dt d 0 Ts) (((Ls C vs d X x).oc (ah Ts (nZ d 0 Ts))).bind λups=>.ret (nZ d 0 Ts++ups)))
  (Ls C vs d X x))
section
variable{P:Program}{C:Ctx}{w w' w0:World}{S S':Nat->Prop}{L L' L0:Nat->aj}{s N:Nat}{vs:List Nat}{T T':List V}{tm tm':Array Value}{a:Act}
def qC(o:Oper)(x:Operand):Prop:=o.op = .move x\/o.op = .assign x
theorem tS(h:qC o x):(execOp a.eval o).run P w = .ok (.value (a.eval x)) w:=by
 rcases h with h|h<;>simp[execOp,h]
theorem apE[af](hI:Inv w0 L0 N vs T a w L){t:Nat}(h:t∉vs):oa t t T=true:=by
 unfold oa;rw[List.all_eq_true];intro b hb;obtain⟨i,hi⟩:=List.mem_iff_getElem?.1 hb;simp only[List.getElem?_mapIdx,Option.map_eq_some_iff]at hi;obtain⟨v,hv,rfl⟩:=hi;have lb:T.getD i .dead=v:=by simp[List.getD_eq_getElem?_getD,hv]
 simp only[id_eq,Bool.or_eq_true,bne_iff_ne];right;intro hr;exact h (hI.roots i t (by rw[lb];simp[V.on,hr]))
theorem abM[af](hI:Inv w0 L0 N vs T a w L){x:Operand}{d:Nat}{log:List Nat}(ho:qC o x)(aB:o.dst=some d)(hd:d<N)(hid:(T.getD d .dead).idle=true)
  (h:(Ls C vs d o.type x).ai T ups log):Step P o w0 L0 N vs (ah T ups) a w:=by
 have XN:∀{v':V} {log:List Nat},(qJ C o.type x).ai T v' log->fH vs v'=true->Step P o w0 L0 N vs (ah T [(d,v')]) a w:=by
  intro v' log h aC K Q hK;have:=aaC (P:=P) (d:=d) hI (tS ho) hid h (qN aC);exact aL.inv hI hd hid aB this hK
 have Kn:(∀t,x ≠ .tmp t)->((cK C o.type x).bind λv'=>M.bn (fH vs v') (.ret [(d,v')])).ai T ups log->Step P o w0 L0 N vs (ah T ups) a w:=by
  intro hx h;obtain⟨v',l1,l2,rfl,h1,h2⟩:=M.aq h;obtain⟨aC,rfl,_⟩:=h2;refine XN (log:=l1) ?_ aC;cases x with
  | tmp t=>exact absurd rfl (hx t)
  | const c=>exact h1
  | func c=>exact h1
  | global c=>exact h1
 cases x with
 | const c=>exact Kn (by simp) h
 | func c=>exact Kn (by simp) h
 | global c=>exact Kn (by simp) h
 | tmp t =>
  obtain⟨aG,rfl,h⟩:=h;dsimp only at h;cases hc:((T.getD t .dead).aM && !vs.contains t&&(T.getD t .dead).root.isNone&&(match T.getD t .dead with | .hole _ _=>false|_=>true))with
  | true =>
   rw[hc]at h;obtain⟨rfl,_⟩:=h;simp only[Bool.and_eq_true,Bool.not_eq_true']at hc;obtain⟨⟨⟨h1,h2⟩,h3⟩,h4⟩:=hc;have qs:t∉vs:=λhm=>by rw[List.contains_iff_mem.2 hm]at h2;cases h2
   have cq:(T.getD t .dead).root=none:=by simpa using h3
   obtain⟨L',iM⟩:=Inv.apw hI (t:=t) (d:=d) rfl h1 (λu p e=>by rw[e]at h4;cases h4) (λr i n t x e=>by rw[e]at cq;cases cq) hd hid (apE hI qs) (by rw[cq];simp) (by rw[cq];simp);exact Step.value aB (tS ho) iM
  | false =>
   rw[hc]at h;obtain⟨v',l1,l2,rfl,h1,h2⟩:=M.aq h;obtain⟨aC,rfl,_⟩:=h2;exact XN (log:=t::l1) ⟨l1,rfl,h1⟩ aC
theorem Du{d:Nat}:{i:Nat}->{l:List V}->(s:Nat)->(v:V)->((s,v)∈nZ d i l↔v = .dead/\i<=s/\s<i+l.length/\(s=d\/(l.getD (s - i) .dead).on d=true))
 | i,[],s,v=>by simp[nZ];omega
 | i,v0::l,s,v=>by
  have ih:=Du (d:=d) (i:=i+1) (l:=l) s v;have eC:i+1<=s->(v0::l).getD (s - i) .dead=l.getD (s - (i+1)) .dead:=λh=>by
   rw[show s - i=(s - (i+1))+1 by omega,List.getD_cons_succ]
  simp only[nZ];cases hc:(i==d||v0.on d)with
  | true =>
   simp only[cond_true,List.mem_cons,Prod.mk.injEq,ih,List.length_cons];constructor
   ·rintro (⟨rfl,rfl⟩|⟨h1,h2,h3,h4⟩)
    ·refine⟨rfl,Nat.le_refl _,by omega,?_⟩;rw[Nat.sub_self,List.getD_cons_zero];simpa using hc
    ·refine⟨h1,by omega,by omega,?_⟩;rw[eC h2];exact h4
   ·rintro⟨h1,h2,h3,h4⟩
    by_cases hs:s=i
    ·exact .inl ⟨hs,h1⟩
    ·refine .inr ⟨h1,by omega,by omega,?_⟩;rw[<-eC (by omega)];exact h4
  | false =>
   simp only[cond_false,ih,List.length_cons];constructor
   ·rintro⟨h1,h2,h3,h4⟩
    refine⟨h1,by omega,by omega,?_⟩;rw[eC h2];exact h4
   ·rintro⟨h1,h2,h3,h4⟩
    by_cases hs:s=i
    ·subst hs;rw[Nat.sub_self,List.getD_cons_zero]at h4;simp only[Bool.or_eq_false_iff,beq_eq_false_iff_ne]at hc;rcases h4 with h4|h4
     ·exact absurd h4 hc.1
     ·rw[hc.2]at h4;cases h4
    ·refine⟨h1,by omega,by omega,?_⟩;rw[<-eC (by omega)];exact h4
theorem Z0:{i:Nat}->{l:List V}->Dt d i l=true->∀s,i+s≠d->(l.getD s .dead).on d=true->(l.getD s .dead).aM=false
 | _,[],_,s,_,h=>by simp[V.on,V.root]at h
 | i,v0::l,h,s,hs,hc=>by
  simp only[Dt,Bool.and_eq_true,Bool.or_eq_true,Bool.not_eq_true',beq_iff_eq]at h;cases s with
  | zero =>
   simp only[List.getD_cons_zero]at hc ⊢;have:=h.1.resolve_left (by simpa using hs);rw[hc,Bool.true_and]at this;exact this
  | succ s =>
   simp only[List.getD_cons_succ]at hc ⊢;exact Z0 h.2 s (by omega) hc
theorem Z1[af](hl:T.length=N)(hd:d<N)(s:Nat):(ah T (nZ d 0 T)).getD s .dead=if (s==d||(T.getD s .dead).on d)=true then .dead else T.getD s .dead:=by
 split
 ·rename_i hc;by_cases hs:s<N
  ·refine iK (by rw[hl];exact hs) (List.mem_map.2 ⟨(s,.dead),(Du s .dead).2 ⟨rfl,Nat.zero_le _,by rw[Nat.zero_add,hl];exact hs,?_⟩,rfl⟩) (λv hm=>((Du s v).1 hm).1);simpa using hc
  ·exact eJ (by rw[cH,hl];omega)
 ·rename_i hc;refine fg _ _ _ (λhm=>hc ?_);obtain⟨u,hu,he⟩:=List.mem_map.1 hm;have:=((Du s u.2).1 (by rw[<-he];exact hu)).2.2.2;simpa using this
theorem Ml[af](hI:Inv w0 L0 N vs T a w L)(ho:qC o x)(aB:o.dst=some d)
  (h:(Cs C vs N d o.type x).ai T ups log):Step P o w0 L0 N vs (ah T ups) a w:=by
 obtain⟨Lc,rfl,hd,h⟩:=h;have hd:d<N:=by simpa using hd
 cases bz:(T.getD d .dead).aM with
 | false =>
  rw[bz]at h;exact abM hI ho aB hd (by rw[V.idle,bz];rfl) h
 | true =>
  rw[bz]at h;obtain⟨Ts,l1,l2,rfl,dS,hk,h⟩:=M.aq h;have bI:Ts=T:=by rw[lT dS (by rw[Nat.zero_add,hI.len])];rfl
  subst bI;obtain⟨bH,l3,l4,rfl,h1,h2⟩:=M.aq h;obtain⟨rfl,_⟩:=h2;obtain⟨aG,h1⟩:=M.ph h1;have bw:=Inv.kill hI (T':=ah Ts (nZ d 0 Ts)) (λs=>s==d||(Ts.getD s .dead).on d) (by rw[cH,hI.len]) (λs=>Z1 hI.len hd s) (λs r hs mv kn=>by
   simp only[Bool.or_eq_false_iff,beq_eq_false_iff_ne]at hs ⊢;refine⟨λe=>?_,?_⟩
   ·subst e;rw[hs.2]at mv;cases mv
   ·cases hr:(Ts.getD r .dead).on d with
    | false=>rfl
    | true =>
     by_cases bC:r=d
     ·subst bC;rw[hs.2]at mv;cases mv
     ·rw[Z0 hk r (by simpa using bC) hr]at kn;cases kn)
  rw[lE];refine abM bw ho aB hd ?_ h1;rw[Z1 hI.len hd,if_pos (by simp)];rfl
end
inductive Mode where
 | ro
 | mut (n:Nat)
 | ptr (n:Nat)
 | bV (n:Nat)
@[simp] def Mode.back:Mode->Bool
 | .ro=>false
 | .mut _=>true
 | .ptr _=>true
 | .bV _=>false
def Mode.dep:Mode->Nat
 | .ro=>0
 | .mut n=>n
 | .ptr n=>n
 | .bV n=>n
def Mode.owned(t:Ty):Mode->Bool
 | .ro=>false
 | .mut n=>n != 0&&t.depth != 0
 | .ptr _=>true
 | .bV n=>n != 0&&t.depth != 0
def dj:List (Ty×Mode)->Ty
 | []=>.unit
 | p::l=>.pair p.1 (dj l)
def cI:List (Ty×Mode)->Ty
 | []=>.unit
 | (t,.mut _)::l=>.pair t (cI l)
 | (t,.ptr _)::l=>.pair t (cI l)
 | (_,.ro)::l=>cI l
 | (_,.bV _)::l=>cI l
def cV:List (Ty×Nat)->Ty
 | []=>.unit
 | p::l=>.pair p.1 (cV l)
structure Fn where
 ps:List (Ty×Mode)
 rs:List (Ty×Nat)
 an:(dj ps).den->Option (Ty.pair (cV rs) (cI ps)).den
def uw(w:World)(L:Nat->aj)(S:Nat->Prop)(s n:Nat)(t:Ty)(x:t.den)(c:Value):Prop :=
 ∃g cur e,c = .pointer (some ⟨g,0,none⟩)/\L g = .own s []/\w.heap[g]?=some (.cells cur e (0,0))/\cur.size=t.sz/\Own w L S s n t x [] 0 cur.toList
def dX(w:World)(L0:Nat->aj):Nat->(ps:List (Ty×Mode))->(dj ps).den->List Value->Prop
 | _,[],_,cs=>cs=[]
 | i,(t,.ptr n)::ps,x,cs=>∃c bl,cs=c::bl/\uw w L0 (λk=>L0 k = .au) i n t x.1 c/\dX w L0 (i+1) ps x.2 bl
 | i,(t,.mut n)::ps,x,cs=>∃c bl cells,cs=c::bl/\Form t cells c/\Own w L0 (λk=>L0 k = .au) i n t x.1 [] 0 cells/\dX w L0 (i+1) ps x.2 bl
 | i,(t,.bV n)::ps,x,cs=>∃c bl cells,cs=c::bl/\Form t cells c/\Own w L0 (λk=>L0 k = .au) i n t x.1 [] 0 cells/\dX w L0 (i+1) ps x.2 bl
 | i,(t,.ro)::ps,x,cs=>∃c bl cells,cs=c::bl/\Form t cells c/\Own w L0 (λk=>L0 k = .au) i 0 t x.1 [] 0 cells/\dX w L0 (i+1) ps x.2 bl
def fV(w:World)(L0:Nat->aj):Nat->(ps:List (Ty×Mode))->(cI ps).den->List Value->Prop
 | _,[],_,cs=>cs=[]
 | i,(t,.mut n)::ps,x,cs=>∃c bl cells,cs=c::bl/\Form t cells c/\Own w L0 (λk=>L0 k = .au) i n t x.1 [] 0 cells/\fV w L0 (i+1) ps x.2 bl
 | i,(t,.ptr n)::ps,x,cs=>∃c bl,cs=c::bl/\uw w L0 (λk=>L0 k = .au) i n t x.1 c/\fV w L0 (i+1) ps x.2 bl
 | i,(_,.ro)::ps,x,cs=>∃c bl,cs=c::bl/\fV w L0 (i+1) ps x bl
 | i,(_,.bV _)::ps,x,cs=>∃c bl,cs=c::bl/\fV w L0 (i+1) ps x bl
def jj(w:World)(L0:Nat->aj)(m:Nat):Nat->(rs:List (Ty×Nat))->(cV rs).den->List Value->Prop
 | _,[],_,cs=>cs=[]
 | o,(t,n)::rs,x,cs=>∃c bl cells,cs=c::bl/\Form t cells c/\Own w L0 (λk=>L0 k = .au) m n t x.1 [] o cells/\jj w L0 m (o+t.sz) rs x.2 bl
def jR(w:World)(L0:Nat->aj)(m:Nat):(rs:List (Ty×Nat))->(cV rs).den->List Value->Prop
 | [(t,n)],x,cs=>(n<1000/\jj w L0 m 0 [(t,n)] x cs)\/(1000<=n/\∃c,cs=[c]/\uw w L0 (λk=>L0 k = .au) m (n - 1000) t x.1 c)
 | rs,x,cs=>jj w L0 m 0 rs x cs
def xn:List (Ty×Nat)->Bool
 | [(_,n)]=>decide (n<1000)
 | _=>true
theorem jR.low{w:World}{L0:Nat->aj}:{rs:List (Ty×Nat)}->{x:(cV rs).den}->{cs:List Value}->xn rs=true->(jR w L0 m rs x cs↔jj w L0 m 0 rs x cs)
 | [(t,n)],x,cs,h=>by
  have h:n<1000:=of_decide_eq_true h;constructor
  ·rintro (⟨_,h1⟩|⟨h1,_⟩)
   ·exact h1
   ·omega
  ·exact λh1=>.inl ⟨h,h1⟩
 | [],_,_,_=>Iff.rfl
 | _::_::_,_,_,_=>Iff.rfl
def pn:List Value->Value
 | [v]=>v
 | l=>.tuple l.toArray
structure jQ [af] (w:World) (L0:Nat->aj) (ps:List (Ty×Mode)):Prop where
 free:∀k,w.heap.size<=k->L0 k = .free
 inj:∀k k' s q,L0 k = .own s q->L0 k' = .own s q->k=k'
 owner:∀k s q,L0 k = .own s q->∃t m,ps[s]?=some (t,m)/\m.owned t=true
 ij:af.ok w L0
theorem jQ.write[af]{w:World}{L0:Nat->aj}{ps:List (Ty×Mode)}(h:jQ w L0 ps){s:Nat}{q:List Nat}(hk:L0 k = .own s q):∃t m,ps[s]?=some (t,m)/\(m.back=true\/∃n,m = .bV n):=by
 obtain⟨t,m,h1,h2⟩:=h.owner k s q hk;refine⟨t,m,h1,?_⟩
 match m,h2 with
 | .mut n,_=>exact .inl rfl
 | .ptr n,_=>exact .inl rfl
 | .bV n,_=>exact .inr ⟨n,rfl⟩
structure Left (w w':World) (L0 L':Nat->aj) (ps:List (Ty×Mode)) (rs:List (Ty×Nat)):Prop where
 os:w'.os=w.os
 tape:w'.tape=w.tape
 output:w'.output=w.output
 size:w.heap.size<=w'.heap.size
 drawn:w.drawn<=w'.drawn
 aT:∀k,k<w.heap.size->(L0 k = .au\/L0 k = .other)->L' k=L0 k/\w'.heap[k]?=w.heap[k]?
 free:∀k,w'.heap.size<=k->L' k = .free
 inj:∀k k' s q,L' k = .own s q->L' k' = .own s q->k=k'
 owner:∀k s q,L' k = .own s q->(s=ps.length/\∃t n,(t,n)∈rs/\((n≠0/\t.depth≠0)\/1000<=n))\/∃t m,ps[s]?=some (t,m)/\m.back=true
def ao[af](P:Program)(f:FuncId)(F:Fn):Prop :=
 (∃ fn, P.funcs[f]? = some fn /\ (fn.name == "runtime.NumGoroutine") = false /\ fn.body.isNone = false) /\
 ∀x r,F.an x=some r->∀(w:World) (L0:Nat->aj) (args:Array Value),jQ w L0 F.ps->dX w L0 0 F.ps x args.toList ->
  Calls P f args w (λe w'=>∃cs L',e = .returned (pn cs)/\Left w w' L0 L' F.ps F.rs/\jR w' L' F.ps.length F.rs r.1 cs/\fV w' L' 0 F.ps r.2 args.toList)
def aaI:(t:Ty)->Option t.den
 | .slice _ _=>some []
 | .cap (some f) _=>cond (f==kE) (some none) none
 | _=>none
def W8(f:FuncId):(t:Ty)->M (t.den×List Nat)
 | .raw 1=>.ret ((Value.func (.func f) #[] #[]:(Ty.raw 1).den),[])
 | .cap (some g) .unit=>.bn (g==f && !(g==kE)) (.ret ((some ():Option Unit),[]))
 | _=>.fail
def pQ(C:Ctx)(t:Ty)(x:Operand):M (t.den×List Nat):=
 match x with
 | .tmp s=>.get s λv=>(mN s v).bind λz=>if h:z.2.1=t then .ret (h▸z.2.2,if t.depth=0 then []else z.1.toList)else .fail
 | .const (.slice none 0 0)=>match aaI t with
  | some y=>.ret (y,[])
  | none=>.fail
 | .const c=>(Cw C 0 c).bind λv=>match v with
  | .d none _ t' y=>if h:t'=t then .ret (h▸y,[])else .fail
  | _=>.fail
 | .func f=>W8 f t
 | _=>.fail
def Lq(t:Ty)(n:Nat)(x:Operand):M (t.den×Nat):=
 match x with
 | .tmp s=>.get s λv=>match v with
  | .view r [] _=>.get r λu=>match u with
   | .d none n' t' y=>if h:t'=t then (if n'=n/\n≠0/\t.depth≠0 then .ret (h▸y,r)else .fail)else .fail
   | _=>.fail
  | .d none n' t' y=>if h:t'=t then (if n'=n/\n≠0/\t.depth≠0 then .ret (h▸y,s)else .fail)else .fail
  | _=>.fail
 | _=>.fail
structure lQ (ps:List (Ty×Mode)) where
 x:(dj ps).den
 ls:List Nat
 mu:List (Nat×Nat)
def lW(C:Ctx):Nat->(ps:List (Ty×Mode))->List Operand->M (lQ ps)
 | _,[],[]=>.ret ⟨(),[],[]⟩
 | i,(t,.ro)::ps,x::xs=>(pQ C t x).bind λy=>(lW C (i+1) ps xs).bind λr=>.ret ⟨(y.1,r.x),y.2++r.ls,r.mu⟩
 | i,(t,.mut n)::ps,x::xs=>(Lq t n x).bind λy=>(lW C (i+1) ps xs).bind λr=>.ret ⟨(y.1,r.x),r.ls,(y.2,i)::r.mu⟩
 | _,_,_=>.fail
section
variable{P:Program}{C:Ctx}{w w' w0:World}{S S':Nat->Prop}{L L' L0:Nat->aj}{s N:Nat}{vs:List Nat}{T T':List V}{tm tm':Array Value}{a:Act}
theorem Own.full:{n:Nat}->{t:Ty}->{x:t.den}->{q:List Nat}->{o:Nat}->{cs:List Value}->t.depth<=n->Own w L S s n t x q o cs->Own w L S' s n t x q o cs
 | _,.int _,_,_,_,_,_,h=>by simpa only[Own]using h
 | _,.bool,_,_,_,_,_,h=>by simpa only[Own]using h
 | _,.str,_,_,_,_,_,h=>by simpa only[Own]using h
 | _,.raw _,_,_,_,_,_,h=>by simpa only[Own]using h
 | 0,.cap _ _,_,_,_,_,hd,_=>by simp[Ty.depth]at hd
 | _+1,.cap _ _,_,_,_,_,_,h=>by simpa only[Own]using h
 | _,.unit,_,_,_,_,_,h=>by simpa only[Own]using h
 | _,.pair a b,_,_,_,_,hd,h=>by
  simp only[Own,Ty.depth]at h hd ⊢;obtain⟨c0,c1,rfl,h0,h1⟩:=h;exact⟨c0,c1,rfl,Own.full (by omega) h0,Own.full (by omega) h1⟩
 | _,.agg t,_,_,_,_,hd,h=>by simp only[Own,Ty.depth]at h hd ⊢;exact Own.full (t:=t) hd h
 | 0,.slice _ _,_,_,_,_,hd,h=>by simp[Ty.depth]at hd
 | n+1,.slice e t,xs,_,_,_,hd,h=>by
  simp only[Own,Ty.depth]at h hd ⊢;rcases h with h|⟨g,cap,cur,h1,h2,h3,h4,h5,h6,h7⟩
  ·exact .inl h
  ·exact .inr ⟨g,cap,cur,h1,h2,h3,h4,h5,h6,λj hj=>Own.full (by omega) (h7 j hj)⟩
def cO(mu:Option (Nat×Nat))(ls:List Nat):aj->aj
 | .own s q=>match mu with
  | some (r,i)=>if s=r then .own i q else if ls.contains s then .au else .other
  | none=>if ls.contains s then .au else .other
 | x=>x
def nA(mu:Option (Nat×Nat))(m d:Nat):aj->aj
 | .own i q=>if i=m then .own d q else match mu with
  | some (r,_)=>.own r q
  | none=>.other
 | x=>x
def dJ(mu:Option (Nat×Nat))(m d:Nat)(L L':Nat->aj):Nat->aj:=λk=>match L k with
 | .free=>nA mu m d (L' k)
 | .own s q=>if mu.map (·.1)=some s then nA mu m d (L' k)else .own s q
 | x=>x
theorem lK{mu:Option (Nat×Nat)}{l:aj}{q:List Nat}(h:cO mu ls l = .own i q):∃r,mu=some (r,i)/\l = .own r q:=by
 cases l with
 | own s q' =>
  unfold cO at h;cases mu with
  | none=>dsimp only at h;split at h<;>cases h
  | some p =>
   obtain⟨r,i'⟩:=p;dsimp only at h;split at h
   ·rename_i hs;injection h with h1 h2;exact⟨r,by rw[h1],by rw[hs,h2]⟩
   ·split at h<;>cases h
 | au=>cases h
 | free=>cases h
 | other=>cases h
theorem vN[af](hI:Inv w0 L0 N vs T a w L){y:t.den}(h:(pQ C t x).ai T (y,ls) log):
  ∃cells,Form t cells (a.eval x)/\(∀r∈ls,(T.getD r .dead).deep=true)/\∀(S:Nat->Prop),(∀k,L k = .au->S k)->(∀k r q,r∈ls->L k = .own r q->S k)->Rd w S t y cells:=by
 unfold pQ at h;split at h
 ·rename_i s;obtain⟨aG,rfl,h⟩:=h;obtain⟨⟨l,t',y'⟩,l1,l2,rfl,h1,h2⟩:=M.aq h;dsimp only at h2;split at h2
  ·rename_i ht;subst ht;obtain⟨h2,_⟩:=h2;injection h2 with h2 h3;subst h2 h3;obtain⟨cells,hf,bC,cF⟩:=qR hI h1 (hI.aY s) (λ_=>rfl);refine⟨cells,hf,λr hr=>?_,λS H1 H2=>?_⟩
   ·split at hr
    ·simp at hr
    ·exact cF r (by simpa using hr)
   ·by_cases hd:t'.depth=0
    ·have:=Own.dP (L:=L) (s:=0) (q:=[]) (o:=0) bC;exact Own.eQ (Own.flat (L':=L) (S':=S) (s':=0) (q':=[]) (o':=0) (n':=0) hd this)
    ·rw[if_neg hd]at H2;refine Rd.move (λk hk=>⟨?_,rfl⟩) bC;rcases hk with hk|⟨r,q,hl,hk⟩
     ·exact H1 k hk
     ·exact H2 k r q (by simp[hl]) hk
  ·exact h2.elim
 ·split at h
  ·rename_i y' hn;obtain⟨h,_⟩:=h;injection h with h1 h2;subst h1 h2;unfold aaI at hn;split at hn
   ·injection hn with hn;subst hn;exact⟨[.slice none 0 0],rfl,by simp,λS _ _=>by
     simp only[Rd];refine⟨none,0,rfl,Nat.le_refl _,λ_=>?_,λh=>absurd rfl h⟩
     first|exact⟨rfl,rfl⟩|simp⟩
   ·rename_i f u _;cases hf:f==kE with
    | false=>rw[hf]at hn;cases hn
    | true =>
     rw[hf,cond_true]at hn;injection hn with hn;subst hn;refine⟨[.slice none 0 0],rfl,by simp,λS _ _=>?_⟩;simp only[Rd];refine .inl ⟨by trivial,?_⟩;show [_]=[cond (f==kE) _ _];rw[hf];rfl
   ·cases hn
  ·exact h.elim
 ·rename_i c _;obtain⟨v,l1,l2,rfl,h1,h2⟩:=M.aq h;split at h2
  ·rename_i n t' y';split at h2
   ·rename_i ht;subst ht;obtain⟨h2,_⟩:=h2;injection h2 with h2 h3;subst h2 h3;obtain⟨⟨_,cells,hf,ho⟩,_⟩:=Jp (L:=λ_=>.free) (T:=T) (tm:=a.tmps) (s:=0) (w:=w) h1;refine⟨cells,hf,by simp,λS _ _=>?_⟩;exact Own.eQ (Own.fp (L':=L) (S':=S) (s':=0) (q2:=[]) (o2:=0) (Nat.zero_le _) (λk hk=>absurd hk UN) (λk d rest _ hk=>by cases hk) ho)
   ·exact h2.elim
  ·exact h2.elim
 ·rename_i f;unfold W8 at h;split at h
  ·obtain⟨h,_⟩:=h;injection h with h1 h2;subst h1 h2;refine⟨[.func (.func f) #[] #[]],rfl,by simp,λS _ _=>?_⟩
   first|exact⟨rfl,rfl⟩|simp[Rd,Value.mJ]
  ·rename_i g;obtain⟨hg,h,_⟩:=h;injection h with h1 h2;subst h1 h2;simp only[Bool.and_eq_true,beq_iff_eq,Bool.not_eq_true']at hg;obtain⟨rfl,hn⟩:=hg;refine⟨[.func (.func g) #[] #[]],rfl,by simp,λS _ _=>?_⟩;simp only[Rd];exact .inr ⟨(),[],trivial,rfl,hn,rfl⟩
  ·exact h.elim
 ·exact h.elim
theorem apy[af](hI:Inv w0 L0 N vs T a w L){y:t.den}(h:(Lq t n x).ai T (y,r) log):
  T.getD r .dead = .d none n t y/\n≠0/\t.depth≠0/\a.eval x=a.tmps.getD r undef:=by
 unfold Lq at h;split at h
 ·rename_i s;obtain⟨aG,rfl,h⟩:=h;have hs:=hI.aY s;generalize hv:T.getD s .dead=v at h hs;dsimp only at h;split at h
  ·rename_i r' t2;obtain⟨log2,rfl,h⟩:=h;dsimp only at h;split at h
   ·rename_i n' t' y' hu;split at h
    ·rename_i ht;subst ht;split at h
     ·rename_i hc;obtain⟨rfl,hn,hd⟩:=hc;obtain⟨h,_⟩:=h;injection h with h1 h2;subst h1 h2;refine⟨hu,hn,hd,?_⟩;obtain⟨_,h1⟩:=hs;rcases h1 with⟨_,h2,_⟩|⟨_,_,_,h2,_⟩
      ·exact h2
      ·rw[hu]at h2;simp[V.dG]at h2
     ·exact h.elim
    ·exact h.elim
   ·exact h.elim
  ·rename_i n' t' y';split at h
   ·rename_i ht;subst ht;split at h
    ·rename_i hc;obtain⟨rfl,hn,hd⟩:=hc;obtain⟨h,_⟩:=h;injection h with h1 h2;subst h1 h2;exact⟨hv,hn,hd,rfl⟩
    ·exact h.elim
   ·exact h.elim
  ·exact h.elim
 ·exact h.elim
theorem I0[af](hI:Inv w0 L0 N vs T a w L):{ps:List (Ty×Mode)}->{i:Nat}->{xs:List Operand}->{A:lQ ps}->{log:List Nat}->(lW C i ps xs).ai T A log ->
  (∀r∈A.ls,(T.getD r .dead).deep=true)/\(∀r j,(r,j)∈A.mu->i<=j/\∃t n y,ps[j - i]?=some (t,.mut n)/\n≠0/\t.depth≠0/\T.getD r .dead = .d none n t y/\(xs.map a.eval)[j - i]?=some (a.tmps.getD r undef)) /\
  (∀j t n,ps[j]?=some (t,.mut n)->∃r,(r,i+j)∈A.mu) /\
  ∀L1:Nat->aj,(∀k,L k = .au->L1 k = .au)->(∀k r q,r∈A.ls->L k = .own r q->L1 k = .au)->(∀k r j q,(r,j)∈A.mu->L k = .own r q->L1 k = .own j q)->dX w L1 i ps A.x (xs.map a.eval)
 | [],i,[],A,log,h=>by
  obtain⟨rfl,_⟩:=h;exact⟨by simp,by simp,by simp,λ_ _ _ _=>rfl⟩
 | (t,.ro)::ps,i,x::xs,A,log,h=>by
  simp only[lW]at h;obtain⟨⟨y,ls⟩,l1,l2,rfl,h1,h⟩:=M.aq h;obtain⟨A',l3,l4,rfl,h2,h⟩:=M.aq h;obtain⟨rfl,_⟩:=h;obtain⟨cells,k1,k2,k3⟩:=vN hI h1;obtain⟨j1,j2,j4,j3⟩:=I0 hI h2;refine⟨λr hr=>?_,λr j hm=>?_,λj t' n hj=>?_,λL1 H1 H2 H3=>?_⟩
  ·rcases List.mem_append.1 hr with hr|hr
   ·exact k2 r hr
   ·exact j1 r hr
  ·obtain⟨hi,t',n',y',e1,e2,e3,e4,e5⟩:=j2 r j hm;have:j - i=(j - (i+1))+1:=by omega
   refine⟨by omega,t',n',y',by rw[this];simpa using e1,e2,e3,e4,by rw[this];simpa using e5⟩
  ·cases j with
   | zero=>simp at hj
   | succ j =>
    obtain⟨r,hr⟩:=j4 j t' n (by simpa using hj);exact⟨r,by rw[show i+(j+1)=i+1+j by omega];exact hr⟩
  ·exact⟨a.eval x,_,cells,rfl,k1,Own.dP (k3 _ H1 (λk r q hr hk=>H2 k r q (List.mem_append_left _ hr) hk)),j3 L1 H1 (λk r q hr hk=>H2 k r q (List.mem_append_right _ hr) hk) H3⟩
 | (t,.mut n)::ps,i,x::xs,A,log,h=>by
  simp only[lW]at h;obtain⟨⟨y,r0⟩,l1,l2,rfl,h1,h⟩:=M.aq h;obtain⟨A',l3,l4,rfl,h2,h⟩:=M.aq h;obtain⟨rfl,_⟩:=h;obtain⟨k1,k2,k3,k4⟩:=apy hI h1;obtain⟨j1,j2,j4,j3⟩:=I0 hI h2;refine⟨j1,λr j hm=>?_,λj t' n' hj=>?_,λL1 H1 H2 H3=>?_⟩
  ·rcases List.mem_cons.1 hm with hm|hm
   ·injection hm with e1 e2;subst e1 e2;exact⟨Nat.le_refl _,t,n,y,by simp,k2,k3,k1,by simp[k4]⟩
   ·obtain⟨hi,t',n',y',e1,e2,e3,e4,e5⟩:=j2 r j hm;have:j - i=(j - (i+1))+1:=by omega
    refine⟨by omega,t',n',y',by rw[this];simpa using e1,e2,e3,e4,by rw[this];simpa using e5⟩
  ·cases j with
   | zero=>exact⟨r0,by simp⟩
   | succ j =>
    obtain⟨r,hr⟩:=j4 j t' n' (by simpa using hj);exact⟨r,by rw[show i+(j+1)=i+1+j by omega];exact List.mem_cons_of_mem _ hr⟩
  ·have hs:=hI.aY r0;rw[k1]at hs;obtain⟨_,cells,hf,ho⟩:=hs;refine⟨a.eval x,_,cells,rfl,by rw[k4];exact hf,?_,j3 L1 H1 H2 (λk r j q hm hk=>H3 k r j q (List.mem_cons_of_mem _ hm) hk)⟩;refine Own.move (λk hk=>⟨?_,rfl⟩) (λk d rest _ hk=>⟨H3 k r0 i _ (by simp) hk,rfl⟩) ho;rcases hk with hk|⟨_,_,hk,_⟩
   ·exact H1 k hk
   ·cases hk
 | [],_,_::_,_,_,h=>h.elim
 | (_,.ro)::_,_,[],_,_,h=>h.elim
 | (_,.mut _)::_,_,[],_,_,h=>h.elim
 | (_,.ptr _)::_,_,[],_,_,h=>h.elim
 | (_,.ptr _)::_,_,_::_,_,_,h=>h.elim
 | (_,.bV _)::_,_,[],_,_,h=>h.elim
 | (_,.bV _)::_,_,_::_,_,_,h=>h.elim
theorem IZ{C:Ctx}:{ps:List (Ty×Mode)}->{i:Nat}->{xs:List Operand}->{A:lQ ps}->{log:List Nat}->(lW C i ps xs).ai T A log->∀(j:Nat) (t:Ty) (n:Nat),ps[j]?≠some (t,.ptr n)
 | [],_,_,_,_,_,j,t,n=>by simp
 | (t0,.ro)::ps,i,x::xs,A,log,h,j,t,n=>by
  simp only[lW]at h;obtain⟨_,_,_,_,_,h⟩:=M.aq h;obtain⟨_,_,_,_,h2,_⟩:=M.aq h;cases j with
  | zero=>simp
  | succ j=>simpa using IZ h2 j t n
 | (t0,.mut n0)::ps,i,x::xs,A,log,h,j,t,n=>by
  simp only[lW]at h;obtain⟨_,_,_,_,_,h⟩:=M.aq h;obtain⟨_,_,_,_,h2,_⟩:=M.aq h;cases j with
  | zero=>simp
  | succ j=>simpa using IZ h2 j t n
 | (_,.ro)::_,_,[],_,_,h,_,_,_=>h.elim
 | (_,.mut _)::_,_,[],_,_,h,_,_,_=>h.elim
 | (_,.ptr _)::_,_,[],_,_,h,_,_,_=>h.elim
 | (_,.ptr _)::_,_,_::_,_,_,h,_,_,_=>h.elim
 | (_,.bV _)::_,_,[],_,_,h,_,_,_=>h.elim
 | (_,.bV _)::_,_,_::_,_,_,h,_,_,_=>h.elim
theorem VV[af]{C:Ctx}{ps:List (Ty×Mode)}{xs:List Operand}{A:lQ ps}(h:(lW C i ps xs).ai T A log){j:Nat}{m:Mode}(hj:ps[j]?=some (t,m))(hm:m.back=true):∃n,m = .mut n:=by
 match m,hj,hm with
 | .ro,_,hm=>cases hm
 | .bV _,_,hm=>cases hm
 | .mut n,_,_=>exact⟨n,rfl⟩
 | .ptr n,hj,_=>exact absurd hj (IZ h j t n)
end
section
variable{P:Program}{C:Ctx}{w w' w0:World}{S S':Nat->Prop}{L L' L0:Nat->aj}{s N:Nat}{vs:List Nat}{T T':List V}{tm tm':Array Value}{a:Act}
theorem CJ{l:aj}{s:Nat}{q:List Nat}(h:nA mu m d l = .own s q):∃i,l = .own i q/\((i=m/\s=d)\/(i≠m/\∃j,mu=some (s,j))):=by
 cases l with
 | own i q' =>
  unfold nA at h;dsimp only at h;split at h
  ·rename_i hi;injection h with h1 h2;exact⟨i,by rw[h2],.inl ⟨hi,h1.symm⟩⟩
  ·rename_i hi;split at h
   ·injection h with h1 h2;subst h1;exact⟨i,by rw[h2],.inr ⟨hi,_,rfl⟩⟩
   ·cases h
 | au=>cases h
 | free=>cases h
 | other=>cases h
def gH(mu:Option (Nat×Nat))(l:aj):Prop:=l = .free\/∃s q,l = .own s q/\mu.map (·.1)=some s
theorem jU(h:gH mu (L k)):dJ mu m d L L' k=nA mu m d (L' k):=by
 unfold dJ;rcases h with h|⟨s,q,h,hm⟩
 ·rw[h]
 ·rw[h];simp[hm]
theorem oH(h:¬gH mu (L k)):dJ mu m d L L' k=L k:=by
 unfold dJ;cases hl:L k with
 | own s q =>
  dsimp only;rw[if_neg];intro hm;exact h (.inr ⟨s,q,hl,hm⟩)
 | au=>rfl
 | other=>rfl
 | free=>exact absurd (.inl hl) h
theorem kN{mu:Option (Nat×Nat)}{ls:List Nat}{l:aj}(h:¬gH mu l):cO mu ls l = .au\/cO mu ls l = .other:=by
 cases l with
 | own s q =>
  unfold cO;cases mu with
  | none=>dsimp only;split<;>simp
  | some p =>
   obtain⟨r,i⟩:=p;dsimp only;rw[if_neg (λe=>h (.inr ⟨s,q,rfl,by simp[e]⟩))];split<;>simp
 | au=>exact .inl rfl
 | other=>exact .inr rfl
 | free=>exact absurd (.inl rfl) h
theorem Inv.Jh[af](hI:Inv w0 L0 N vs T a w L)(hd:d<N)(hid:(T.getD d .dead).idle=true){ps:List (Ty×Mode)}(hm:m=ps.length)
  (Kj:∀r i,mu=some (r,i)->i<m) (bc:Left w w' (λk=>cO mu ls (L k)) L' ps rs) (lg:T'.length=N)
  (jw:∀j t md,ps[j]?=some (t,md)->md.back=true->mu.map (·.2)=some j)
  {c:Value}
  (bE:∀r i,mu=some (r,i)->(T.getD r .dead).aM=true/\((∀(j:Nat) (t:Ty) (md:Mode),ps[j]?=some (t,md)->md.back=false)\/(T'.getD r .dead).aM=true)/\(T'.getD r .dead).root=none/\aD (dJ mu m d L L') T' (a.put (some d) c).tmps r (T'.getD r .dead) w' (a.tmps.getD r undef))
  (hT:∀s r i,mu=some (r,i)->s≠d->s≠r->(T.getD s .dead).on r=true->(T'.getD s .dead = .dead/\(T.getD s .dead).aM=false) \/
   (T'.getD s .dead=T.getD s .dead/\(T.getD s .dead).aM=false/\aD (dJ mu m d L L') T' (a.put (some d) c).tmps s (T.getD s .dead) w' (a.tmps.getD s undef)))
  (iN:∀s,s≠d->(∀r i,mu=some (r,i)->s≠r/\(T.getD s .dead).on r=false)->T'.getD s .dead=T.getD s .dead)
  {V0:V} (bU:T'.getD d .dead=V0) (wh:∀r,V0.on r=true->r∈vs) (JY:∀k q,L' k = .own m q->V0.aM=true)
  (eB:∀r i,mu=some (r,i)->r∉ls)
  (wk:∀tm',aD (dJ mu m d L L') T' tm' d V0 w' c):Inv w0 L0 N vs T' (a.put (some d) c) w' (dJ mu m d L L'):=by
 have bC:∀r i,mu=some (r,i)->r≠d:=by
  intro r i h;exact di hid (bE r i h).1
 have cG:∀k q,L k ≠ .own d q:=λk q h=>by
  have:=hI.owner k d q h;rw[V.kG hid]at this;cases this
 have nV:∀k,¬gH mu (L k)->(dJ mu m d L L' k=L k/\w'.heap[k]?=w.heap[k]?):=by
  intro k h;have ax:k<w.heap.size:=hI.lt (λe=>h (.inl e));exact⟨oH h,(bc.aT k ax (kN h)).2⟩
 let X:Nat->Prop:=λs=>s=d\/∃r i,mu=some (r,i)/\(s=r\/(T.getD s .dead).on r=true);have mo:∀s,¬X s->s≠d/\(∀r i,mu=some (r,i)->s≠r/\(T.getD s .dead).on r=false):=by
  intro s hs;have hs:=not_or.1 hs;refine⟨hs.1,λr i hr=>⟨λe=>hs.2 ⟨r,i,hr,.inl e⟩,?_⟩⟩;cases ho:(T.getD s .dead).on r with
  | false=>rfl
  | true=>exact absurd ⟨r,i,hr,.inr ho⟩ hs.2
 refine Inv.upd X hI (by simp[Act.put,hI.size]) lg hI.dR ?_ ?_ ?_ ?_ ?_ ?_ ?_ ?_ ?_
 ·refine⟨bc.os.trans hI.fr.os,bc.tape.trans hI.fr.tape,bc.output.trans hI.fr.output,Nat.le_trans hI.fr.size bc.size,Nat.le_trans hI.fr.drawn bc.drawn,λk hk h0=>?_,hI.fr.ij⟩;have h1:=hI.fr.aT k hk h0;have ql:¬gH mu (L k):=by
   rintro (h|⟨s,q,h,_⟩)<;>rw[h1.1]at h<;>rcases h0 with h0|h0<;>rw[h0]at h<;>cases h
  have:=nV k ql;exact⟨this.1.trans h1.1,this.2.trans h1.2⟩
 ·intro k hk;have hf:=hI.free k (Nat.le_trans bc.size hk);rw[jU (.inl hf),bc.free k hk];rfl
 ·intro k k' s q h h';by_cases hp:gH mu (L k)
  ·rw[jU hp]at h;obtain⟨i,e1,e2⟩:=CJ h;by_cases cC:gH mu (L k')
   ·rw[jU cC]at h';obtain⟨i',WE,lX⟩:=CJ h';have:i=i':=by
     rcases e2 with⟨rfl,rfl⟩|⟨h1,j,h2⟩
     ·rcases lX with⟨h3,_⟩|⟨_,j,h4⟩
      ·exact h3.symm
      ·exact absurd rfl (bC _ _ h4)
     ·rcases lX with⟨rfl,rfl⟩|⟨h3,j',h4⟩
      ·exact absurd rfl (bC _ _ h2)
      ·
       rcases bc.owner k i q e1 with⟨h5,_⟩|⟨t,n,h5,h5'⟩
       ·exact absurd (h5.trans hm.symm) h1
       ·rcases bc.owner k' i' q WE with⟨h6,_⟩|⟨t',n',h6,CR⟩
        ·exact absurd (h6.trans hm.symm) h3
        ·have e5:=jw i t n h5 h5';have e6:=jw i' t' n' h6 CR;rw[e5]at e6;exact Option.some.inj e6
    subst this;exact bc.inj k k' i q e1 WE
   ·rw[oH cC]at h';rcases e2 with⟨_,rfl⟩|⟨_,j,h2⟩
    ·exact absurd h' (cG k' q)
    ·exact absurd (.inr ⟨s,q,h',by simp[h2]⟩) cC
  ·rw[oH hp]at h;by_cases cC:gH mu (L k')
   ·rw[jU cC]at h';obtain⟨i,e1,e2⟩:=CJ h';rcases e2 with⟨_,rfl⟩|⟨_,j,h2⟩
    ·exact absurd h (cG k q)
    ·exact absurd (.inr ⟨s,q,h,by simp[h2]⟩) hp
   ·rw[oH cC]at h';exact hI.inj k k' s q h h'
 ·intro k s q h;by_cases hp:gH mu (L k)
  ·rw[jU hp]at h;obtain⟨i,e1,e2⟩:=CJ h;rcases e2 with⟨rfl,rfl⟩|⟨Kd,j,h2⟩
   ·rw[bU];exact JY k q e1
   ·rcases (bE s j h2).2.1 with cB|anc
    ·rcases bc.owner k i q e1 with⟨h5,_⟩|⟨t,md,h5,h6⟩
     ·exact absurd (h5.trans hm.symm) Kd
     ·rw[cB i t md h5]at h6;cases h6
    ·exact anc
  ·rw[oH hp]at h;have ho:=hI.owner k s q h;have bL:s≠d:=di hid ho;by_cases hx:X s
   ·rcases hx with h|⟨r,i,hr,h|h⟩
    ·exact absurd h bL
    ·exact absurd (.inr ⟨s,q,by assumption,by simp[hr,h]⟩) hp
    ·by_cases bu:s=r
     ·exact absurd (.inr ⟨s,q,by assumption,by simp[hr,bu]⟩) hp
     ·rcases hT s r i hr bL bu h with⟨_,h⟩|⟨_,h,_⟩
      ·rw[h]at ho;cases ho
      ·rw[h]at ho;cases ho
   ·obtain⟨_,h2⟩:=mo s hx;rw[iN s bL h2];exact ho
 ·intro s hs k hk;obtain⟨h1,h2⟩:=mo s hs;refine nV k ?_
  rintro (hp|⟨s',q',hp,gp⟩)
  ·rcases hk with hk|⟨r,q,hk,_⟩<;>rw[hp]at hk<;>cases hk
  ·obtain⟨⟨r,i⟩,hr,mA⟩:=Option.map_eq_some_iff.1 gp;dsimp only at mA;subst mA;rcases hk with hk|⟨r',q,hk,gT⟩
   ·rw[hp]at hk;cases hk
   ·rw[hp]at hk;injection hk with hk _;subst hk;rcases gT with rfl|gT
    ·exact (h2 _ _ hr).1 rfl
    ·rw[(h2 _ _ hr).2]at gT;cases gT
 ·intro s hs;obtain⟨h1,h2⟩:=mo s hs;refine⟨iN s h1 h2,?_⟩;show (a.tmps.setIfInBounds d c).getD s undef=_;rw[ed,if_neg (λe=>h1 e.1)]
 ·intro s r h;by_cases bL:s=d
  ·subst bL;rw[bU]at h;exact wh r h
  ·by_cases hx:X s
   ·rcases hx with h1|⟨r1,i,hr,h1⟩
    ·exact absurd h1 bL
    ·by_cases bu:s=r1
     ·subst bu;have h0:=(bE s i hr).2.2.1;unfold V.on at h;rw[h0]at h;cases h
     ·have ho:=h1.resolve_left bu;rcases hT s r1 i hr bL bu ho with⟨h2,_⟩|⟨h2,_⟩
      ·rw[h2]at h;simp[V.on,V.root]at h
      ·rw[h2]at h;exact hI.roots s r h
   ·obtain⟨_,h2⟩:=mo s hx;rw[iN s bL h2]at h;exact hI.roots s r h
 ·intro s r hs ag ho;obtain⟨h1,h2⟩:=mo s hs;have o7:r≠d:=di hid ho;have:T'.getD r .dead=T.getD r .dead:=by
   by_cases hx:X r
   ·rcases hx with h|⟨r1,i,hr,h|h⟩
    ·exact absurd h o7
    ·subst h;rw[(h2 r i hr).2]at ag;cases ag
    ·by_cases bu:r=r1
     ·subst bu;rw[(h2 r i hr).2]at ag;cases ag
     ·rcases hT r r1 i hr o7 bu h with⟨_,h⟩|⟨h,_⟩
      ·rw[h]at ho;cases ho
      ·exact h
   ·obtain⟨_,h3⟩:=mo r hx;exact iN r o7 h3
  refine⟨this,?_⟩;show (a.tmps.setIfInBounds d c).getD r undef=_;rw[ed,if_neg (λe=>o7 e.1)]
 ·intro s hX;by_cases bL:s=d
  ·subst bL;rw[bU];show aD _ _ _ _ _ _ ((a.tmps.setIfInBounds s c).getD s undef);rw[ed,if_pos ⟨rfl,by rw[hI.size];exact hd⟩];exact wk _
  ·obtain⟨r,i,hr,hX⟩:=hX.resolve_left bL;have gv:∀s',s'≠d->(a.put (some d) c).tmps.getD s' undef=a.tmps.getD s' undef:=λs' h=>kJ (by simpa using Ne.symm h);rw[gv s bL];by_cases bu:s=r
   ·subst bu;exact (bE s i hr).2.2.2
   ·have ho:=hX.resolve_left bu;rcases hT s r i hr bL bu ho with⟨h,_⟩|⟨h,_,h'⟩
    ·rw[h];trivial
    ·rw[h];exact h'
theorem Inv.called[af](hI:Inv w0 L0 N vs T a w L)(hd:d<N)(hid:(T.getD d .dead).idle=true){mu:Option (Nat×Nat)}{ls:List Nat}{ps:List (Ty×Mode)}(hm:m=ps.length)
  (Kj:∀r i,mu=some (r,i)->i<m) (bc:Left w w' (λk=>cO mu ls (L k)) L' ps rs) (lg:T'.length=N)
  (jw:∀j t md,ps[j]?=some (t,md)->md.back=true->mu.map (·.2)=some j)
  (bE:∀r i,mu=some (r,i)->∃t n y y2 cells,T.getD r .dead = .d none n t y/\(n≠0/\(t.depth<=n\/ls=[]))/\t.depth≠0/\T'.getD r .dead = .d none n t y2/\Form t cells (a.tmps.getD r undef)/\Own w' L' (λk=>L' k = .au) i n t y2 [] 0 cells)
  (hT:∀s r i,mu=some (r,i)->s≠d->s≠r->(T.getD s .dead).on r=true->(T'.getD s .dead = .dead/\(T.getD s .dead).aM=false)\/(T'.getD s .dead=T.getD s .dead/\∃t,T.getD s .dead = .view r [] t))
  (iN:∀s,s≠d->(∀r i,mu=some (r,i)->s≠r/\(T.getD s .dead).on r=false)->T'.getD s .dead=T.getD s .dead)
  {V0:V} {c:Value} (bU:T'.getD d .dead=V0) (wh:∀r,V0.on r=true->r∈vs) (JY:∀k q,L' k = .own m q->V0.aM=true)
  (eB:∀r i,mu=some (r,i)->r∉ls)
  (wk:∀tm',aD (dJ mu m d L L') T' tm' d V0 w' c):Inv w0 L0 N vs T' (a.put (some d) c) w' (dJ mu m d L L'):=by
 have bC:∀r i,mu=some (r,i)->r≠d:=by
  intro r i h;obtain⟨t,n,y,y2,cells,h1,h2,h3,_⟩:=bE r i h;refine di hid ?_;rw[h1];simp only[V.aM,Bool.and_eq_true,bne_iff_ne];omega
 have gv:∀s',s'≠d->(a.put (some d) c).tmps.getD s' undef=a.tmps.getD s' undef:=λs' h=>kJ (by simpa using Ne.symm h);refine Inv.Jh hI hd hid hm Kj bc lg jw (λr i hr=>?_) (λs r i hr bL bu ho=>?_) iN bU wh JY eB wk
 ·obtain⟨t,n,y,y2,cells,h3,h4,h5,h6,h7,h8⟩:=bE r i hr;refine⟨by rw[h3];simp only[V.aM,Bool.and_eq_true,bne_iff_ne];omega,.inr (by rw[h6];simp only[V.aM,Bool.and_eq_true,bne_iff_ne];omega),by rw[h6];rfl,?_⟩;rw[h6];refine⟨by simp,cells,h7,?_⟩;have wK:i≠m:=by have:=Kj r i hr;omega
  have bz:∀k q',L' k = .own i q'->dJ mu m d L L' k = .own r q':=by
   intro k q' hk;have hp:gH mu (L k):=by
    apply Classical.byContradiction;intro hp;have ax:k<w.heap.size:=hI.lt (λe=>hp (.inl e));have h9:=(bc.aT k ax (kN hp)).1;rw[hk]at h9;rcases kN (ls:=ls) hp with h|h<;>rw[h]at h9<;>cases h9
   rw[jU hp,hk];simp[nA,wK,hr]
  rcases h4.2 with h4|h4
  ·exact Own.move (S:=λ_=>False) (λk hk=>hk.elim) (λk dd rest _ hk=>⟨bz k _ hk,rfl⟩) (Own.full h4 h8)
  ·refine Own.move (λk hk=>⟨.inl ?_,rfl⟩) (λk dd rest _ hk=>⟨bz k _ hk,rfl⟩) h8;have hk:L' k = .au:=hk;by_cases hp:gH mu (L k)
   ·rw[jU hp,hk];rfl
   ·have ax:k<w.heap.size:=hI.lt (λe=>hp (.inl e));have h9:=(bc.aT k ax (kN hp)).1;rw[hk]at h9;rw[oH hp];cases iq:L k with
    | au=>rfl
    | own s q' =>
     rw[iq,h4]at h9;exfalso;unfold cO at h9;cases mu with
     | none=>cases hr
     | some p =>
      obtain⟨r1,i1⟩:=p;dsimp only at h9;split at h9
      ·cases h9
      ·split at h9
       ·rename_i hc;simp at hc
       ·cases h9
    | other=>rw[iq]at h9;cases h9
    | free=>exact absurd (.inl iq) hp
 ·obtain⟨t,n,y,y2,cells,h3,h4,h5,h6,h7,h8⟩:=bE r i hr;rcases hT s r i hr bL bu ho with h|⟨h,t',h'⟩
  ·exact .inl h
  ·refine .inr ⟨h,by rw[h'];rfl,?_⟩;rw[h'];have hs:=hI.aY s;rw[h']at hs;obtain⟨_,h1⟩:=hs;rcases h1 with⟨_,h2,l1,n1,x1,h9,mb⟩|⟨_,_,_,h2,_⟩
   ·rw[h3]at h9;cases h9;refine⟨by rw[h6];simp only[V.deep,Bool.and_eq_true,bne_iff_ne];omega,.inl ⟨rfl,?_,none,n,y2,h6,by simp only[V.aM,Bool.and_eq_true,bne_iff_ne];omega⟩⟩;rw[gv r (bC r i hr)];exact h2
   ·rw[h3]at h2;simp[V.dG]at h2
end
def xV:(rs:List (Ty×Nat))->(cV rs).den->List (Nat×Option (Nat×(t:Ty)×t.den))
 | [],_=>[]
 | (t,n)::rs,x=>(t.sz,some (n,⟨t,x.1⟩))::xV rs x.2
def mO(vs ls:List Nat):(rs:List (Ty×Nat))->(cV rs).den->Option V
 | [(t,n)],x=>if 1000<=n then (match ls with
  | []=>some (.box none (n - 1000) t x.1)
  | _::_=>none)else if t.depth<=n then some (.d none n t x.1)else match ls with
  | []=>some (.d none n t x.1)
  | l::Lf=>cond (Lf.all (· == l)&&vs.contains l) (some (.d (some l) n t x.1)) none
 | rs,x=>cond (ls.isEmpty||rs.all (λp=>decide (p.1.depth<=p.2))) (some (.bF (xV rs x))) none
def tI:(ps:List (Ty×Mode))->(cI ps).den->Option V
 | [],_=>none
 | (t,.mut n)::_,x=>some (.d none n t x.1)
 | (_,.ptr _)::_,_=>none
 | (_,.bV _)::_,_=>none
 | (_,.ro)::ps,x=>tI ps x
abbrev cX:=FuncId->Option Fn
def qK:List (Ty×Mode)->Bool
 | []=>true
 | (t,.mut n)::ps=>decide (t.depth<=n)&&qK ps
 | _::ps=>qK ps
def vT(C:Ctx)(bj:cX)(vs:List Nat)(N d:Nat)(f:FuncId)(args:List Operand):M (List (Nat×V)):=
 match bj f with
 | none=>.fail
 | some F=>(lW C 0 F.ps args).bind λA=>match A.mu with
  | []=>.cM (.pair (cV F.rs) (cI F.ps)) (F.an A.x) λr=>match mO vs A.ls F.rs r.1 with
   | some v=>.ret [(d,v)]
   | none=>.fail
  | [(r0,_)]=>cond (A.ls.contains r0 || !decide (r0<N) || !(qK F.ps||A.ls.isEmpty)) .fail (.get r0 λu=>.cM (.pair (cV F.rs) (cI F.ps)) (F.an A.x) λr=>match mO vs A.ls F.rs r.1,tI F.ps r.2 with
   | some v,some u'=>(allM 0 N).bind λTs=>.bn (oN r0 u (some r0) 0 Ts) (.ret (((r0,u')::dZ r0 u (some r0) 0 Ts)++[(d,v)]))
   | _,_=>.fail)
  | _=>.fail
def fC[af](P:Program)(bj:cX):Prop:=∀f F,bj f=some F->ao P f F
section
variable{P:Program}{C:Ctx}{w w' w0:World}{S S':Nat->Prop}{L L' L0:Nat->aj}{s N:Nat}{vs:List Nat}{T T':List V}{tm tm':Array Value}{a:Act}
theorem xv:{ps:List (Ty×Mode)}->qK ps=true->(j:Nat)->{t:Ty}->{n:Nat}->ps[j]?=some (t,.mut n)->t.depth<=n
 | [],_,_,_,_,h=>by simp at h
 | (t0,.mut n0)::ps,h,0,t,n,hj=>by
  simp only[qK,Bool.and_eq_true,decide_eq_true_eq]at h;simp only[List.getElem?_cons_zero,Option.some.injEq,Prod.mk.injEq,Mode.mut.injEq]at hj;obtain⟨rfl,rfl⟩:=hj;exact h.1
 | (t0,.mut n0)::ps,h,j+1,t,n,hj=>by
  simp only[qK,Bool.and_eq_true]at h;exact xv h.2 j (by simpa using hj)
 | (t0,.ro)::ps,h,0,t,n,hj=>by simp at hj
 | (t0,.ptr _)::ps,h,0,t,n,hj=>by simp at hj
 | (t0,.bV _)::ps,h,0,t,n,hj=>by simp at hj
 | (t0,.ro)::ps,h,j+1,t,n,hj=>xv (ps:=ps) h j (by simpa using hj)
 | (t0,.ptr _)::ps,h,j+1,t,n,hj=>xv (ps:=ps) h j (by simpa using hj)
 | (t0,.bV _)::ps,h,j+1,t,n,hj=>xv (ps:=ps) h j (by simpa using hj)
theorem Lr:{ps:List (Ty×Mode)}->{i:Nat}->{x:(cI ps).den}->{cs:List Value}->{v:V}->fV w L0 i ps x cs->tI ps x=some v ->
  ∃j t n y c cells,ps[j]?=some (t,.mut n)/\v = .d none n t y/\cs[j]?=some c/\Form t cells c/\Own w L0 (λk=>L0 k = .au) (i+j) n t y [] 0 cells
 | [],_,_,_,_,_,hv=>by cases hv
 | (t,.mut n)::ps,i,x,cs,v,h,hv=>by
  simp only[fV]at h;obtain⟨c,bl,cells,rfl,h1,h2,_⟩:=h;simp only[tI,Option.some.injEq]at hv;exact⟨0,t,n,x.1,c,cells,rfl,hv.symm,rfl,h1,h2⟩
 | (t,.ptr n)::ps,i,x,cs,v,h,hv=>by cases hv
 | (t,.bV n)::ps,i,x,cs,v,h,hv=>by cases hv
 | (t,.ro)::ps,i,x,cs,v,h,hv=>by
  simp only[fV]at h;obtain⟨c,bl,rfl,h⟩:=h;simp only[tI]at hv;obtain⟨j,t',n,y,c',cells,h1,h2,h3,h4,h5⟩:=Lr h hv;exact⟨j+1,t',n,y,c',cells,by simpa using h1,h2,by simpa using h3,h4,by rw[show i+(j+1)=i+1+j by omega];exact h5⟩
theorem vR[af]{mu:Option (Nat×Nat)}{ls:List Nat}{ps:List (Ty×Mode)}(hI:Inv w0 L0 N vs T a w L)(bc:Left w w' (λk=>cO mu ls (L k)) L' ps rs)
  {l:Option Nat} {n:Nat} {t:Ty} {x:t.den} {q:List Nat} {o:Nat} {cs:List Value} (hl:t.depth<=n\/∀r∈ls,l=some r)
  (h:Own w' L' (λk=>L' k = .au) m n t x q o cs):Own w' (dJ mu m d L L') (SL (dJ mu m d L L') l) d n t x q o cs:=by
 have bz:∀k q',L' k = .own m q'->dJ mu m d L L' k = .own d q':=by
  intro k q' hk;have hp:gH mu (L k):=by
   apply Classical.byContradiction;intro hp;have ax:k<w.heap.size:=hI.lt (λe=>hp (.inl e));have h9:=(bc.aT k ax (kN hp)).1;rw[hk]at h9;rcases kN (ls:=ls) hp with h|h<;>rw[h]at h9<;>cases h9
  rw[jU hp,hk];simp[nA]
 rcases hl with hl|hl
 ·exact Own.move (S:=λ_=>False) (λk hk=>hk.elim) (λk dd rest _ hk=>⟨bz k _ hk,rfl⟩) (Own.full hl h)
 ·refine Own.move (λk hk=>⟨?_,rfl⟩) (λk dd rest _ hk=>⟨bz k _ hk,rfl⟩) h;by_cases hp:gH mu (L k)
  ·left;rw[jU hp,hk];rfl
  ·have ax:k<w.heap.size:=hI.lt (λe=>hp (.inl e));have h9:=(bc.aT k ax (kN hp)).1;rw[hk]at h9;unfold SL;rw[oH hp];cases iq:L k with
   | au=>exact .inl rfl
   | own s q' =>
    right;rw[iq]at h9;unfold cO at h9;refine⟨s,q',hl s ?_,rfl⟩;cases mu with
    | none =>
     dsimp only at h9;split at h9
     ·rename_i hc;simpa using hc
     ·cases h9
    | some p =>
     obtain⟨r,i⟩:=p;dsimp only at h9;split at h9
     ·cases h9
     ·split at h9
      ·rename_i hc;simpa using hc
      ·cases h9
   | other=>rw[iq]at h9;cases h9
   | free=>exact absurd (.inl iq) hp
theorem ab2[af]{ps:List (Ty×Mode)}{L4:List (Ty×Nat)}(hI:Inv w0 L0 N vs T a w L)(bc:Left w w' (λk=>cO mu ls (L k)) L' ps L4):
  {rs:List (Ty×Nat)}->{o:Nat}->{x:(cV rs).den}->{cs:List Value}->(ls=[]\/∀p∈rs,p.1.depth<=p.2)->jj w' L' m o rs x cs->fe w' (dJ mu m d L L') d o (xV rs x) cs
 | [],_,_,_,_,h=>h
 | (t,n)::rs,o,x,cs,hl,h=>by
  simp only[jj]at h;obtain⟨c,bl,cells,rfl,h1,h2,h3⟩:=h;refine⟨c,bl,rfl,λn' t' x' hc=>?_,ab2 hI bc (hl.imp id λh p hp=>h p (by simp[hp])) h3⟩;simp only[Option.some.injEq,Prod.mk.injEq]at hc;obtain⟨rfl,hc⟩:=hc;cases hc;refine⟨rfl,cells,h1,vR hI bc ?_ h2⟩;rcases hl with rfl|hl
  ·exact .inr (by simp)
  ·exact .inl (hl (t,n) (by simp))
theorem arP[af]{ps:List (Ty×Mode)}{L4:List (Ty×Nat)}{tm':Array Value}(hI:Inv w0 L0 N vs T a w L)(bc:Left w w' (λk=>cO mu ls (L k)) L' ps L4)
  {rs:List (Ty×Nat)} {x:(cV rs).den} {cs:List Value} (bo:∀p,rs≠[p]) (hl:ls=[]\/∀p∈rs,p.1.depth<=p.2) (h:jj w' L' m 0 rs x cs):aD (dJ mu m d L L') T' tm' d (.bF (xV rs x)) w' (pn cs):=by
 refine⟨cs.toArray,?_,by simpa using ab2 hI bc hl h⟩
 match rs,x,cs,h with
 | [],_,cs,h =>
  obtain rfl:cs=[]:=h;rfl
 | [p],_,_,_=>exact absurd rfl (bo p)
 | p::p'::rs,x,cs,h =>
  obtain⟨c,bl,cells,rfl,_,_,h3⟩:=h;obtain⟨c',axq,cw,rfl,_⟩:=h3;rfl
theorem xJ[af]{ls:List Nat}{ps:List (Ty×Mode)}{d:Nat}(hI:Inv w0 L0 N vs T a w L)(bc:Left w w' (λk=>cO mu ls (L k)) L' ps rs)
  (hm:m=ps.length) (C0:∀r∈ls,(T'.getD r .dead).deep=true) {x:(cV rs).den} {cs:List Value} {v:V} (h:jR w' L' m rs x cs) (hv:mO vs ls rs x=some v) :
  (∀r,v.on r=true->r∈vs)/\(∀k q,L' k = .own m q->v.aM=true)/\∀tm',aD (dJ mu m d L L') T' tm' d v w' (pn cs):=by
 have wY:∀k q,L' k = .own m q->∃t n,(t,n)∈rs/\((n≠0/\t.depth≠0)\/1000<=n):=by
  intro k q hk;rcases bc.owner k m q hk with⟨_,h⟩|⟨t,n,h,_⟩
  ·exact h
  ·rw[hm]at h;simp at h
 have ti:xn rs=true->(∀p,rs≠[p])->cond (ls.isEmpty||rs.all (λp=>decide (p.1.depth<=p.2))) (some (V.bF (xV rs x))) none=some v ->
   (∀r,v.on r=true->r∈vs)/\(∀k q,L' k = .own m q->v.aM=true)/\∀tm',aD (dJ mu m d L L') T' tm' d v w' (pn cs):=by
  intro amx bo hv;have h:=(jR.low amx).1 h;cases hc:(ls.isEmpty||rs.all (λp=>decide (p.1.depth<=p.2)))with
  | false=>rw[hc]at hv;cases hv
  | true =>
   rw[hc]at hv;injection hv with hv;subst hv;refine⟨λr h=>by simp[V.on,V.root]at h,λk q hk=>?_,λtm'=>arP hI bc bo ?_ h⟩
   ·exact rfl
   ·simp only[Bool.or_eq_true,List.isEmpty_iff,List.all_eq_true,decide_eq_true_eq]at hc;exact hc
 match rs,x,h,hv,ti,wY with
 | [],x,h,hv,ti,wY=>exact ti rfl (by simp) hv
 | p::p'::rs,x,h,hv,ti,wY=>exact ti rfl (by simp) hv
 | [(t,n)],x,h,hv,ti,wY =>
  by_cases Db:1000<=n
  ·simp only[mO,if_pos Db]at hv;cases ls with
   | cons _ _=>cases hv
   | nil =>
    injection hv with hv;subst hv;rcases h with⟨h,_⟩|⟨_,c,rfl,g,cur,e,rfl,h1,h2,h3,h4⟩
    ·omega
    ·refine⟨λr h=>by simp[V.on,V.root]at h,λ_ _ _=>rfl,λtm'=>⟨by simp,g,cur,e,rfl,?_,h2,h3,vR hI bc (.inr (by simp)) h4⟩⟩;have hp:gH mu (L g):=by
      apply Classical.byContradiction;intro hp;have ax:g<w.heap.size:=hI.lt (λe=>hp (.inl e));have h9:=(bc.aT g ax (kN hp)).1;rw[h1]at h9;rcases kN (ls:=[]) hp with h|h<;>rw[h]at h9<;>cases h9
     rw[jU hp,h1];simp[nA]
  have h:=((or_iff_left (b:=_) (λhh=>Db hh.1)).1 h).2;simp only[jj]at h;obtain⟨c,bl,cells,rfl,h1,h2,rfl⟩:=h;have ix:∀l,∀k q,L' k = .own m q->(V.d l n t x.1).aM=true:=by
   intro l k q hk;obtain⟨t',n',g1,g2⟩:=wY k q hk;simp only[List.mem_singleton,Prod.mk.injEq]at g1;obtain⟨rfl,rfl⟩:=g1;simp only[V.aM,Bool.and_eq_true,bne_iff_ne];exact g2.resolve_right Db
  simp only[mO,if_neg Db]at hv;split at hv
  ·rename_i hd;injection hv with hv;subst hv;exact⟨λr h=>by simp[V.on,V.root]at h,ix none,λtm'=>⟨by simp,cells,h1,vR hI bc (.inl hd) h2⟩⟩
  ·cases ls with
   | nil =>
    injection hv with hv;subst hv;exact⟨λr h=>by simp[V.on,V.root]at h,ix none,λtm'=>⟨by simp,cells,h1,vR hI bc (.inr (by simp)) h2⟩⟩
   | cons l Lf =>
    dsimp only at hv;cases hc:(Lf.all (· == l)&&vs.contains l)with
    | false=>rw[hc]at hv;cases hv
    | true =>
     rw[hc]at hv;injection hv with hv;subst hv;simp only[Bool.and_eq_true,List.all_eq_true,beq_iff_eq]at hc;refine⟨λr h=>?_,ix _,λtm'=>⟨λr hr=>?_,cells,h1,vR hI bc (.inr λr hr=>?_) h2⟩⟩
     ·have:l=r:=by simpa[V.on,V.root]using h
      rw[<-this];simpa using hc.2
     ·injection hr with hr;exact C0 r (by rw[hr];simp)
     ·rcases List.mem_cons.1 hr with rfl|hr
      ·rfl
      ·rw[hc.1 r hr]
theorem Mm[af](hI:Inv w0 L0 N vs T a w L){bj:cX}(ej:fC P bj){f:FuncId}{args:Array Operand}{cJ:Array TypeId}{d:Nat}  
  (ho:o.op = .call { callee:=.value (.func f),args,argTypes:=cJ }) (aB:o.dst=some d) (hd:d<N) (hid:(T.getD d .dead).idle=true)
  (h:(vT C bj vs N d f args.toList).ai T ups log):Step P o w0 L0 N vs (ah T ups) a w:=by
 unfold vT at h;split at h
 ·exact h.elim
 ·rename_i F hF;obtain⟨⟨fn,iR,gq,nG⟩,aC⟩:=ej f F hF;have hb:=M.aq h;clear h;obtain⟨A,l1,l2,rfl,h1,h⟩:=hb;obtain⟨eB,gp,qj,il⟩:=I0 hI h1;have aP:=Go.Conc.run_call_body (P:=P) (a:=a) (w:=w) ho iR gq nG;have mj:∀r∈A.ls,r≠d:=λr hr=>di hid (V.fq (eB r hr));have fin:∀(mu:Option (Nat×Nat)),A.mu=mu.toList->(∀r i,mu=some (r,i)->r∉A.ls)->∀r,F.an A.x=some r ->
    (∀w' cs L',Left w w' (λk=>cO mu A.ls (L k)) L' F.ps F.rs->jR w' L' F.ps.length F.rs r.1 cs->fV w' L' 0 F.ps r.2 (args.toList.map a.eval)->Inv w0 L0 N vs (ah T ups) (a.put (some d) (pn cs)) w' (dJ mu F.ps.length d L L')) ->
    Step P o w0 L0 N vs (ah T ups) a w:=by
   intro mu Yc amB r fj hinv K Q hK;unfold Oper.wp;rw[aP,Oper.upon_enter];have gn:∀r i,mu=some (r,i)->(r,i)∈A.mu:=λr i h=>by rw[Yc,h];simp
   have nN:jQ w (λk=>cO mu A.ls (L k)) F.ps:=by
    refine⟨λk hk=>by rw[hI.free k hk];rfl,λk k' s q h h'=>?_,λk s q h=>?_,af.aT hI.fr.ij λk hk h0=>⟨?_,(hI.fr.aT k hk h0).2⟩⟩
    ·obtain⟨r1,e1,e2⟩:=lK h;obtain⟨r2,e3,e4⟩:=lK h';rw[e1]at e3;injection e3 with e3;injection e3 with e3 _;subst e3;exact hI.inj k k' _ _ e2 e4
    ·obtain⟨r1,e1,e2⟩:=lK h;obtain⟨_,t,n,y,h2,h3,h4,_⟩:=gp r1 s (gn r1 s e1);exact⟨t,.mut n,by simpa using h2,by simp only[Mode.owned,Bool.and_eq_true,bne_iff_ne];omega⟩
    ·rw[(hI.fr.aT k hk h0).1];rcases h0 with h0|h0<;>rw[h0]<;>simp[cO]
   have dM:=il (λk=>cO mu A.ls (L k)) (λk hk=>by rw[hk];rfl) (λk r q hr hk=>by
    rw[hk];unfold cO;cases mu with
    | none=>dsimp only;rw[if_pos (by simpa using hr)]
    | some p =>
     obtain⟨r0,i⟩:=p;dsimp only;rw[if_neg (λe:r=r0=>amB r0 i rfl (by rw[<-e];exact hr)),if_pos (by simpa using hr)]) (λk r j q hm hk=>by
    rw[hk];rw[Yc]at hm;cases mu with
    | none=>simp at hm
    | some p =>
     obtain⟨r0,i⟩:=p;simp only[Option.toList_some,List.mem_singleton,Prod.mk.injEq]at hm;obtain⟨rfl,rfl⟩:=hm;simp[cO])
   refine Calls.mono (aC A.x r fj w _ (args.map a.eval) nN (by simpa using dM)) ?_
   rintro e w' ⟨cs,L',rfl,bc,cm,km⟩
   dsimp only;rw[aB];exact hK _ _ _ (hinv w' cs L' bc cm (by simpa using km))
  rcases fi:A.mu with _|⟨⟨r0,i⟩,_|⟨p2,rest⟩⟩
  ·
   rw[fi]at h;obtain⟨r,fj,h⟩:=h;dsimp only at h;split at h
   ·rename_i v hv;obtain⟨rfl,_⟩:=h;refine fin none (by simpa using fi) (by simp) r fj (λw' cs L' bc cm km=>?_);have nR:∀(j:Nat) (t:Ty) (m:Mode),F.ps[j]?=some (t,m)->m.back=true->False:=by
     intro j t m hj hm;obtain⟨n,rfl⟩:=VV h1 hj hm;obtain⟨r',aZ⟩:=qj j t n hj;rw[fi]at aZ;simp at aZ
    have bU:(ah T [(d,v)]).getD d .dead=v:=by
     show (T.set d v).getD d .dead=v;rw[aH,if_pos ⟨rfl,by rw[hI.len];exact hd⟩]
    have br:∀s,s≠d->(ah T [(d,v)]).getD s .dead=T.getD s .dead:=by
     intro s hs;show (T.set d v).getD s .dead=_;rw[aH,if_neg (λe=>hs e.1)]
    obtain⟨k1,k2,k3⟩:=xJ (T':=ah T [(d,v)]) (d:=d) hI bc rfl (λr hr=>by rw[br r (mj r hr)];exact eB r hr) cm hv;exact Inv.called hI hd hid rfl (λr i h=>by cases h) bc (by rw[cH,hI.len]) (λj t n hj hm=>(nR j t n hj hm).elim) (λr i h=>by cases h) (λs r i h=>by cases h) (λs hs _=>br s hs) bU k1 k2 (λr i h=>by cases h) k3
   ·exact h.elim
  ·
   rw[fi]at h;dsimp only at h;cases hc:(A.ls.contains r0 || !decide (r0<N) || !(qK F.ps||A.ls.isEmpty))with
   | true=>rw[hc]at h;exact h.elim
   | false =>
    rw[hc]at h;obtain⟨aG,rfl,h⟩:=h;obtain⟨r,fj,h⟩:=h;dsimp only at h;rw[Bool.or_eq_false_iff,Bool.or_eq_false_iff,Bool.not_eq_false',Bool.not_eq_false',decide_eq_true_eq]at hc;obtain⟨⟨eA,dw⟩,mf⟩:=hc;have jx:r0∉A.ls:=λhm=>by rw[List.contains_iff_mem.2 hm]at eA;cases eA
    split at h
    ·rename_i v u' hv qu;obtain⟨Ts,l3,l4,rfl,dS,ju,nX⟩:=M.aq h;obtain⟨rfl,_⟩:=nX;have bI:Ts=T:=by rw[lT dS (by rw[Nat.zero_add,hI.len])];rfl
     subst bI;obtain⟨_,t,n,y,h2,h3,h4,h5,h6⟩:=gp r0 i (by rw[fi];simp);simp only[Nat.sub_zero]at h2 h6;have td:i<F.ps.length:=(List.getElem?_eq_some_iff.1 h2).1;have w4:r0≠d:=di hid (by rw[h5];simp only[V.aM,Bool.and_eq_true,bne_iff_ne];omega);have jw:∀(j:Nat) (t:Ty) (n:Nat),F.ps[j]?=some (t,Mode.mut n)->j=i:=by
      intro j t n hj;obtain⟨r',aZ⟩:=qj j t n hj;rw[fi]at aZ;simp only[List.mem_singleton,Prod.mk.injEq]at aZ;omega
     refine fin (some (r0,i)) (by simpa using fi) (λr' i' h=>by injection h with h;injection h with h _;subst h;exact jx) r fj (λw' cs L' bc cm km=>?_);have ik:ah Ts (((r0,u')::dZ r0 (Ts.getD r0 .dead) (some r0) 0 Ts)++[(d,v)])=(ah Ts ((r0,u')::dZ r0 (Ts.getD r0 .dead) (some r0) 0 Ts)).set d v:=by
      rw[lE];rfl
     have nO:(ah Ts ((r0,u')::dZ r0 (Ts.getD r0 .dead) (some r0) 0 Ts)).length=N:=by rw[cH,hI.len]
     have bU:(ah Ts (((r0,u')::dZ r0 (Ts.getD r0 .dead) (some r0) 0 Ts)++[(d,v)])).getD d .dead=v:=by
      rw[ik,aH,if_pos ⟨rfl,by rw[nO];exact hd⟩]
     have br:∀s,s≠d->(ah Ts (((r0,u')::dZ r0 (Ts.getD r0 .dead) (some r0) 0 Ts)++[(d,v)])).getD s .dead=(ah Ts ((r0,u')::dZ r0 (Ts.getD r0 .dead) (some r0) 0 Ts)).getD s .dead:=by
      intro s hs;rw[ik,aH,if_neg (λe=>hs e.1)]
     have eL:∀s v,(s,v)∈((r0,u')::dZ r0 (Ts.getD r0 .dead) (some r0) 0 Ts)->(s=r0/\v=u')\/(v = .dead/\s≠r0/\((Ts.getD s .dead).on r0&&s != r0&&some r0 != some s && !ca (Ts.getD r0 .dead) (some r0) (Ts.getD s .dead))=true):=by
      intro s v hm;rcases List.mem_cons.1 hm with hm|hm
      ·injection hm with h1 h2;exact .inl ⟨h1,h2⟩
      ·obtain⟨h1,_,_,h2⟩:=(vW s v).1 hm;simp only[Nat.sub_zero]at h2;refine .inr ⟨h1,?_,h2⟩
       rintro rfl
       simp at h2
     have bE:(ah Ts ((r0,u')::dZ r0 (Ts.getD r0 .dead) (some r0) 0 Ts)).getD r0 .dead=u':=by
      refine iK (by rw[hI.len];exact dw) (by simp) (λv hm=>?_);rcases eL r0 v hm with⟨_,h⟩|⟨_,h,_⟩
      ·exact h
      ·exact absurd rfl h
     have oV:∀s,s≠r0->(Ts.getD s .dead).on r0=true->((ah Ts ((r0,u')::dZ r0 (Ts.getD r0 .dead) (some r0) 0 Ts)).getD s .dead = .dead/\(Ts.getD s .dead).aM=false) \/
       ((ah Ts ((r0,u')::dZ r0 (Ts.getD r0 .dead) (some r0) 0 Ts)).getD s .dead=Ts.getD s .dead/\∃t,Ts.getD s .dead = .view r0 [] t):=by
      intro s hs ag;have iy:s<N:=by
       rcases Nat.lt_or_ge s N with h|h
       ·exact h
       ·rw[eJ (by rw[hI.len];exact h)]at ag;simp[V.on,V.root]at ag
      cases hk:ca (Ts.getD r0 .dead) (some r0) (Ts.getD s .dead)with
      | true =>
       refine .inr ⟨fg _ _ _ (λhm=>?_),?_⟩
       ·obtain⟨u,hu,he⟩:=List.mem_map.1 hm;rcases eL s u.2 (by rw[<-he];exact hu)with⟨h,_⟩|⟨_,_,h⟩
        ·exact hs h
        ·rw[hk]at h;simp at h
       ·generalize Dg:Ts.getD s .dead=vv at hk ag;cases vv with
        | view r2 p2 t2 =>
         have:r2=r0:=by simpa[V.on,V.root]using ag
         subst this;cases p2 with
         | nil=>exact⟨t2,rfl⟩
         | cons _ _=>simp[ca]at hk
        | ptr _ _ _ =>
         rw[h5]at hk;simp[ca,V.dG]at hk
        | dead=>simp[ca]at hk
        | bF _=>simp[ca]at hk
        | d _ _ _ _=>simp[ca]at hk
        | box _ _ _ _=>simp[ca]at hk
        | rp _ _ _=>simp[ca]at hk
        | hole _ _=>simp[ca]at hk
        | part _ _ _ _ _=>simp[ca]at hk
        | bP _ _ _ _=>simp[ca]at hk
        | same _ _=>simp[ca]at hk
      | false =>
       have hc:((Ts.getD s .dead).on r0&&s != r0&&some r0 != some s && !ca (Ts.getD r0 .dead) (some r0) (Ts.getD s .dead))=true:=by
        rw[ag,hk];simp only[Bool.and_eq_true,bne_iff_ne,Bool.not_false,and_true,true_and];exact⟨hs,λe=>hs (Option.some.inj e).symm⟩
       refine .inl ⟨iK (by rw[hI.len];exact iy) ?_ (λv hm=>?_),?_⟩
       ·rw[List.mem_map];exact⟨(s,.dead),List.mem_cons_of_mem _ ((vW s .dead).2 ⟨rfl,Nat.zero_le _,by rw[Nat.zero_add,hI.len];exact iy,by simpa using hc⟩),rfl⟩
       ·rcases eL s v hm with⟨h,_⟩|⟨h,_⟩
        ·exact absurd h hs
        ·exact h
       ·exact Jt ju s (by rw[hI.len];exact iy) (by simpa using hc)
     have oU:∀s,s≠r0->(Ts.getD s .dead).on r0=false->(ah Ts ((r0,u')::dZ r0 (Ts.getD r0 .dead) (some r0) 0 Ts)).getD s .dead=Ts.getD s .dead:=by
      intro s hs ag;refine fg _ _ _ (λhm=>?_);obtain⟨u,hu,he⟩:=List.mem_map.1 hm;rcases eL s u.2 (by rw[<-he];exact hu)with⟨h,_⟩|⟨_,_,h⟩
      ·exact hs h
      ·rw[ag]at h;simp at h
     have wP:∀r∈A.ls,((ah Ts (((r0,u')::dZ r0 (Ts.getD r0 .dead) (some r0) 0 Ts)++[(d,v)])).getD r .dead).deep=true:=by
      intro r hr;have gw:r≠r0:=λe=>jx (e▸hr);have ho:=V.fq (eB r hr);rw[br r (mj r hr)];cases ag:(Ts.getD r .dead).on r0 with
      | false=>rw[oU r gw ag];exact eB r hr
      | true =>
       rcases oV r gw ag with⟨_,h⟩|⟨h,_⟩
       ·rw[h]at ho;cases ho
       ·rw[h];exact eB r hr
     obtain⟨j,t',n',y',c',cells,m1,m2,m3,m4,m5⟩:=Lr km qu;have cR:=jw j t' n' m1;subst cR;rw[h2]at m1;injection m1 with m1;injection m1 with m1 lv;injection lv with lv;subst m1 lv;rw[h6]at m3;injection m3 with m3;subst m3;rw[Nat.zero_add]at m5;obtain⟨k1,k2,k3⟩:=xJ (T':=ah Ts (((r0,u')::dZ r0 (Ts.getD r0 .dead) (some r0) 0 Ts)++[(d,v)])) (d:=d) hI bc rfl wP cm hv;refine Inv.called hI hd hid rfl (λr i h=>by injection h with h;injection h with _ h;subst h;exact td) bc (by rw[cH,hI.len]) (λj' t n hj hm=>by obtain⟨n,rfl⟩:=VV h1 hj hm;rw[jw j' t n hj];rfl) ?_ ?_ ?_ bU k1 k2 (λr i h=>by injection h with h;injection h with h _;subst h;exact jx) k3
     ·intro r i h;injection h with h;injection h with h h';subst h h';exact⟨t,n,y,y',cells,h5,⟨h3,(Bool.or_eq_true_iff.1 mf).imp (λh=>xv h _ h2) List.isEmpty_iff.1⟩,h4,by rw[br r0 w4,bE,m2],m4,m5⟩
     ·intro s r i h bL bu ag;injection h with h;injection h with h h';subst h h';rw[br s bL];exact oV s bu ag
     ·intro s bL hs;obtain⟨e1,e2⟩:=hs r0 j rfl;rw[br s bL];exact oU s e1 e2
    ·exact h.elim
  ·rw[fi]at h;exact h.elim
end
structure MQ (t:Ty) where
 xs:List t.den
 n:Nat
 s:Option Nat
def I6(vs:List Nat)(e:TypeId)(t:Ty)(x:Operand):M (MQ t):=
 match x with
 | .tmp s=>.get s λv=>match v with
  | .d none (n+1) t' y=>if h:t' = .slice e t then (if vs.contains s=true then .fail else .ret ⟨(h▸y:(Ty.slice e t).den),n,some s⟩)else .fail
  | _=>.fail
 | .const (.slice none 0 0)=>.ret ⟨[],t.depth,none⟩
 | _=>.fail
structure Vj (t:Ty) where
 ys:List t.den
 n:Option Nat
 s:Option Nat
def Mi(vs:List Nat)(e:TypeId)(t:Ty)(x:Operand):M (Vj t):=
 match x with
 | .tmp s=>.get s λv =>
   if t.depth=0 then (mN s v).bind λz=>if h:z.2.1 = .slice e t then .ret ⟨(h▸z.2.2:(Ty.slice e t).den),none,none⟩else .fail
   else match v with
   | .d none 0 t' y=>if h:t' = .slice e t then .ret ⟨(h▸y:(Ty.slice e t).den),some 0,none⟩else .fail
   | .d none (n+1) t' y=>if h:t' = .slice e t then (if vs.contains s=true then .fail else .ret ⟨(h▸y:(Ty.slice e t).den),some n,some s⟩)else .fail
   | _=>.fail
 | .const (.slice none 0 0)=>.ret ⟨[],none,none⟩
 | _=>.fail
def jT(b:Nat):Option Nat->Nat
 | none=>b
 | some k=>min b k
def IU(C:Ctx)(vs:List Nat)(d:Nat)(X X2:TypeId)(s x:Operand):M (List (Nat×V)):=
 match C.ty X with
 | some (.slice e t)=>match C.ty X2 with
  | some (.slice _ _)=>(I6 vs e t s).bind λb=>(Mi vs e t x).bind λc =>
    if t.sz≠0/\C.bytes e≠0/\(c.s.isNone||c.s != b.s)=true then
     .bn (decide ((b.xs.length+c.ys.length)*C.bytes e<=140737488355328))
      (.ret ((b.s.toList++c.s.toList).map (λs=>(s,V.dead))++[(d,.d none (jT b.n c.n+1) (.slice e t) (b.xs++c.ys))]))
    else .fail
  | _=>.fail
 | _=>.fail
def gM(d so:Nat)(sx:Option Nat)(kept:Bool)(b1 b2 m:Nat):Nat->List Nat->aj:=λs z =>
 if s=so then match z with
  | [y]=>if y=0/\kept=true then .own d [0]else .other
  | z0::y::rest=>if z0=0/\y<b1 then (if rest.length<m then .own d (0::y::rest)else .au)else .other
  | []=>.other
 else if sx=some s then match z with
  | z0::y::rest=>if z0=0/\y<b2 then (if rest.length<m then .own d (0::(b1+y)::rest)else .au)else .other
  | _=>.other
 else if s=d then .other else .own s z
theorem oG{so:Nat}{sx:Option Nat}{kept:Bool}{b1 b2 s:Nat}{z:List Nat}{s':Nat}{z':List Nat}(h:gM d so sx kept b1 b2 m s z = .own s' z'):
  (s=so/\z=[0]/\kept=true/\s'=d/\z'=[0])\/(s=so/\∃y rest,z=0::y::rest/\y<b1/\s'=d/\z'=0::y::rest) \/
  (s≠so/\sx=some s/\∃y rest,z=0::y::rest/\y<b2/\s'=d/\z'=0::(b1+y)::rest)\/(s≠so/\sx≠some s/\s≠d/\s'=s/\z'=z):=by
 unfold gM at h;split at h
 ·rename_i hs;split at h
  ·split at h
   ·rename_i hc;obtain⟨rfl,hk⟩:=hc;injection h with h1 h2;exact .inl ⟨hs,rfl,hk,h1.symm,h2.symm⟩
   ·cases h
  ·split at h
   ·rename_i hc;obtain⟨rfl,hy⟩:=hc;split at h
    ·injection h with h1 h2;exact .inr (.inl ⟨hs,_,_,rfl,hy,h1.symm,h2.symm⟩)
    ·cases h
   ·cases h
  ·cases h
 ·rename_i hs;split at h
  ·rename_i hx;split at h
   ·split at h
    ·rename_i hc;obtain⟨rfl,hy⟩:=hc;split at h
     ·injection h with h1 h2;exact .inr (.inr (.inl ⟨hs,hx,_,_,rfl,hy,h1.symm,h2.symm⟩))
     ·cases h
    ·cases h
   ·cases h
  ·rename_i hx;split at h
   ·cases h
   ·rename_i hd;injection h with h1 h2;exact .inr (.inr (.inr ⟨hs,hx,hd,h1.symm,h2.symm⟩))
theorem akD[af]{so:Nat}{sx:Option Nat}{kept:Bool}{b1 b2:Nat}:fL (gM d so sx kept b1 b2 m) (λs=>s=d\/s=so\/sx=some s):=by
 refine⟨λs z hX=>?_,λs z s' z' hX h=>?_,λs z s2 z2 s' z' h1 h2=>?_,λs z=>?_⟩
 ·have h1:=not_or.1 hX;have h2:=not_or.1 h1.2;simp[gM,h1.1,h2.1,h2.2]
 ·rcases oG h with⟨_,_,_,rfl,_⟩|⟨_,_,_,_,_,rfl,_⟩|⟨_,_,_,_,_,_,rfl,_⟩|⟨h1,h2,h3,rfl,_⟩
  ·exact .inl rfl
  ·exact .inl rfl
  ·exact .inl rfl
  ·exact hX
 ·rcases oG h1 with⟨rfl,rfl,_,rfl,rfl⟩|⟨rfl,y,rest,rfl,hy,rfl,rfl⟩|⟨hs,hx,y,rest,rfl,hy,rfl,rfl⟩|⟨hs,hx,hd,rfl,rfl⟩
  ·rcases oG h2 with⟨rfl,rfl,_,_,_⟩|⟨_,_,_,_,_,_,h⟩|⟨_,_,_,_,_,_,_,h⟩|⟨_,_,hd,h,_⟩
   ·exact⟨rfl,rfl⟩
   ·simp at h
   ·simp at h
   ·exact absurd h.symm hd
  ·rcases oG h2 with⟨_,_,_,_,h⟩|⟨rfl,y',fJ,rfl,_,_,h⟩|⟨_,_,_,_,_,_,_,h⟩|⟨_,_,hd,h,_⟩
   ·simp at h
   ·simp only[List.cons.injEq,true_and]at h;obtain⟨rfl,rfl⟩:=h;exact⟨rfl,rfl⟩
   ·simp only[List.cons.injEq,true_and]at h;omega
   ·exact absurd h.symm hd
  ·rcases oG h2 with⟨_,_,_,_,h⟩|⟨_,_,_,_,_,_,h⟩|⟨_,lq,y',fJ,rfl,_,_,h⟩|⟨_,_,hd,h,_⟩
   ·simp at h
   ·simp only[List.cons.injEq,true_and]at h;omega
   ·simp only[List.cons.injEq,true_and]at h;obtain⟨h,rfl⟩:=h;rw[hx]at lq;cases lq;exact⟨rfl,by rw[show y=y' by omega]⟩
   ·exact absurd h.symm hd
  ·rcases oG h2 with⟨_,_,_,h,_⟩|⟨_,_,_,_,_,h,_⟩|⟨_,_,_,_,_,_,h,_⟩|⟨_,_,_,h3,h4⟩
   ·exact absurd h hd
   ·exact absurd h hd
   ·exact absurd h hd
   ·exact⟨h3,h4⟩
 ·unfold gM
  repeat' split
  all_goals simp
structure fU (P:Program) (sz:Nat) (X:TypeId) (v:Value) (n:Nat) (news:List Value) (w:World):Prop where
 b7:(∃e,P.underlying X=some (.slice e))\/P.underlying X=some .string
 count:∀w1:World,(Builtin.lenOf v).run P w1 = .ok n w1
 now:(Builtin.firstCells sz n v).run P w = .ok news.toArray w
 next:(Builtin.firstCells sz n v).run P w.drew = .ok news.toArray w.drew
 total:news.length=n*sz
 single:∀u∈news,u.oneCell'=true
section
variable{P:Program}
theorem fU.row{w:World}(hX:P.underlying X=some (.slice e))(A:Addr)(n c:Nat)(h1:news.length=n*sz)(h2:∀i u,news[i]?=some u->w.cell? (A.add i)=some u)(h3:∀u∈news,u.oneCell'=true):
  fU P sz X (.slice (some A) n c) n news w where
 b7:=.inl ⟨e,hX⟩
 count:=λ_=>rfl
 now:=run_firstCells_some w sz n A n c news h1 h2
 next:=run_firstCells_some w.drew sz n A n c news h1 (by simpa using h2)
 total:=h1
 single:=h3
theorem fU.none{w:World}{X:TypeId}(hX:P.underlying X=some (.slice e))(c:Nat):fU P sz X (.slice none 0 c) 0 [] w where
 b7:=.inl ⟨e,hX⟩
 count:=λ_=>rfl
 now:=run_firstCells_none w sz 0 0 c
 next:=run_firstCells_none w.drew sz 0 0 c
 total:=by simp
 single:=by simp
theorem akH{w:World}{X2 ty:TypeId}{i:TypeInfo}(hX:P.underlying X=some (.slice e))(hi:P.info? e=some i){g len cap:Nat}{v:Value}(h:fU P i.size X2 v n news w)(hr:len+n<=cap)
  (h1:∀k,k<news.length->(w.cell? ⟨g,len*i.size+k,none⟩).isSome=true) (h2:∀k,k<news.length->w.frozen? ⟨g,len*i.size+k,none⟩=false) :
  (Builtin.append_ #[X,X2] ty #[.slice (some ⟨g,0,none⟩) len cap,v]).run P w = .ok (.slice (some ⟨g,0,none⟩) (len+n) cap) (w.setCells g (len*i.size) news):=by
 have ba:=run_storeCells_cells (P:=P) g (len*i.size) news 0 w (by simpa using h1) (by simpa using h2) h.single;rw[Nat.add_zero]at ba;rcases h.b7 with⟨e',hk⟩|hk<;>simp[Builtin.append_,run_underlying hX,run_underlying hk,sizeOf,typeInfo,hi,h.count,hr,h.now,Addr.add_lit,ba]
theorem akG{w:World}{ty:TypeId}{i:TypeInfo}(hX:P.underlying X=some (.slice e))(hi:P.info? e=some i){v:Value}(h:fU P i.size X2 v 0 [] w):
  (Builtin.append_ #[X,X2] ty #[.slice none 0 0,v]).run P w = .ok (.slice none 0 0) w:=by
 rcases h.b7 with⟨e',hk⟩|hk<;>simp[Builtin.append_,run_underlying hX,run_underlying hk,sizeOf,typeInfo,hi,h.count,h.now,storeCells]
theorem akF{w:World}{X2 ty:TypeId}{i:TypeInfo}{z:Value}(hX:P.underlying X=some (.slice e))(hi:P.info? e=some i)(hz:i.zero=some z){A:Option Addr}{len cap:Nat}{ja:List Value}{v:Value}
  (h0:(Builtin.firstCells i.size len (.slice A len cap)).run P w.drew = .ok ja.toArray w.drew) (h:fU P i.size X2 v n news w) (hg:cap<len+n) (hm:len+n<=maxLen) (hb:(len+n)*i.bytes<=140737488355328) :
  (Builtin.append_ #[X,X2] ty #[.slice A len cap,v]).run P w = .ok (.slice (some ⟨w.heap.size,0,none⟩) (len+n) (grownCap w (len+n) cap e))
   (w.drew.alloc (.cells ((ja++news).toArray++Builtin.zeroCells z.cells (grownCap w (len+n) cap e - (len+n))) e)):=by
 have hf:=growslice_fits hg hb;have e1:¬(len+n<=cap):=by omega
 have e2:¬(9223372036854775807<((len:Int)+(n:Int))):=by simp only[maxLen]at hm;omega
 have e3:¬(281474976710656<Builtin.nextslicecap (len+n) cap*i.bytes):=by omega
 rcases h.b7 with⟨e',hk⟩|hk<;>
  (simp[Builtin.append_,run_underlying hX,run_underlying hk,sizeOf,typeInfo,zeroValue,hi,hz,h.count,e1,e2,e3,Question.forced,h.next,h0,newRow,grownCap]
   congr 2;apply Array.ext';simp[List.append_assoc])
end
section
variable{P:Program}{C:Ctx}{w w' w0:World}{S S':Nat->Prop}{L L' L0:Nat->aj}{s N:Nat}{vs:List Nat}{T T':List V}{tm tm':Array Value}{a:Act}
theorem rf{l l':List Value}{j:Nat}(h:∀k,k<sz->l[i+k]?=l'[j+k]?):(l.drop i).take sz=(l'.drop j).take sz:=by
 apply List.ext_getElem?;intro k;rw[List.getElem?_take,List.getElem?_take];split
 ·rw[List.getElem?_drop,List.getElem?_drop];exact h k (by assumption)
 ·rfl
theorem MG{l:List Value}(h:k<sz):((l.drop i).take sz)[k]?=l[i+k]?:=by
 rw[List.getElem?_take,if_pos h,List.getElem?_drop]
theorem Xa[af](sz:Nat):(n:Nat)->(f:∀j,j<n->List Value)->(∀j h,(f j h).length=sz)->∃news:List Value,news.length=n*sz/\∀j h,(news.drop (j*sz)).take sz=f j h
 | 0,_,_=>⟨[],by simp,λj h=>absurd h (by omega)⟩
 | n+1,f,hl=>by
  obtain⟨news,h1,h2⟩:=Xa sz n (λj h=>f j (by omega)) (λj h=>hl j _);refine⟨news++f n (by omega),by rw[List.length_append,h1,hl,Nat.add_mul,Nat.one_mul],λj h=>?_⟩;by_cases hj:j<n
  ·rw[<-h2 j hj];refine rf λk hk=>?_;have:(j+1)*sz<=n*sz:=Nat.mul_le_mul_right _ (by omega);rw[Nat.add_mul,Nat.one_mul]at this;rw[List.getElem?_append_left (by omega)]
  ·obtain rfl:j=n:=by omega
   rw[<-h1,List.drop_left,List.take_of_length_le (by rw[hl];exact Nat.le_refl _)]
theorem Jl[af]{p:Nat->Value->Prop}(hl:news.length=n*sz)(h:∀j,j<n->∀k u,((news.drop (j*sz)).take sz)[k]?=some u->p (j*sz+k) u):∀i u,news[i]?=some u->p i u:=by
 intro i u hu;have hi:i<n*sz:=by
  rw[<-hl];exact (List.getElem?_eq_some_iff.1 hu).1
 have bq:0<sz:=by
  rcases Nat.eq_zero_or_pos sz with h0|h0
  ·subst h0;simp at hi
  ·exact h0
 have h1:i / sz<n:=(Nat.div_lt_iff_lt_mul bq).2 hi;have h2:i / sz*sz+i % sz=i:=by rw[Nat.mul_comm];exact Nat.div_add_mod i sz
 have:=h (i / sz) h1 (i % sz) u (by rw[MG (Nat.mod_lt _ bq),h2];exact hu)
 rwa [h2]at this
theorem abz:(vs:List Value)->(o:Nat)->(w:World)->(w.setCells g o vs).drawn=w.drawn
 | [],_,_=>rfl
 | v::vs,o,w=>by rw[World.setCells,abz vs];rfl
theorem abA:(vs:List Value)->(o:Nat)->(w:World)->(cur:Array Value)->(e:TypeId)->w.heap[g]?=some (.cells cur e (0,0))->o+vs.length<=cur.size ->
  (w.setCells g o vs).os=w.os/\(w.setCells g o vs).tape=w.tape/\(w.setCells g o vs).output=w.output/\(w.setCells g o vs).heap.size=w.heap.size/\(∀k,k≠g->(w.setCells g o vs).heap[k]?=w.heap[k]?) /\
  ∃cur':Array Value,(w.setCells g o vs).heap[g]?=some (.cells cur' e (0,0))/\cur'.size=cur.size/\∀i,cur'[i]?=if o<=i/\i<o+vs.length then vs[i - o]? else cur[i]?
 | [],o,w,cur,e,h,_=>⟨rfl,rfl,rfl,rfl,λ_ _=>rfl,cur,h,rfl,λi=>by rw[if_neg (by simp)]⟩
 | v::vs,o,w,cur,e,h,hb=>by
  simp only[List.length_cons]at hb;have hg:(w.setCell ⟨g,o,none⟩ v).heap[g]?=some (.cells (cur.setIfInBounds o v) e (0,0)):=by
   simp[World.setCell,Array.getElem?_modify,h]
  obtain⟨h1,h2,h3,h4,h5,cur',h6,h7,h8⟩:=abA vs (o+1) (w.setCell ⟨g,o,none⟩ v) (cur.setIfInBounds o v) e hg (by simp;omega);rw[World.setCells];refine⟨h1,h2,h3,by rw[h4];simp[World.setCell],λk hk=>?_,cur',h6,by rw[h7];simp,λi=>?_⟩
  ·rw[h5 k hk];simp only[World.setCell,Array.getElem?_modify];rw[if_neg (Ne.symm hk)]
  ·rw[h8,Array.getElem?_setIfInBounds];simp only[List.length_cons];by_cases hi:i=o
   ·subst hi;rw[if_neg (by omega),if_pos rfl,if_pos (by omega),if_pos (by omega)];simp
   ·by_cases dq:o+1<=i/\i<o+1+vs.length
    ·rw[if_pos dq,if_pos (by omega),show i - o=(i - (o+1))+1 by omega,List.getElem?_cons_succ]
    ·rw[if_neg dq,if_neg (by omega),if_neg (by omega)]
end
section
variable{P:Program}{C:Ctx}{w w' w0:World}{S S':Nat->Prop}{L L' L0:Nat->aj}{s N:Nat}{vs:List Nat}{T T':List V}{tm tm':Array Value}{a:Act}
theorem akP[af](hI:Inv w0 L0 N vs T a w L){x:Operand}{b:MQ t}(h:(I6 vs e t x).ai T b log)(d:Nat):
  ∃so,((b.s=some so/\so∉vs/\(T.getD so .dead).aM=true/\(T.getD so .dead).root=none)\/(b.s=none/\so=d))/\Own w L (SL L none) so (b.n+1) (.slice e t) b.xs [] 0 [a.eval x]:=by
 cases x with
 | tmp s =>
  obtain⟨aG,rfl,h⟩:=h;have hs:=hI.aY s;dsimp only at h;generalize hv:T.getD s .dead=v at h hs;split at h
  ·rename_i n t' y;split at h
   ·rename_i ht;subst ht;split at h
    ·exact h.elim
    ·rename_i hc;obtain⟨rfl,_⟩:=h;obtain⟨_,cs,hf,ho⟩:=hs;refine⟨s,.inl ⟨rfl,by simpa using hc,by rw[hv];simp[V.aM,Ty.depth],by rw[hv];rfl⟩,?_⟩;have hf:cs=[a.tmps.getD s undef]:=hf;rw[hf]at ho;exact ho
   ·exact h.elim
  ·exact h.elim
 | const c =>
  dsimp only[I6]at h;split at h
  ·cases ‹Operand.const _=_›
  ·rename_i hc;cases hc;obtain⟨rfl,_⟩:=h;exact⟨d,.inr ⟨rfl,rfl⟩,by simp only[Own];exact .inl ⟨rfl,trivial⟩⟩
  ·exact h.elim
 | func f=>exact h.elim
 | global g=>exact h.elim
theorem aqW[af](hI:Inv w0 L0 N vs T a w L){e':TypeId}{x:Operand}{c:Vj t}(h:(Mi vs e t x).ai T c log)(iO:P.underlying X2=some (.slice e')):
  ∃news,fU P t.sz X2 (a.eval x) c.ys.length news w/\(∀s,c.s=some s->s∉vs/\(T.getD s .dead).aM=true/\(T.getD s .dead).root=none) /\
   ∀(L':Nat->aj) (w':World) (d o0 m:Nat),(∀k,c.n=some k->m<=k)->(∀k,L k = .au->L' k = .au/\w'.heap[k]?=w.heap[k]?) ->
    (∀s k y rest,c.s=some s->y<c.ys.length*t.sz->L k = .own s (0::y::rest)->w'.heap[k]?=w.heap[k]?/\(rest.length<m->L' k = .own d (0::(o0+y)::rest))/\(m<=rest.length->L' k = .au)) ->
    ∀j (h:j<c.ys.length),Own w' L' (SL L' none) d m t (c.ys[j]) [0] (o0+j*t.sz) ((news.drop (j*t.sz)).take t.sz):=by
 have bC:∀{S:Nat->Prop} {ys:List t.den} {v:Value},Rd w S (.slice e t) ys [v] ->
   ∃news,fU P t.sz X2 v ys.length news w/\∀j (h:j<ys.length),Rd w S t (ys[j]) ((news.drop (j*t.sz)).take t.sz):=by
  intro S ys v hr;simp only[Rd]at hr;obtain⟨A,cp,hv,h1,h2,h3⟩:=hr;have hv:v=_:=(List.cons.inj hv).1;subst hv;by_cases hy:ys=[]
  ·subst hy;refine⟨[],?_,λj h=>absurd h (by simp)⟩;cases A with
   | none=>exact fU.none iO cp
   | some A=>exact fU.row iO A 0 cp (by simp) (λj u h=>by simp at h) (by simp)
  ·obtain⟨g,o,rfl,hS,h4⟩:=h3 hy;obtain⟨news,n1,n2⟩:=Xa t.sz ys.length (λj h=>(h4 j h).choose) (λj h=>Rd.len (h4 j h).choose_spec.1);refine⟨news,fU.row iO ⟨g,o,none⟩ ys.length cp n1 (λj u hu=>?_) (λu hu=>?_),λj h=>by rw[n2 j h];exact (h4 j h).choose_spec.1⟩
   ·rw[Addr.add_lit];exact Jl (p:=λi u=>w.cell? ⟨g,o+i,none⟩=some u) n1 (λj hj k u hk=>by rw[n2 j hj]at hk;exact (h4 j hj).choose_spec.2 k u hk) j u hu
   ·obtain⟨i,hi⟩:=List.mem_iff_getElem?.1 hu;refine Jl (p:=λi u=>u.oneCell'=true) n1 (λj hj k u hk=>?_) i u hi;rw[n2 j hj]at hk;exact Rd.one (h4 j hj).choose_spec.1 u (List.mem_of_getElem? hk)
 cases x with
 | tmp s =>
  obtain⟨aG,rfl,h⟩:=h;have hs:=hI.aY s;dsimp only at h;split at h
  ·rename_i hd;obtain⟨⟨l,t',y⟩,l1,l2,rfl,h1,h2⟩:=M.aq h;dsimp only at h2;split at h2
   ·rename_i ht;subst ht;obtain⟨rfl,_⟩:=h2;obtain⟨cells,hf,hr,cF⟩:=qR hI h1 hs (λ_=>rfl);have hf:cells=[a.tmps.getD s undef]:=hf;subst hf;obtain⟨news,k1,k2⟩:=bC hr;refine⟨news,k1,by simp,λL' w' d o0 m _ _ _ j hj=>?_⟩;have:=k2 j hj;have h0:=Own.dP (L:=L) (s:=0) (q:=[]) (o:=0) this;exact alc hd h0
   ·exact h2.elim
  ·generalize hv:T.getD s .dead=v at h hs;split at h
   ·rename_i t' y;split at h
    ·rename_i ht;subst ht;obtain⟨rfl,_⟩:=h;obtain⟨_,cs,hf,ho⟩:=hs;have hf:cs=[a.tmps.getD s undef]:=hf;subst hf;obtain⟨news,k1,k2⟩:=bC (Own.eQ ho);refine⟨news,k1,by simp,λL' w' d o0 m hm ba _ j hj=>?_⟩;obtain rfl:m=0:=by have:=hm 0 rfl;omega
     refine Own.dP (Rd.move (λk hk=>?_) (k2 j hj));rcases hk with hk|⟨_,_,hk,_⟩
     ·exact⟨.inl (ba k hk).1,(ba k hk).2⟩
     ·cases hk
    ·exact h.elim
   ·rename_i n t' y;split at h
    ·rename_i ht;subst ht;split at h
     ·exact h.elim
     ·rename_i hc;obtain⟨rfl,_⟩:=h;obtain⟨_,cs,hf,ho⟩:=hs;have hf:cs=[a.tmps.getD s undef]:=hf;subst hf;have Yp:s∉vs/\(T.getD s .dead).aM=true/\(T.getD s .dead).root=none:=⟨by simpa using hc,by rw[hv];simp[V.aM,Ty.depth],by rw[hv];rfl⟩;simp only[Own]at ho;rcases ho with⟨gr,rfl⟩|⟨g,cap,cur,dh,hL,hg,h5,h6,h7,h8⟩
      ·have gr:a.tmps.getD s undef=_:=(List.cons.inj gr).1;refine⟨[],?_,λs' bN=>by cases bN;exact Yp,λL' w' d o0 m _ _ _ j hj=>absurd hj (by simp)⟩;show fU P t.sz X2 (a.tmps.getD s undef) 0 [] w;rw[gr];exact fU.none iO 0
      ·have dh:a.tmps.getD s undef=_:=(List.cons.inj dh).1;have hlen:(List.length y)*t.sz<=cur.size:=by rw[h7];exact Nat.mul_le_mul_right _ h5
       refine⟨cur.toList.take (y.length*t.sz),?_,λs' bN=>by cases bN;exact Yp,λL' w' d o0 m hm ba im j hj=>?_⟩
       ·show fU P t.sz X2 (a.tmps.getD s undef) y.length _ w;rw[dh];have hl:(cur.toList.take (y.length*t.sz)).length=y.length*t.sz:=by rw[List.length_take];simp;omega
        refine fU.row iO ⟨g,0,none⟩ _ cap hl (λj u hu=>?_) (λu hu=>?_)
        ·rw[List.getElem?_take]at hu;split at hu
         ·rw[show (⟨g,0,none⟩:Addr).add j=⟨g,j,none⟩by rw[Addr.add_lit,Nat.zero_add]];simp only[World.cell?,hg];simpa using hu
         ·cases hu
        ·obtain⟨i,hi⟩:=List.mem_iff_getElem?.1 hu;refine Jl (p:=λi u=>u.oneCell'=true) hl (λj hj k u hk=>?_) i u hi;have hw:((cur.toList.take (y.length*t.sz)).drop (j*t.sz)).take t.sz=(cur.toList.drop (j*t.sz)).take t.sz:=rf λk hk=>by
          have:(j+1)*t.sz<=y.length*t.sz:=Nat.mul_le_mul_right _ (by omega);rw[Nat.add_mul,Nat.one_mul]at this;rw[List.getElem?_take,if_pos (by omega)]
         rw[hw]at hk;exact Own.one (h8 j hj) u (List.mem_of_getElem? hk)
       ·have hw:((cur.toList.take (y.length*t.sz)).drop (j*t.sz)).take t.sz=(cur.toList.drop (j*t.sz)).take t.sz:=rf λk hk=>by
         have:(j+1)*t.sz<=y.length*t.sz:=Nat.mul_le_mul_right _ (by have:j<List.length y:=hj;omega);rw[Nat.add_mul,Nat.one_mul]at this;rw[List.getElem?_take,if_pos (by omega)]
        rw[hw];refine Own.fp (hm n rfl) (λk hk=>?_) (λk i rest hi hk=>?_) (h8 j hj)
        ·rcases hk with hk|⟨_,_,hk,_⟩
         ·exact⟨.inl (ba k hk).1,(ba k hk).2⟩
         ·cases hk
        ·have aI:L k = .own s (0::(j*t.sz+i)::rest):=by simpa using hk
         have ax:j*t.sz+i<y.length*t.sz:=by
          have:(j+1)*t.sz<=y.length*t.sz:=Nat.mul_le_mul_right _ (by have:j<List.length y:=hj;omega);rw[Nat.add_mul,Nat.one_mul]at this;omega
         have:=im s k (j*t.sz+i) rest rfl ax aI;refine⟨this.1,λh=>?_,λh=>.inl (this.2.2 h)⟩;rw[this.2.1 h];simp[Nat.add_assoc]
    ·exact h.elim
   ·exact h.elim
 | const cv =>
  dsimp only[Mi]at h;split at h
  ·cases ‹Operand.const _=_›
  ·rename_i hc;cases hc;obtain⟨rfl,_⟩:=h;exact⟨[],fU.none iO 0,by simp,λL' w' d o0 m _ _ _ j hj=>absurd hj (by simp)⟩
  ·exact h.elim
 | func f=>exact h.elim
 | global g=>exact h.elim
 where
 alc:{w w':World}->{L L':Nat->aj}->{S S':Nat->Prop}->{s s' n n':Nat}->{t:Ty}->{x:t.den}->{q q':List Nat}->{o o':Nat}->{cs:List Value}->t.depth=0->Own w L S s n t x q o cs->Own w' L' S' s' n' t x q' o' cs:=λh1 h2=>Own.flat h1 h2
theorem Inv.app[af](hI:Inv w0 L0 N vs T a w L){so:Nat}{sb sx:Option Nat}{kept:Bool}{b1 b2 m:Nat}{nl:Nat->aj}{v:V}{c:Value}(hd:d<N)(hid:(T.getD d .dead).idle=true)
  (nU:(sb=some so/\so∉vs/\(T.getD so .dead).aM=true)\/(sb=none/\so=d)) (o9:∀s,sx=some s->s∉vs/\(T.getD s .dead).aM=true)
  (hw:Wd w w' L nl (λs=>s=d\/s=so\/sx=some s)) (gu:∀k s q,w.heap.size<=k->nl k = .own s q->s=d/\q=[0]/\k=w.heap.size/\kept=false)
  (hv:v.root=none) (KH:v.aM=true)
  (hr:∀T' tm',aD (aU (gM d so sx kept b1 b2 m) w L nl) T' tm' d v w' c) :
  Inv w0 L0 N vs (ah T ((sb.toList++sx.toList).map (λs=>(s,V.dead))++[(d,v)])) (a.put (some d) c) w' (aU (gM d so sx kept b1 b2 m) w L nl):=by
 have cB:(T.getD d .dead).aM=false:=V.kG hid;have wA:d∉sb.toList++sx.toList:=λh=>by
  have:(T.getD d .dead).aM=true:=by
   rcases List.mem_append.1 h with h|h
   ·rcases nU with⟨rfl,_,ho⟩|⟨rfl,_⟩
    ·simp only[Option.toList_some,List.mem_singleton]at h;rw[h];exact ho
    ·simp at h
   ·cases sx with
    | none=>simp at h
    | some x =>
     simp only[Option.toList_some,List.mem_singleton]at h;rw[h];exact (o9 x rfl).2
  rw[cB]at this;cases this
 have hX:∀s,(s=d\/s=so\/sx=some s)↔(s=d\/s∈sb.toList++sx.toList):=by
  intro s;constructor
  ·rintro (h|h|h)
   ·exact .inl h
   ·rcases nU with⟨rfl,_⟩|⟨_,h2⟩
    ·exact .inr (by simp[h])
    ·exact .inl (h.trans h2)
   ·exact .inr (by simp[h])
  ·rintro (h|h)
   ·exact .inl h
   ·rcases List.mem_append.1 h with h|h
    ·rcases nU with⟨rfl,_⟩|⟨rfl,_⟩
     ·simp only[Option.toList_some,List.mem_singleton]at h;exact .inr (.inl h)
     ·simp at h
    ·cases sx with
     | none=>simp at h
     | some x =>
      simp only[Option.toList_some,List.mem_singleton]at h;exact .inr (.inr (by rw[h]))
 have hT:ah T ((sb.toList++sx.toList).map (λs=>(s,V.dead))++[(d,v)])=(ah T ((sb.toList++sx.toList).map λs=>(s,V.dead))).set d v:=by
  rw[lE];rfl
 have hlen:(ah T ((sb.toList++sx.toList).map λs=>(s,V.dead))).length=N:=by rw[cH,hI.len]
 have bU:(ah T ((sb.toList++sx.toList).map (λs=>(s,V.dead))++[(d,v)])).getD d .dead=v:=by
  rw[hT,aH,if_pos ⟨rfl,by rw[hlen];exact hd⟩]
 have bI:∀s,s∈sb.toList++sx.toList->(ah T ((sb.toList++sx.toList).map (λs=>(s,V.dead))++[(d,v)])).getD s .dead = .dead:=by
  intro s hs;rw[hT,aH,if_neg (λe=>wA (by rw[<-e.1];exact hs))];exact Xg _ _ _ hs
 refine Inv.gY (X:=λs=>s=d\/s=so\/sx=some s) hI akD hw ?_ (by simp[Act.put,hI.size]) (by rw[hT,List.length_set,hlen]) hI.dR ?_ ?_ ?_ ?_ ?_
 ·intro k k' s q hk h h';obtain⟨rfl,rfl,rfl,amt⟩:=gu k s q hk h;unfold aU at h';split at h'
  ·exfalso;obtain⟨s0,q0,e0,f0⟩:=eZ h';rcases oG f0 with⟨_,_,gT,_⟩|⟨_,_,_,_,_,_,h8⟩|⟨_,_,_,_,_,_,_,h8⟩|⟨_,_,kZ,h8,_⟩
   ·rw[amt]at gT;cases gT
   ·simp at h8
   ·simp at h8
   ·exact kZ h8.symm
  ·exact (gu k' s _ (by omega) h').2.2.1.symm
 ·intro k s q hs h;by_cases bL:s=d
  ·subst bL;rw[bU];exact KH
  ·exfalso;unfold aU at h;split at h
   ·obtain⟨s0,q0,e0,f0⟩:=eZ h;rcases oG f0 with⟨_,_,_,h7,_⟩|⟨_,_,_,_,_,h7,_⟩|⟨_,_,_,_,_,_,h7,_⟩|⟨h5,h6,_,h7,_⟩
    ·exact bL h7
    ·exact bL h7
    ·exact bL h7
    ·subst h7;rcases hs with h|h|h
     ·exact bL h
     ·exact h5 h
     ·exact h6 h
   ·exact bL (gu k s q (by omega) h).1
 ·intro s r hs ag aZ;rcases aZ with rfl|rfl|hx
  ·exact cB
  ·rcases nU with⟨_,h,_⟩|⟨_,rfl⟩
   ·exact absurd (hI.roots s _ ag) h
   ·exact cB
  ·exact absurd (hI.roots s r ag) (o9 r hx).1
 ·intro s hs;have bN:=not_or.1 (λh=>hs ((hX s).2 h));rw[hT,aH,if_neg (λe=>bN.1 e.1),fg _ _ _ (by simpa[List.map_map]using bN.2)];refine⟨rfl,?_⟩;show (a.tmps.setIfInBounds d c).getD s undef=_;rw[ed,if_neg (λe=>bN.1 e.1)]
 ·intro s r hs ag;rcases (hX s).1 hs with rfl|hs
  ·rw[bU]at ag;simp[V.on,hv]at ag
  ·rw[bI s hs]at ag;simp[V.on,V.root]at ag
 ·intro s hs;rcases (hX s).1 hs with rfl|hs
  ·rw[bU];show aD _ _ _ _ _ _ ((a.tmps.setIfInBounds s c).getD s undef);rw[ed,if_pos ⟨rfl,by rw[hI.size];exact hd⟩];exact hr _ _
  ·rw[bI s hs];trivial
theorem VS{b:Nat}{n:Option Nat}:jT b n<=b/\∀k,n=some k->jT b n<=k:=by
 cases n with
 | none=>exact⟨Nat.le_refl _,by simp⟩
 | some k=>exact⟨Nat.min_le_left _ _,λk' h=>by cases h;exact Nat.min_le_right _ _⟩
end
end Go.Proofs.YtbhogmdpmkpinaaGreat.P.Am
