/- A part of the proof: Am25,Am26,Am27,Am28,Am29,Am37,Am38. No conditions. -/
import Derived.Test.YthfgcmoipebheaaGreatPG3
import Derived.Conc.Own4
import Derived.ArgAppend
set_option linter.unusedVariables false
set_option linter.unusedSimpArgs false
namespace Go.Proofs.YthfgcmoipebheaaGreat.P.Am
variable{d g i k m n r sz:Nat}{mu:Option (Nat×Nat)}{log ls:List Nat}{X X2 e:TypeId}{x:Operand}{t:Ty}{ups:List (Nat×V)}{o:Oper}{fk:Bool}{rs:List (Ty×Nat)}{news:List Value}
def addrOf(t:Nat):V->Option (Nat×List St)
 | .ptr r p _=>some (r,p)
 | .box _ _ _ _=>some (t,[])
 | _=>none
def allM:Nat->Nat->M (List V)
 | _,0=>.ret []
 | i,n+1=>.get i λv=>(allM (i+1) n).bind λl=>.ret (v::l)
def dU(r:Nat)(root:V)(src:Option Nat):Nat->List V->List (Nat×V)
 | _,[]=>[]
 | i,v::l=>cond (v.on r&&i != r&&src != some i && !b9 root src v) ((i,.dead)::dU r root src (i+1) l) (dU r root src (i+1) l)
def oo(r:Nat)(root:V)(src:Option Nat):Nat->List V->Bool
 | _,[]=>true
 | i,v::l=>(!(v.on r&&i != r&&src != some i && !b9 root src v) || !v.aO)&&oo r root src (i+1) l
def auV(C:Ctx)(vs:List Nat)(X:TypeId)(x:Operand)(t:Ty)(n r:Nat):M (t.den×Option Nat):=
 (cI C X x).bind λv=>match v with
 | .d none k tv y=>if h:tv=t then
   if t.depth=0\/(n=0/\k=0)then .ret (h▸y,none)
   else match x with
    | .tmp s=>if n≠0/\(n<=k\/t.depth<=k)/\k≠0/\vs.contains s=false/\s≠r then .ret (h▸y,some s)else .fail
    | .const _=>if n<=k then .ret (h▸y,none)else .fail
    | _=>.fail
  else .fail
 | _=>.fail
def jk(fk:Bool):List Nat->Nat
 | []=>cond fk 1 0
 | k::l=>2 ^ (k+1) ||| jk fk l
def wX{α:Type}(fk:Bool)(r s:Nat):List Nat->M α->M α
 | [],m=>m
 | k::l,m=>cond (k==s) (wX fk r s l m) (.get k λv=>.bn (!cond fk (v.on r) (v.ey r)) (wX fk r s l m))
def ig{α:Type}(fk:Bool)(r s:Nat)(kids:List Nat)(m:M α):M α :=
 if r<100000 then wX fk r s kids (.ask (vp r (jk fk (s::kids))) m)else .fail
def lj(C:Ctx)(vs:List Nat)(N:Nat)(bk:Option (List Nat))(X:TypeId)(t:Nat)(x:Operand):M (List (Nat×V)):=
 .get t λv=>match addrOf t v with
 | none=>.fail
 | some (r,p)=>.get r λu=>(dG p u).bind λz =>
  if C.ty X=some z.2.t/\(u.root != some r)=true/\r<N then
   (auV C vs X x z.2.t z.2.n r).bind λy =>
   (fT p u z.2.t y.1).bind λu' =>
   cond (!u.deep&&y.2.isNone) (.ret [(r,u')])
    (match bk with
     | some ks=>.bn u.fq (ig false r (y.2.getD r) ks (.ret ((r,u')::y.2.toList.map (λs=>(s,V.dead)))))
     | none=>(allM 0 N).bind λTs=>.bn (oo r u y.2 0 Ts) (.ret ((r,u')::(y.2.toList.map (λs=>(s,V.dead))++dU r u y.2 0 Ts))))
  else .fail
section
variable{P:Program}{C:Ctx}{w w' w0:World}{S S':Nat->Prop}{L L' L0:Nat->ak}{s N:Nat}{vs:List Nat}{T T':List V}{tm tm':Array Value}{a:Act}
theorem ly:{n i:Nat}->{l:List V}->{log:List Nat}->(allM i n).aj T l log->i+n=T.length->l=T.drop i
 | 0,i,l,log,h,hl=>by
  obtain⟨rfl,_⟩:=h;rw[List.drop_eq_nil_of_le (by omega)]
 | n+1,i,l,log,h,hl=>by
  obtain⟨aD,rfl,h⟩:=h;obtain⟨l',l1,l2,rfl,h1,h2⟩:=M.aq h;obtain⟨rfl,_⟩:=h2;rw[ly h1 (by omega)];have ax:i<T.length:=by omega
  rw[List.getD_eq_getElem?_getD,List.getElem?_eq_getElem ax];simp
theorem ij[ae]{T:List V}{s:Nat}{v:V}(hs:s<T.length)(hm:s∈ups.map (·.1))(h:∀v',(s,v')∈ups->v'=v):(ai T ups).getD s .dead=v:=by
 have key:∀(ups:List (Nat×V)) (T:List V),s<T.length->(∀v',(s,v')∈ups->v'=v)->(T.getD s .dead=v\/s∈ups.map (·.1))->(ai T ups).getD s .dead=v:=by
  intro ups;induction ups with
  | nil =>
   intro T _ _ h;exact h.resolve_right (by simp)
  | cons u l ih =>
   intro T hs h hm;show (ai (T.set u.1 u.2) l).getD s .dead=v;refine ih _ (by simpa using hs) (λv' hv=>h v' (by simp[hv])) ?_;by_cases hu:s=u.1
   ·left;rw[aJ,if_pos ⟨hu,by rw[<-hu];exact hs⟩];exact h u.2 (by rw[hu];simp)
   ·rcases hm with hm|hm
    ·left;rw[aJ,if_neg (λe=>hu e.1)];exact hm
    ·right;simp only[List.map_cons,List.mem_cons]at hm;exact hm.resolve_left hu
 exact key ups T hs h (.inr hm)
theorem xd{fk:Bool}{z:Nat}:{l:List Nat}->z∉l->(jk fk l).testBit (z+1)=false
 | [],_=>by cases fk<;>simp[jk,Nat.testBit_succ]
 | k::l,h=>by
  simp only[List.mem_cons,not_or]at h;simp only[jk,Nat.testBit_or,xd h.2,Bool.or_false];rw[Nat.testBit_two_pow];simp;omega
theorem xe{fk:Bool}:{l:List Nat}->(jk fk l).testBit 0=fk
 | []=>by cases fk<;>simp[jk]
 | k::l=>by
  simp only[jk,Nat.testBit_or,xe (l:=l)];rw[Nat.testBit_two_pow];simp
theorem LJ{α:Type}{s:Nat}{m:M α}{x:α}:{l:List Nat}->{log:List Nat}->(wX fk r s l m).aj T x log->(∀k∈l,k≠s->cond fk ((T.getD k .dead).on r) ((T.getD k .dead).ey r)=false)/\∃aD,m.aj T x aD
 | [],log,h=>⟨by simp,log,h⟩
 | k::l,log,h=>by
  simp only[wX]at h;cases hk:(k==s)with
  | true =>
   rw[hk]at h;obtain⟨h1,h2⟩:=LJ (l:=l) h;refine⟨λk' aL bm=>?_,h2⟩;rcases List.mem_cons.1 aL with rfl|aL
   ·exact absurd (by simpa using hk) bm
   ·exact h1 k' aL bm
  | false =>
   rw[hk]at h;obtain⟨aD,rfl,hc,h⟩:=h;obtain⟨h1,h2⟩:=LJ (l:=l) h;refine⟨λk' aL bm=>?_,h2⟩;rcases List.mem_cons.1 aL with rfl|aL
   ·simpa using hc
   ·exact h1 k' aL bm
theorem jI[ae]{α:Type}{s:Nat}{kids:List Nat}{m:M α}{x:α}(h:(ig fk r s kids m).aj T x log):
  (∀z,z≠s->cond fk ((T.getD z .dead).on r) ((T.getD z .dead).ey r)=false)/\∃aD,m.aj T x aD:=by
 unfold ig at h;split at h
 ·rename_i hr;obtain⟨h1,aD,h⟩:=LJ h;obtain⟨⟨hq,_⟩,log2,rfl,h⟩:=h;refine⟨λz hz=>?_,log2,h⟩;by_cases hm:z∈kids
  ·exact h1 z hm hz
  ·have:=JG hr hq z (xd (by simp[hz,hm]))
   rwa [xe]at this
 ·exact h.elim
theorem vw{r:Nat}{root:V}{src:Option Nat}:{i:Nat}->{l:List V}->(s:Nat)->(v:V)->((s,v)∈dU r root src i l↔v = .dead/\i<=s/\s<i+l.length/\((l.getD (s - i) .dead).on r&&s != r&&src != some s && !b9 root src (l.getD (s - i) .dead))=true)
 | i,[],s,v=>by simp[dU];omega
 | i,v0::l,s,v=>by
  have ih:=vw (r:=r) (root:=root) (src:=src) (i:=i+1) (l:=l) s v;have eu:i+1<=s->(v0::l).getD (s - i) .dead=l.getD (s - (i+1)) .dead:=λh=>by
   rw[show s - i=(s - (i+1))+1 by omega,List.getD_cons_succ]
  simp only[dU];cases hc:(v0.on r&&i != r&&src != some i && !b9 root src v0)with
  | true =>
   simp only[cond_true,List.mem_cons,Prod.mk.injEq,ih,List.length_cons];constructor
   ·rintro (⟨rfl,rfl⟩|⟨h1,h2,h3,h4⟩)
    ·refine⟨rfl,Nat.le_refl _,by omega,?_⟩;rw[Nat.sub_self,List.getD_cons_zero];exact hc
    ·refine⟨h1,by omega,by omega,?_⟩;rw[eu h2];exact h4
   ·rintro⟨h1,h2,h3,h4⟩
    by_cases hs:s=i
    ·exact .inl ⟨hs,h1⟩
    ·refine .inr ⟨h1,by omega,by omega,?_⟩;rw[<-eu (by omega)];exact h4
  | false =>
   simp only[cond_false,ih,List.length_cons];constructor
   ·rintro⟨h1,h2,h3,h4⟩
    refine⟨h1,by omega,by omega,?_⟩;rw[eu h2];exact h4
   ·rintro⟨h1,h2,h3,h4⟩
    by_cases hs:s=i
    ·subst hs;rw[Nat.sub_self,List.getD_cons_zero,hc]at h4;cases h4
    ·refine⟨h1,by omega,by omega,?_⟩;rw[<-eu (by omega)];exact h4
theorem J6{root:V}{src:Option Nat}:{i:Nat}->{l:List V}->oo r root src i l=true->∀s,s<l.length->((l.getD s .dead).on r&&(i+s) != r&&src != some (i+s) && !b9 root src (l.getD s .dead))=true->(l.getD s .dead).aO=false
 | _,[],_,s,hs,_=>by simp at hs
 | i,v0::l,h,s,hs,hc=>by
  simp only[oo,Bool.and_eq_true,Bool.or_eq_true,Bool.not_eq_true']at h;cases s with
  | zero =>
   simp only[List.getD_cons_zero,Nat.add_zero]at hc ⊢;rcases h.1 with h|h
   ·rw[hc]at h;cases h
   ·exact h
  | succ s =>
   simp only[List.getD_cons_succ]at hc ⊢;exact J6 h.2 s (by simpa using hs) (by rwa [show i+1+s=i+(s+1)by omega])
theorem J7{r:Nat}{root:V}{src:Option Nat}:{i:Nat}->{l:List V}->(∀s,(l.getD s .dead).on r=true->i+s≠r->src≠some (i+s)->b9 root src (l.getD s .dead)=true)->dU r root src i l=[]/\oo r root src i l=true
 | i,[],_=>⟨rfl,rfl⟩
 | i,v::l,h=>by
  obtain⟨h1,h2⟩:=J7 (r:=r) (root:=root) (i:=i+1) (l:=l) (λs hs hr hn=>by
   have:=h (s+1) (by simpa using hs) (by omega) (by rw[show i+(s+1)=i+1+s by omega];exact hn);simpa using this)
  have h0:(v.on r&&i != r&&src != some i && !b9 root src v)=false:=by
   rw[Bool.eq_false_iff];intro hc;simp only[Bool.and_eq_true,Bool.not_eq_true',bne_iff_ne]at hc;have:=h 0 (by simpa using hc.1.1.1) (by simpa using hc.1.1.2) (by simpa using hc.1.2);rw[List.getD_cons_zero,hc.2]at this;cases this
  simp[dU,oo,h0,h1,h2]
theorem alG[ae](hI:Inv w0 L0 N vs T a w L){r:Nat}(hb:(T.getD r .dead).deep=false)(sF:∀A,a.tmps.getD r undef = .tuple A->False)(s:Nat)(hs:(T.getD s .dead).on r=true):b9 (T.getD r .dead) none (T.getD s .dead)=true:=by
 have h:=hI.aX s;generalize hv:T.getD s .dead=v at h hs;have cu:(T.getD r .dead).deep=true->False:=λh=>by rw[hb]at h;cases h
 have cj:∀{q},v.root=some q->q=r:=λh=>by simpa[V.on,h]using hs
 cases v with
 | ptr r' p t=>rfl
 | d l n t x=>exact (cu (h.1 r (by simpa[V.on,V.root]using hs))).elim
 | box l n t x=>exact (cu (h.1 r (by simpa[V.on,V.root]using hs))).elim
 | rp l t x=>exact (cu (h.1 r (by simpa[V.on,V.root]using hs))).elim
 | view r' p t=>have:=cj rfl;subst this;exact (cu h.1).elim
 | part r' i n t x =>
  have:=cj rfl;subst this;obtain⟨_,A,_,_,h1,_⟩:=h;exact (sF A h1).elim
 | hole v p =>
  have:=cj (q:=r) (by simpa[V.on,V.root]using hs);have h0:v.root=none:=h.1;have h1:v.root=some r:=by simpa[V.on,V.root]using hs
  rw[h0]at h1;cases h1
 | bQ _ _ _ _=>simp[V.on,V.root]at hs
 | same r' t =>
  have:=cj rfl;subst this;obtain⟨_,_,_,_,h2⟩:=h;rw[h2]at hb;cases hb
 | dead=>simp[V.on,V.root]at hs
 | bH l=>simp[V.on,V.root]at hs
theorem Vq:¬SL (λ_=>ak.free) none k:=by
 rintro (h|⟨_,_,h,_⟩)<;>cases h
theorem tw[ae](h:iP P C X t){o:Nat}{cur:Array Value}{c:Value}{cs:List Value}(hh:w.heap[g]?=some (.cells cur e (0,0)))(hf:Form t cs c)(h1:∀v∈cs,v.oneCell'=true)
  (hl:cs.length=t.sz) (hb:o+t.sz<=cur.size):(Instr.storeAt X (.pointer (some ⟨g,o,none⟩)) c).run P w = .ok () (w.setRow g (putCells cur o cs)):=by
 have hc:=Form.cells hf h1;have bq:c.cells.size=t.sz:=by rw[<-Array.length_toList,hc,hl]
 have ba:=run_storeCells_at P g o e cs 0 cur w hh (by simp;omega) h1;simp only[Nat.add_zero]at ba;simp[Instr.storeAt,Instr.sureAddr,storeVar,h.run_sizeOf,bq,hc,ba,putCells]
theorem xF[ae](hI:Inv w0 L0 N vs T a w L)(hC:bF P C){t:Nat}{x:Operand}(ho:o.op = .store X (.tmp t) x)(aA:o.dst=none)
  {bk:Option (List Nat)} (h:(lj C vs N bk X t x).aj T ups log):Step P o w0 L0 N vs (ai T ups) a w:=by
 obtain⟨LR,rfl,h⟩:=h;have ba:=hI.aX t;have al7:∀r p,addrOf t (T.getD t .dead)=some (r,p)->∃g,a.eval (.tmp t) = .pointer (some ⟨g,(node [] 0 p).2,none⟩)/\L g = .own r (node [] 0 p).1:=by
  intro r p he;generalize T.getD t .dead=v at he ba;cases v with
  | ptr r2 p2 t2 =>
   simp only[addrOf,Option.some.injEq,Prod.mk.injEq]at he;obtain⟨rfl,rfl⟩:=he;exact ba
  | box l n t2 x2 =>
   simp only[addrOf,Option.some.injEq,Prod.mk.injEq]at he;obtain⟨rfl,rfl⟩:=he;obtain⟨_,g,cur,e,h1,h2,_⟩:=ba;exact⟨g,h1,h2⟩
  | dead=>cases he
  | bH _=>cases he
  | d _ _ _ _=>cases he
  | rp _ _ _=>cases he
  | view _ _ _=>cases he
  | hole _ _=>cases he
  | part _ _ _ _ _=>cases he
  | bQ _ _ _ _=>cases he
  | same _ _=>cases he
 dsimp only at h;split at h
 ·exact h.elim
 ·rename_i r p he;obtain⟨g,c8,hg⟩:=al7 r p he;obtain⟨eP,rfl,h⟩:=h;obtain⟨⟨l,n',t',x'⟩,l1,l2,rfl,hz,h⟩:=M.aq h;dsimp only at h;split at h
  ·rename_i hc;obtain⟨hX,lU,dw⟩:=hc;obtain⟨⟨y,src⟩,l3,l4,rfl,hv,h⟩:=M.aq h;obtain⟨u',l5,l6,rfl,hm,h⟩:=M.aq h;have nA:ups=(r,u')::(src.toList.map (λs=>(s,V.dead))++dU r (T.getD r .dead) src 0 T)/\oo r (T.getD r .dead) src 0 T=true:=by
    cases ja:(!(T.getD r .dead).deep&&src.isNone)with
    | false =>
     rw[ja]at h;dsimp only[cond_false]at h;split at h
     ·rename_i ks;obtain⟨vM,h⟩:=h;obtain⟨cQ,_,h⟩:=jI h;obtain⟨rfl,_⟩:=h;obtain⟨e1,e2⟩:=J7 (r:=r) (root:=T.getD r .dead) (src:=src) (i:=0) (l:=T) (λs hs hr hn=>by
       rw[Nat.zero_add]at hr hn;have hd:(T.getD s .dead).ey r=false:=by
        cases da:src with
        | none =>
         rw[da]at cQ;exact cQ s hr
        | some s0 =>
         rw[da]at cQ hn;exact cQ s (λe=>hn (by rw[e];rfl))
       unfold V.ey at hd;rw[hs,Bool.true_and]at hd;have cW:(T.getD r .dead).dE=false:=by
        generalize T.getD r .dead=u at vM;cases u<;>simp[V.fq,V.dE]at vM ⊢
       generalize T.getD s .dead=v at hd;cases v with
       | ptr r2 p2 t2 =>
        simp only[b9,cW,Bool.not_false,Bool.and_true,Bool.or_eq_true];exact .inr (by simpa using hd)
       | _=>simp at hd)
      rw[e1,e2,List.append_nil];exact⟨rfl,rfl⟩
     ·obtain⟨Ts,l7,l8,rfl,dP,h⟩:=M.aq h;obtain⟨iZ,rfl,_⟩:=h;have bL:Ts=T:=by rw[ly dP (by rw[Nat.zero_add,hI.len])];rfl
      subst bL;exact⟨rfl,iZ⟩
    | true =>
     rw[ja]at h;obtain⟨rfl,_⟩:=h;simp only[Bool.and_eq_true,Bool.not_eq_true',Option.isNone_iff_eq_none]at ja;obtain⟨jL,rfl⟩:=ja;have sF:∀A,a.tmps.getD r undef = .tuple A->False:=by
      intro A hA;have bu:=hI.aX r;rw[hA]at bu;generalize T.getD r .dead=u at bu hz jL;cases u with
      | box l2 n t x=>obtain⟨_,_,_,_,h1,_⟩:=bu;cases h1
      | d l2 n t x =>
       simp only[dG]at hz;split at hz
       ·obtain⟨z,m1,m2,rfl,z1,z2⟩:=M.aq hz;cases n with
        | zero=>cases t<;>simp only[aU]at z1<;>exact z1.elim
        | succ n =>
         cases t with
         | slice e t=>simp[V.deep,Ty.depth]at jL
         | _=>simp only[aU]at z1;exact z1.elim
       ·exact hz.elim
      | dead=>exact hz.elim
      | bH _=>exact hz.elim
      | rp _ _ _=>exact hz.elim
      | ptr _ _ _=>exact hz.elim
      | view _ _ _=>exact hz.elim
      | hole _ _=>exact hz.elim
      | part _ _ _ _ _=>exact hz.elim
      | bQ _ _ _ _=>simp[V.deep]at jL
      | same _ _=>exact hz.elim
     obtain⟨e1,e2⟩:=J7 (r:=r) (root:=T.getD r .dead) (src:=none) (i:=0) (l:=T) (λs hs _ _=>alG hI jL sF s hs);rw[e1,e2];exact⟨rfl,rfl⟩
   obtain⟨rfl,iZ⟩:=nA;generalize bL:T=Ts at *
   obtain⟨hb,sN,_,gW,lK⟩:=lb hz (hI.aX r);obtain⟨g',cur,e,k1,k2,k3,k4⟩:=hb;obtain rfl:=hI.inj g g' r _ hg k1;have ee:∃cs,Form t' cs (a.eval x)/\(∀v∈cs,v.oneCell'=true)/\cs.length=t'.sz/\(∀s,src=some s->s≠r/\s∉vs/\∃k y,n'≠0/\k≠0/\t'.depth≠0/\Ts.getD s .dead = .d none k t' y) /\
     (∀(L':Nat->ak) (w':World) (u:V) q o',(∀k,L k = .au->L' k = .au/\w'.heap[k]?=w.heap[k]?) ->
      (∀s k z i,src=some s->L k = .own s (i::z)->i<t'.sz->w'.heap[k]?=w.heap[k]?/\(z.length<n'->L' k = .own r (q++(o'+i)::z))/\(n'<=z.length->L' k = .au)) ->
      Own w' L' (SL L' u.root) r n' t' y q o' cs):=by
    obtain⟨v,m1,m2,rfl,Lh,cS⟩:=M.aq hv;split at cS
    ·rename_i k tv y0;split at cS
     ·rename_i p7;subst p7;have dK:∃s0,aB L Ts a.tmps s0 (.d none k tv y0) w (a.eval x)/\(∀s,x = .tmp s->s0=s/\Ts.getD s .dead = .d none k tv y0)/\((∀s,x ≠ .tmp s)->∀L T tm s w,aB L T tm s (.d none k tv y0) w (a.eval x)):=by
       rcases ke hI Lh with⟨s,rfl,hv,hs⟩|⟨_,hs⟩
       ·exact⟨s,hs,λs' he=>by cases he;exact⟨rfl,hv.symm⟩,λh=>absurd rfl (h s)⟩
       ·cases x with
        | tmp s =>
         obtain⟨_,_,hv,_⟩:=Lh;refine⟨s,?_,λs' he=>by cases he;exact⟨rfl,hv.symm⟩,λh=>absurd rfl (h s)⟩;rw[hv];exact hI.aX s
        | const c=>exact⟨0,hs _ _ _ _ _,λs' he=>(by cases he),λ_=>hs⟩
        | func c=>exact⟨0,hs _ _ _ _ _,λs' he=>(by cases he),λ_=>hs⟩
        | global c=>exact Lh.elim
      obtain⟨s0,⟨_,cs,hf,bT⟩,hx,kR⟩:=dK;have wM:∀{L':Nat->ak} {w':World} {u:V},(∀k,L k = .au->L' k = .au/\w'.heap[k]?=w.heap[k]?)->∀k,SL L none k->SL L' u.root k/\w'.heap[k]?=w.heap[k]?:=by
       intro L' w' u H k hk;rcases hk with hk|⟨_,_,hk,_⟩
       ·exact⟨.inl (H k hk).1,(H k hk).2⟩
       ·cases hk
      refine⟨cs,hf,Own.one bT,Own.len bT,?_⟩;split at cS
      ·rename_i hd;obtain⟨cS,_⟩:=cS;cases cS;refine⟨λs hs=>(by cases hs),λL' w' u q o' H1 _=>?_⟩;rcases hd with hd|⟨rfl,rfl⟩
       ·exact Own.flat hd bT
       ·exact Own.dM (Rd.move (wM H1) (Own.eH bT))
      ·rename_i hd;cases x with
       | tmp s =>
        dsimp only at cS;split at cS
        ·rename_i vN;obtain⟨cS,_⟩:=cS;cases cS;obtain⟨c1,c2,ck,c3,c4⟩:=vN;obtain⟨rfl,hT⟩:=hx s rfl;refine⟨λs' hs=>?_,λL' w' u q o' H1 H2=>?_⟩
         ·injection hs with hs;subst hs;exact⟨c4,λhm=>(by rw[List.contains_iff_mem.2 hm]at c3;cases c3),k,_,c1,ck,λh=>hd (.inl h),hT⟩
         ·obtain⟨k9,c9,K1⟩:=Own.JI c2 bT;refine Own.ff c9 (wM H1) (λk d rest iu hk=>?_) K1;have aL:L k = .own s0 (d::rest):=by simpa using hk
          have:=H2 s0 k rest d rfl aL iu;exact⟨this.1,this.2.1,λh=>.inl (this.2.2 h)⟩
        ·exact cS.elim
       | const c =>
        dsimp only at cS;split at cS
        ·rename_i kN;obtain⟨cS,_⟩:=cS;cases cS;refine⟨λs hs=>(by cases hs),λL' w' u q o' H1 _=>?_⟩;obtain⟨_,bl,vV,YO⟩:=kR (by simp) (λ_=>.free) [] #[] 0 w;have dj:bl=cs:=by
          have e1:=Form.cells vV (Own.one YO);have e2:=Form.cells hf (Own.one bT);exact e1.symm.trans e2
         subst dj;refine Own.ff kN (λk hk=>absurd hk Vq) (λk d rest _ hk=>by cases hk) YO
        ·exact cS.elim
       | func f=>exact cS.elim
       | global g=>exact cS.elim
     ·exact cS.elim
    ·exact cS.elim
   obtain⟨cs,hf,dY,hlen,da,bA⟩:=ee;have aT:(execOp a.eval o).run P w = .ok .skip (w.setRow g (putCells cur (node [] 0 p).2 cs)):=by
    simp[execOp,ho,c8,tw (hC X t' hX) k2 hf dY hlen k3]
   have bu:src≠some r:=λe=>(da r e).1 rfl;have kL:(ai Ts ((r,u')::(src.toList.map (λs=>(s,V.dead))++dU r (Ts.getD r .dead) src 0 Ts))).length=N:=by rw[cC,hI.len]
   have b8:∀s,src=some s->s<N:=by
    intro s hs;obtain⟨_,_,k,y',_,_,_,hT⟩:=da s hs;rcases Nat.lt_or_ge s N with h|h
    ·exact h
    ·rw[ez (by rw[hI.len];exact h)]at hT;cases hT
   have eB:∀s v,(s,v)∈((r,u')::(src.toList.map (λs=>(s,V.dead))++dU r (Ts.getD r .dead) src 0 Ts))->(s=r/\v=u')\/(src=some s/\v = .dead)\/(v = .dead/\((Ts.getD s .dead).on r&&s != r&&src != some s && !b9 (Ts.getD r .dead) src (Ts.getD s .dead))=true):=by
    intro s v hm;rcases List.mem_cons.1 hm with hm|hm
    ·injection hm with h1 h2;exact .inl ⟨h1,h2⟩
    ·rcases List.mem_append.1 hm with hm|hm
     ·obtain⟨s',bP,he⟩:=List.mem_map.1 hm;injection he with h1 h2;subst h1;exact .inr (.inl ⟨by simpa using bP,h2.symm⟩)
     ·obtain⟨h1,_,_,h2⟩:=(vw s v).1 hm;exact .inr (.inr ⟨h1,by simpa using h2⟩)
   intro K Q hK;unfold Oper.wp;rw[aT,Oper.upon_skip,aA];refine hK a _ _ (Inv.store (m:=n') (src:=src) hI rfl hz hm (by simpa using lU) hg k2 k3 hlen ?_ kL ?_ ?_ ?_ ?_)
   ·intro s hs;obtain⟨h1,h2,k,y',h3,h4,h5,h6⟩:=da s hs;refine⟨h1,h2,?_,by rw[h6];rfl⟩;refine ij (by rw[hI.len];exact b8 s hs) ?_ (λv hm=>?_)
    ·simp[hs]
    ·rcases eB s v hm with⟨h,_⟩|⟨_,h⟩|⟨h,_⟩
     ·exact absurd h h1
     ·exact h
     ·exact h
   ·refine ij (by rw[hI.len];exact dw) (by simp) (λv hm=>?_);rcases eB r v hm with⟨_,h⟩|⟨h,_⟩|⟨_,h⟩
    ·exact h
    ·exact absurd h bu
    ·simp at h
   ·intro s hs dZ ag;have gX:s<N:=by
     rcases Nat.lt_or_ge s N with h|h
     ·exact h
     ·rw[ez (by rw[hI.len];exact h)]at ag;simp[V.on,V.root]at ag
    cases hk:b9 (Ts.getD r .dead) src (Ts.getD s .dead)with
    | true =>
     refine .inr ⟨eX _ _ _ (λhm=>?_),Or.inl rfl⟩;obtain⟨u,hu,he⟩:=List.mem_map.1 hm;rcases eB s u.2 (by rw[<-he];exact hu)with⟨h,_⟩|⟨h,_⟩|⟨_,h⟩
     ·exact hs h
     ·exact dZ h
     ·rw[hk]at h;simp at h
    | false =>
     have hc:((Ts.getD s .dead).on r&&s != r&&src != some s && !b9 (Ts.getD r .dead) src (Ts.getD s .dead))=true:=by
      rw[ag,hk];simp only[Bool.and_eq_true,bne_iff_ne,Bool.not_false,and_true,true_and];exact⟨hs,dZ⟩
     refine .inl ⟨ij (by rw[hI.len];exact gX) ?_ (λv hm=>?_),?_⟩
     ·rw[List.mem_map];exact⟨(s,.dead),by
       refine List.mem_cons_of_mem _ (List.mem_append_right _ ((vw s .dead).2 ⟨rfl,Nat.zero_le _,?_,?_⟩))
       ·rw[Nat.zero_add,hI.len];exact gX
       ·simpa using hc,rfl⟩
     ·rcases eB s v hm with⟨h,_⟩|⟨h,_⟩|⟨h,_⟩
      ·exact absurd h hs
      ·exact absurd h dZ
      ·exact h
     ·exact J6 iZ s (by rw[hI.len];exact gX) (by simpa using hc)
   ·intro s hs dZ ag;refine eX _ _ _ (λhm=>?_);obtain⟨u,hu,he⟩:=List.mem_map.1 hm;rcases eB s u.2 (by rw[<-he];exact hu)with⟨h,_⟩|⟨h,_⟩|⟨_,h⟩
    ·exact hs h
    ·exact dZ h
    ·rw[ag]at h;simp at h
   ·refine bA _ _ _ _ _ (λk hk=>⟨ew hI hk,setRow_other w g k _ (by rintro rfl;rw[hg]at hk;cases hk)⟩) (λs k z i hs hk hi=>?_);have bm:=(da s hs).1;have gS:aW (dN r (node [] 0 p).1 (node [] 0 p).2 t'.sz n' src) w L (λ_=>.free) k=if z.length<n' then .own r ((node [] 0 p).1++((node [] 0 p).2+i)::z)else .au:=by
     rw[dc hI (by rw[hk];simp),hk];simp only[eI,dN];rw[if_neg bm,if_pos hs,if_pos hi]
    refine⟨setRow_other w g k _ (by rintro rfl;rw[hg]at hk;injection hk with hk _;exact bm hk.symm),λh=>by rw[gS,if_pos h],λh=>by rw[gS,if_neg (by omega)]⟩
  ·exact h.elim
end
def M.nJ{α:Type}(T:List V):M α->M α
 | .ret a=>.ret a
 | .fail=>.fail
 | .get s k=>(k (T.getD s .dead)).nJ T
 | .cL t m k=>.cL t m λx=>(k x).nJ T
 | .bn b k=>.bn b (k.nJ T)
 | .ask q k=>.bn (en q T&&decide (bo<=q)) (k.nJ T)
 | .ite b x y=>.ite b (x.nJ T) (y.nJ T)
theorem M.oQ{α:Type}{T T':List V}:{m:M α}->{a:α}->{log:List Nat}->(m.nJ T').aj T a log->∃aD,m.aj T' a aD
 | .ret _,_,_,h=>⟨[],h.1,rfl⟩
 | .fail,_,_,h=>h.elim
 | .get s k,a,log,h=>by
  obtain⟨aD,h⟩:=M.oQ (m:=k _) h;exact⟨s::aD,aD,rfl,h⟩
 | .cL t m k,a,log,h=>by
  obtain⟨x,hm,h⟩:=h;obtain⟨aD,h⟩:=M.oQ (m:=k x) h;exact⟨aD,x,hm,h⟩
 | .bn c k,a,log,h=>by
  obtain⟨hc,h⟩:=h;obtain⟨aD,h⟩:=M.oQ (m:=k) h;exact⟨aD,hc,h⟩
 | .ask q k,a,log,h=>by
  obtain⟨hc,h⟩:=h;obtain⟨aD,h⟩:=M.oQ (m:=k) h;simp only[Bool.and_eq_true,decide_eq_true_eq]at hc;exact⟨q::aD,hc,aD,rfl,h⟩
 | .ite c x y,a,log,h=>by
  rcases h with⟨hc,h⟩|⟨hc,h⟩
  ·obtain⟨aD,h⟩:=M.oQ (m:=x) h;exact⟨aD,.inl ⟨hc,h⟩⟩
  ·obtain⟨aD,h⟩:=M.oQ (m:=y) h;exact⟨aD,.inr ⟨hc,h⟩⟩
def Mf(C:Ctx)(vs:List Nat)(d:Nat)(X:TypeId)(x:Operand):M (List (Nat×V)):=
 match x with
 | .tmp t=>.get t λv =>
   cond (v.aO && !vs.contains t&&v.root.isNone&&(match v with | .hole _ _=>false|_=>true)) (.ret [(t,.dead),(d,v)])
    ((J4 t v).bind λv'=>.bn (fy vs v') (.ret [(d,v')]))
 | x=>(cI C X x).bind λv'=>.bn (fy vs v') (.ret [(d,v')])
def nC(d:Nat):Nat->List V->List (Nat×V)
 | _,[]=>[]
 | i,v::l=>cond (i==d||v.on d) ((i,.dead)::nC d (i+1) l) (nC d (i+1) l)
def D9(d:Nat):Nat->List V->Bool
 | _,[]=>true
 | i,v::l=>(i==d || !(v.on d&&v.aO))&&D9 d (i+1) l
def C6(C:Ctx)(vs:List Nat)(N d:Nat)(X:TypeId)(x:Operand):M (List (Nat×V)):=
 .get d λvd=>.bn (decide (d<N)) (cond vd.aO
  ((allM 0 N).bind λTs=>.bn (D9 d 0 Ts) (((Mf C vs d X x).nJ (ai Ts (nC d 0 Ts))).bind λups=>.ret (nC d 0 Ts++ups)))
  (Mf C vs d X x))
section
variable{P:Program}{C:Ctx}{w w' w0:World}{S S':Nat->Prop}{L L' L0:Nat->ak}{s N:Nat}{vs:List Nat}{T T':List V}{tm tm':Array Value}{a:Act}
def qg(o:Oper)(x:Operand):Prop:=o.op = .move x\/o.op = .assign x
theorem tu(h:qg o x):(execOp a.eval o).run P w = .ok (.value (a.eval x)) w:=by
 rcases h with h|h<;>simp[execOp,h]
theorem ap6[ae](hI:Inv w0 L0 N vs T a w L){t:Nat}(h:t∉vs):nH t t T=true:=by
 unfold nH;rw[List.all_eq_true];intro b hb;obtain⟨i,hi⟩:=List.mem_iff_getElem?.1 hb;simp only[List.getElem?_mapIdx,Option.map_eq_some_iff]at hi;obtain⟨v,hv,rfl⟩:=hi;have kI:T.getD i .dead=v:=by simp[List.getD_eq_getElem?_getD,hv]
 simp only[id_eq,Bool.or_eq_true,bne_iff_ne];right;intro hr;exact h (hI.roots i t (by rw[kI];simp[V.on,hr]))
theorem acr[ae](hI:Inv w0 L0 N vs T a w L){x:Operand}{d:Nat}{log:List Nat}(ho:qg o x)(aA:o.dst=some d)(hd:d<N)(hid:(T.getD d .dead).idle=true)
  (h:(Mf C vs d o.type x).aj T ups log):Step P o w0 L0 N vs (ai T ups) a w:=by
 have Yj:∀{v':V} {log:List Nat},(qs C o.type x).aj T v' log->fy vs v'=true->Step P o w0 L0 N vs (ai T [(d,v')]) a w:=by
  intro v' log h aH K Q hK;have:=abj (P:=P) (d:=d) hI (tu ho) hid h (qx aH);exact aP.inv hI hd hid aA this hK
 have KZ:(∀t,x ≠ .tmp t)->((cI C o.type x).bind λv'=>M.bn (fy vs v') (.ret [(d,v')])).aj T ups log->Step P o w0 L0 N vs (ai T ups) a w:=by
  intro hx h;obtain⟨v',l1,l2,rfl,h1,h2⟩:=M.aq h;obtain⟨aH,rfl,_⟩:=h2;refine Yj (log:=l1) ?_ aH;cases x with
  | tmp t=>exact absurd rfl (hx t)
  | const c=>exact h1
  | func c=>exact h1
  | global c=>exact h1
 cases x with
 | const c=>exact KZ (by simp) h
 | func c=>exact KZ (by simp) h
 | global c=>exact KZ (by simp) h
 | tmp t =>
  obtain⟨aD,rfl,h⟩:=h;dsimp only at h;cases hc:((T.getD t .dead).aO && !vs.contains t&&(T.getD t .dead).root.isNone&&(match T.getD t .dead with | .hole _ _=>false|_=>true))with
  | true =>
   rw[hc]at h;obtain⟨rfl,_⟩:=h;simp only[Bool.and_eq_true,Bool.not_eq_true']at hc;obtain⟨⟨⟨h1,h2⟩,h3⟩,h4⟩:=hc;have p7:t∉vs:=λhm=>by rw[List.contains_iff_mem.2 hm]at h2;cases h2
   have cj:(T.getD t .dead).root=none:=by simpa using h3
   obtain⟨L',il⟩:=Inv.apZ hI (t:=t) (d:=d) rfl h1 (λu p e=>by rw[e]at h4;cases h4) (λr i n t x e=>by rw[e]at cj;cases cj) hd hid (ap6 hI p7) (by rw[cj];simp) (by rw[cj];simp);exact Step.value aA (tu ho) il
  | false =>
   rw[hc]at h;obtain⟨v',l1,l2,rfl,h1,h2⟩:=M.aq h;obtain⟨aH,rfl,_⟩:=h2;exact Yj (log:=t::l1) ⟨l1,rfl,h1⟩ aH
theorem Ea{d:Nat}:{i:Nat}->{l:List V}->(s:Nat)->(v:V)->((s,v)∈nC d i l↔v = .dead/\i<=s/\s<i+l.length/\(s=d\/(l.getD (s - i) .dead).on d=true))
 | i,[],s,v=>by simp[nC];omega
 | i,v0::l,s,v=>by
  have ih:=Ea (d:=d) (i:=i+1) (l:=l) s v;have eu:i+1<=s->(v0::l).getD (s - i) .dead=l.getD (s - (i+1)) .dead:=λh=>by
   rw[show s - i=(s - (i+1))+1 by omega,List.getD_cons_succ]
  simp only[nC];cases hc:(i==d||v0.on d)with
  | true =>
   simp only[cond_true,List.mem_cons,Prod.mk.injEq,ih,List.length_cons];constructor
   ·rintro (⟨rfl,rfl⟩|⟨h1,h2,h3,h4⟩)
    ·refine⟨rfl,Nat.le_refl _,by omega,?_⟩;rw[Nat.sub_self,List.getD_cons_zero];simpa using hc
    ·refine⟨h1,by omega,by omega,?_⟩;rw[eu h2];exact h4
   ·rintro⟨h1,h2,h3,h4⟩
    by_cases hs:s=i
    ·exact .inl ⟨hs,h1⟩
    ·refine .inr ⟨h1,by omega,by omega,?_⟩;rw[<-eu (by omega)];exact h4
  | false =>
   simp only[cond_false,ih,List.length_cons];constructor
   ·rintro⟨h1,h2,h3,h4⟩
    refine⟨h1,by omega,by omega,?_⟩;rw[eu h2];exact h4
   ·rintro⟨h1,h2,h3,h4⟩
    by_cases hs:s=i
    ·subst hs;rw[Nat.sub_self,List.getD_cons_zero]at h4;simp only[Bool.or_eq_false_iff,beq_eq_false_iff_ne]at hc;rcases h4 with h4|h4
     ·exact absurd h4 hc.1
     ·rw[hc.2]at h4;cases h4
    ·refine⟨h1,by omega,by omega,?_⟩;rw[<-eu (by omega)];exact h4
theorem aaH:{i:Nat}->{l:List V}->D9 d i l=true->∀s,i+s≠d->(l.getD s .dead).on d=true->(l.getD s .dead).aO=false
 | _,[],_,s,_,h=>by simp[V.on,V.root]at h
 | i,v0::l,h,s,hs,hc=>by
  simp only[D9,Bool.and_eq_true,Bool.or_eq_true,Bool.not_eq_true',beq_iff_eq]at h;cases s with
  | zero =>
   simp only[List.getD_cons_zero]at hc ⊢;have:=h.1.resolve_left (by simpa using hs);rw[hc,Bool.true_and]at this;exact this
  | succ s =>
   simp only[List.getD_cons_succ]at hc ⊢;exact aaH h.2 s (by omega) hc
theorem aaI[ae](hl:T.length=N)(hd:d<N)(s:Nat):(ai T (nC d 0 T)).getD s .dead=if (s==d||(T.getD s .dead).on d)=true then .dead else T.getD s .dead:=by
 split
 ·rename_i hc;by_cases hs:s<N
  ·refine ij (by rw[hl];exact hs) (List.mem_map.2 ⟨(s,.dead),(Ea s .dead).2 ⟨rfl,Nat.zero_le _,by rw[Nat.zero_add,hl];exact hs,?_⟩,rfl⟩) (λv hm=>((Ea s v).1 hm).1);simpa using hc
  ·exact ez (by rw[cC,hl];omega)
 ·rename_i hc;refine eX _ _ _ (λhm=>hc ?_);obtain⟨u,hu,he⟩:=List.mem_map.1 hm;have:=((Ea s u.2).1 (by rw[<-he];exact hu)).2.2.2;simpa using this
theorem M1[ae](hI:Inv w0 L0 N vs T a w L)(ho:qg o x)(aA:o.dst=some d)
  (h:(C6 C vs N d o.type x).aj T ups log):Step P o w0 L0 N vs (ai T ups) a w:=by
 obtain⟨LR,rfl,hd,h⟩:=h;have hd:d<N:=by simpa using hd
 cases bA:(T.getD d .dead).aO with
 | false =>
  rw[bA]at h;exact acr hI ho aA hd (by rw[V.idle,bA];rfl) h
 | true =>
  rw[bA]at h;obtain⟨Ts,l1,l2,rfl,dP,hk,h⟩:=M.aq h;have bL:Ts=T:=by rw[ly dP (by rw[Nat.zero_add,hI.len])];rfl
  subst bL;obtain⟨bK,l3,l4,rfl,h1,h2⟩:=M.aq h;obtain⟨rfl,_⟩:=h2;obtain⟨aD,h1⟩:=M.oQ h1;have bz:=Inv.kill hI (T':=ai Ts (nC d 0 Ts)) (λs=>s==d||(Ts.getD s .dead).on d) (by rw[cC,hI.len]) (λs=>aaI hI.len hd s) (λs r hs lP ns=>by
   simp only[Bool.or_eq_false_iff,beq_eq_false_iff_ne]at hs ⊢;refine⟨λe=>?_,?_⟩
   ·subst e;rw[hs.2]at lP;cases lP
   ·cases hr:(Ts.getD r .dead).on d with
    | false=>rfl
    | true =>
     by_cases bD:r=d
     ·subst bD;rw[hs.2]at lP;cases lP
     ·rw[aaH hk r (by simpa using bD) hr]at ns;cases ns)
  rw[lg];refine acr bz ho aA hd ?_ h1;rw[aaI hI.len hd,if_pos (by simp)];rfl
end
inductive Mode where
 | ro
 | mut (n:Nat)
 | ptr (n:Nat)
 | bU (n:Nat)
@[simp] def Mode.back:Mode->Bool
 | .ro=>false
 | .mut _=>true
 | .ptr _=>true
 | .bU _=>false
def Mode.dep:Mode->Nat
 | .ro=>0
 | .mut n=>n
 | .ptr n=>n
 | .bU n=>n
def Mode.owned(t:Ty):Mode->Bool
 | .ro=>false
 | .mut n=>n != 0&&t.depth != 0
 | .ptr _=>true
 | .bU n=>n != 0&&t.depth != 0
def dn:List (Ty×Mode)->Ty
 | []=>.unit
 | p::l=>.pair p.1 (dn l)
def cD:List (Ty×Mode)->Ty
 | []=>.unit
 | (t,.mut _)::l=>.pair t (cD l)
 | (t,.ptr _)::l=>.pair t (cD l)
 | (_,.ro)::l=>cD l
 | (_,.bU _)::l=>cD l
def cX:List (Ty×Nat)->Ty
 | []=>.unit
 | p::l=>.pair p.1 (cX l)
structure Fn where
 ps:List (Ty×Mode)
 rs:List (Ty×Nat)
 al:(dn ps).den->Option (Ty.pair (cX rs) (cD ps)).den
def tY(w:World)(L:Nat->ak)(S:Nat->Prop)(s n:Nat)(t:Ty)(x:t.den)(c:Value):Prop :=
 ∃g cur e,c = .pointer (some ⟨g,0,none⟩)/\L g = .own s []/\w.heap[g]?=some (.cells cur e (0,0))/\cur.size=t.sz/\Own w L S s n t x [] 0 cur.toList
def dT(w:World)(L0:Nat->ak):Nat->(ps:List (Ty×Mode))->(dn ps).den->List Value->Prop
 | _,[],_,cs=>cs=[]
 | i,(t,.ptr n)::ps,x,cs=>∃c bl,cs=c::bl/\tY w L0 (λk=>L0 k = .au) i n t x.1 c/\dT w L0 (i+1) ps x.2 bl
 | i,(t,.mut n)::ps,x,cs=>∃c bl cells,cs=c::bl/\Form t cells c/\Own w L0 (λk=>L0 k = .au) i n t x.1 [] 0 cells/\dT w L0 (i+1) ps x.2 bl
 | i,(t,.bU n)::ps,x,cs=>∃c bl cells,cs=c::bl/\Form t cells c/\Own w L0 (λk=>L0 k = .au) i n t x.1 [] 0 cells/\dT w L0 (i+1) ps x.2 bl
 | i,(t,.ro)::ps,x,cs=>∃c bl cells,cs=c::bl/\Form t cells c/\Own w L0 (λk=>L0 k = .au) i 0 t x.1 [] 0 cells/\dT w L0 (i+1) ps x.2 bl
def fP(w:World)(L0:Nat->ak):Nat->(ps:List (Ty×Mode))->(cD ps).den->List Value->Prop
 | _,[],_,cs=>cs=[]
 | i,(t,.mut n)::ps,x,cs=>∃c bl cells,cs=c::bl/\Form t cells c/\Own w L0 (λk=>L0 k = .au) i n t x.1 [] 0 cells/\fP w L0 (i+1) ps x.2 bl
 | i,(t,.ptr n)::ps,x,cs=>∃c bl,cs=c::bl/\tY w L0 (λk=>L0 k = .au) i n t x.1 c/\fP w L0 (i+1) ps x.2 bl
 | i,(_,.ro)::ps,x,cs=>∃c bl,cs=c::bl/\fP w L0 (i+1) ps x bl
 | i,(_,.bU _)::ps,x,cs=>∃c bl,cs=c::bl/\fP w L0 (i+1) ps x bl
def iO(w:World)(L0:Nat->ak)(m:Nat):Nat->(rs:List (Ty×Nat))->(cX rs).den->List Value->Prop
 | _,[],_,cs=>cs=[]
 | o,(t,n)::rs,x,cs=>∃c bl cells,cs=c::bl/\Form t cells c/\Own w L0 (λk=>L0 k = .au) m n t x.1 [] o cells/\iO w L0 m (o+t.sz) rs x.2 bl
def jC(w:World)(L0:Nat->ak)(m:Nat):(rs:List (Ty×Nat))->(cX rs).den->List Value->Prop
 | [(t,n)],x,cs=>(n<1000/\iO w L0 m 0 [(t,n)] x cs)\/(1000<=n/\∃c,cs=[c]/\tY w L0 (λk=>L0 k = .au) m (n - 1000) t x.1 c)
 | rs,x,cs=>iO w L0 m 0 rs x cs
def xb:List (Ty×Nat)->Bool
 | [(_,n)]=>decide (n<1000)
 | _=>true
theorem jC.low{w:World}{L0:Nat->ak}:{rs:List (Ty×Nat)}->{x:(cX rs).den}->{cs:List Value}->xb rs=true->(jC w L0 m rs x cs↔iO w L0 m 0 rs x cs)
 | [(t,n)],x,cs,h=>by
  have h:n<1000:=of_decide_eq_true h;constructor
  ·rintro (⟨_,h1⟩|⟨h1,_⟩)
   ·exact h1
   ·omega
  ·exact λh1=>.inl ⟨h,h1⟩
 | [],_,_,_=>Iff.rfl
 | _::_::_,_,_,_=>Iff.rfl
def oS:List Value->Value
 | [v]=>v
 | l=>.tuple l.toArray
structure jB [ae] (w:World) (L0:Nat->ak) (ps:List (Ty×Mode)):Prop where
 free:∀k,w.heap.size<=k->L0 k = .free
 inj:∀k k' s q,L0 k = .own s q->L0 k' = .own s q->k=k'
 owner:∀k s q,L0 k = .own s q->∃t m,ps[s]?=some (t,m)/\m.owned t=true
 gP:ae.ok w L0
theorem jB.write[ae]{w:World}{L0:Nat->ak}{ps:List (Ty×Mode)}(h:jB w L0 ps){s:Nat}{q:List Nat}(hk:L0 k = .own s q):∃t m,ps[s]?=some (t,m)/\(m.back=true\/∃n,m = .bU n):=by
 obtain⟨t,m,h1,h2⟩:=h.owner k s q hk;refine⟨t,m,h1,?_⟩
 match m,h2 with
 | .mut n,_=>exact .inl rfl
 | .ptr n,_=>exact .inl rfl
 | .bU n,_=>exact .inr ⟨n,rfl⟩
structure Left (w w':World) (L0 L':Nat->ak) (ps:List (Ty×Mode)) (rs:List (Ty×Nat)):Prop where
 os:w'.os=w.os
 tape:w'.tape=w.tape
 output:w'.output=w.output
 size:w.heap.size<=w'.heap.size
 drawn:w.drawn<=w'.drawn
 aV:∀k,k<w.heap.size->(L0 k = .au\/L0 k = .other)->L' k=L0 k/\w'.heap[k]?=w.heap[k]?
 free:∀k,w'.heap.size<=k->L' k = .free
 inj:∀k k' s q,L' k = .own s q->L' k' = .own s q->k=k'
 owner:∀k s q,L' k = .own s q->(s=ps.length/\∃t n,(t,n)∈rs/\((n≠0/\t.depth≠0)\/1000<=n))\/∃t m,ps[s]?=some (t,m)/\m.back=true
def an[ae](P:Program)(f:FuncId)(F:Fn):Prop :=
 (∃ fn, P.funcs[f]? = some fn /\ (fn.name == "runtime.NumGoroutine") = false /\ fn.body.isNone = false) /\
 ∀x r,F.al x=some r->∀(w:World) (L0:Nat->ak) (args:Array Value),jB w L0 F.ps->dT w L0 0 F.ps x args.toList ->
  Calls P f args w (λe w'=>∃cs L',e = .returned (oS cs)/\Left w w' L0 L' F.ps F.rs/\jC w' L' F.ps.length F.rs r.1 cs/\fP w' L' 0 F.ps r.2 args.toList)
def abp:(t:Ty)->Option t.den
 | .slice _ _=>some []
 | .cap (some f) _=>cond (f==jZ) (some none) none
 | _=>none
def XA(f:FuncId):(t:Ty)->M (t.den×List Nat)
 | .raw 1=>.ret ((Value.func (.func f) #[] #[]:(Ty.raw 1).den),[])
 | .cap (some g) .unit=>.bn (g==f && !(g==jZ)) (.ret ((some ():Option Unit),[]))
 | _=>.fail
def py(C:Ctx)(t:Ty)(x:Operand):M (t.den×List Nat):=
 match x with
 | .tmp s=>.get s λv=>(mf s v).bind λz=>if h:z.2.1=t then .ret (h▸z.2.2,if t.depth=0 then []else z.1.toList)else .fail
 | .const (.slice none 0 0)=>match abp t with
  | some y=>.ret (y,[])
  | none=>.fail
 | .const c=>(Db C 0 c).bind λv=>match v with
  | .d none _ t' y=>if h:t'=t then .ret (h▸y,[])else .fail
  | _=>.fail
 | .func f=>XA f t
 | _=>.fail
def Mc(t:Ty)(n:Nat)(x:Operand):M (t.den×Nat):=
 match x with
 | .tmp s=>.get s λv=>match v with
  | .view r [] _=>.get r λu=>match u with
   | .d none n' t' y=>if h:t'=t then (if n'=n/\n≠0/\t.depth≠0 then .ret (h▸y,r)else .fail)else .fail
   | _=>.fail
  | .d none n' t' y=>if h:t'=t then (if n'=n/\n≠0/\t.depth≠0 then .ret (h▸y,s)else .fail)else .fail
  | _=>.fail
 | _=>.fail
structure lv (ps:List (Ty×Mode)) where
 x:(dn ps).den
 ls:List Nat
 mu:List (Nat×Nat)
def lC(C:Ctx):Nat->(ps:List (Ty×Mode))->List Operand->M (lv ps)
 | _,[],[]=>.ret ⟨(),[],[]⟩
 | i,(t,.ro)::ps,x::xs=>(py C t x).bind λy=>(lC C (i+1) ps xs).bind λr=>.ret ⟨(y.1,r.x),y.2++r.ls,r.mu⟩
 | i,(t,.mut n)::ps,x::xs=>(Mc t n x).bind λy=>(lC C (i+1) ps xs).bind λr=>.ret ⟨(y.1,r.x),r.ls,(y.2,i)::r.mu⟩
 | _,_,_=>.fail
section
variable{P:Program}{C:Ctx}{w w' w0:World}{S S':Nat->Prop}{L L' L0:Nat->ak}{s N:Nat}{vs:List Nat}{T T':List V}{tm tm':Array Value}{a:Act}
theorem Own.full:{n:Nat}->{t:Ty}->{x:t.den}->{q:List Nat}->{o:Nat}->{cs:List Value}->t.depth<=n->Own w L S s n t x q o cs->Own w L S' s n t x q o cs
 | _,.int _,_,_,_,_,_,h=>by simpa only[Own]using h
 | _,.bool,_,_,_,_,_,h=>by simpa only[Own]using h
 | _,.str,_,_,_,_,_,h=>by simpa only[Own]using h
 | _,.raw _,_,_,_,_,_,h=>by simpa only[Own]using h
 | 0,.cap _ _,_,_,_,_,hd,_=>by simp[Ty.depth]at hd
 | _+1,.cap _ _,_,_,_,_,_,h=>by simpa only[Own]using h
 | _,.unit,_,_,_,_,_,h=>by simpa only[Own]using h
 | _,.pair a b,_,_,_,_,hd,h=>by
  simp only[Own,Ty.depth]at h hd ⊢;obtain⟨c0,c1,rfl,h0,h1⟩:=h;exact⟨c0,c1,rfl,Own.full (by omega) h0,Own.full (by omega) h1⟩
 | _,.agg t,_,_,_,_,hd,h=>by simp only[Own,Ty.depth]at h hd ⊢;exact Own.full (t:=t) hd h
 | 0,.slice _ _,_,_,_,_,hd,h=>by simp[Ty.depth]at hd
 | n+1,.slice e t,xs,_,_,_,hd,h=>by
  simp only[Own,Ty.depth]at h hd ⊢;rcases h with h|⟨g,cap,cur,h1,h2,h3,h4,h5,h6,h7⟩
  ·exact .inl h
  ·exact .inr ⟨g,cap,cur,h1,h2,h3,h4,h5,h6,λj hj=>Own.full (by omega) (h7 j hj)⟩
def cN(mu:Option (Nat×Nat))(ls:List Nat):ak->ak
 | .own s q=>match mu with
  | some (r,i)=>if s=r then .own i q else if ls.contains s then .au else .other
  | none=>if ls.contains s then .au else .other
 | x=>x
def mU(mu:Option (Nat×Nat))(m d:Nat):ak->ak
 | .own i q=>if i=m then .own d q else match mu with
  | some (r,_)=>.own r q
  | none=>.other
 | x=>x
def dJ(mu:Option (Nat×Nat))(m d:Nat)(L L':Nat->ak):Nat->ak:=λk=>match L k with
 | .free=>mU mu m d (L' k)
 | .own s q=>if mu.map (·.1)=some s then mU mu m d (L' k)else .own s q
 | x=>x
theorem lq{mu:Option (Nat×Nat)}{l:ak}{q:List Nat}(h:cN mu ls l = .own i q):∃r,mu=some (r,i)/\l = .own r q:=by
 cases l with
 | own s q' =>
  unfold cN at h;cases mu with
  | none=>dsimp only at h;split at h<;>cases h
  | some p =>
   obtain⟨r,i'⟩:=p;dsimp only at h;split at h
   ·rename_i hs;injection h with h1 h2;exact⟨r,by rw[h1],by rw[hs,h2]⟩
   ·split at h<;>cases h
 | au=>cases h
 | free=>cases h
 | other=>cases h
theorem vk[ae](hI:Inv w0 L0 N vs T a w L){y:t.den}(h:(py C t x).aj T (y,ls) log):
  ∃cells,Form t cells (a.eval x)/\(∀r∈ls,(T.getD r .dead).deep=true)/\∀(S:Nat->Prop),(∀k,L k = .au->S k)->(∀k r q,r∈ls->L k = .own r q->S k)->Rd w S t y cells:=by
 unfold py at h;split at h
 ·rename_i s;obtain⟨aD,rfl,h⟩:=h;obtain⟨⟨l,t',y'⟩,l1,l2,rfl,h1,h2⟩:=M.aq h;dsimp only at h2;split at h2
  ·rename_i ht;subst ht;obtain⟨h2,_⟩:=h2;injection h2 with h2 h3;subst h2 h3;obtain⟨cells,hf,bD,cB⟩:=qB hI h1 (hI.aX s) (λ_=>rfl);refine⟨cells,hf,λr hr=>?_,λS H1 H2=>?_⟩
   ·split at hr
    ·simp at hr
    ·exact cB r (by simpa using hr)
   ·by_cases hd:t'.depth=0
    ·have:=Own.dM (L:=L) (s:=0) (q:=[]) (o:=0) bD;exact Own.eH (Own.flat (L':=L) (S':=S) (s':=0) (q':=[]) (o':=0) (n':=0) hd this)
    ·rw[if_neg hd]at H2;refine Rd.move (λk hk=>⟨?_,rfl⟩) bD;rcases hk with hk|⟨r,q,hl,hk⟩
     ·exact H1 k hk
     ·exact H2 k r q (by simp[hl]) hk
  ·exact h2.elim
 ·split at h
  ·rename_i y' hn;obtain⟨h,_⟩:=h;injection h with h1 h2;subst h1 h2;unfold abp at hn;split at hn
   ·injection hn with hn;subst hn;exact⟨[.slice none 0 0],rfl,by simp,λS _ _=>by
     simp only[Rd];refine⟨none,0,rfl,Nat.le_refl _,λ_=>?_,λh=>absurd rfl h⟩
     first|exact⟨rfl,rfl⟩|simp⟩
   ·rename_i f u _;cases hf:f==jZ with
    | false=>rw[hf]at hn;cases hn
    | true =>
     rw[hf,cond_true]at hn;injection hn with hn;subst hn;refine⟨[.slice none 0 0],rfl,by simp,λS _ _=>?_⟩;simp only[Rd];refine .inl ⟨by trivial,?_⟩;show [_]=[cond (f==jZ) _ _];rw[hf];rfl
   ·cases hn
  ·exact h.elim
 ·rename_i c _;obtain⟨v,l1,l2,rfl,h1,h2⟩:=M.aq h;split at h2
  ·rename_i n t' y';split at h2
   ·rename_i ht;subst ht;obtain⟨h2,_⟩:=h2;injection h2 with h2 h3;subst h2 h3;obtain⟨⟨_,cells,hf,ho⟩,_⟩:=J2 (L:=λ_=>.free) (T:=T) (tm:=a.tmps) (s:=0) (w:=w) h1;refine⟨cells,hf,by simp,λS _ _=>?_⟩;exact Own.eH (Own.ff (L':=L) (S':=S) (s':=0) (q2:=[]) (o2:=0) (Nat.zero_le _) (λk hk=>absurd hk Vq) (λk d rest _ hk=>by cases hk) ho)
   ·exact h2.elim
  ·exact h2.elim
 ·rename_i f;unfold XA at h;split at h
  ·obtain⟨h,_⟩:=h;injection h with h1 h2;subst h1 h2;refine⟨[.func (.func f) #[] #[]],rfl,by simp,λS _ _=>?_⟩
   first|exact⟨rfl,rfl⟩|simp[Rd,Value.ma]
  ·rename_i g;obtain⟨hg,h,_⟩:=h;injection h with h1 h2;subst h1 h2;simp only[Bool.and_eq_true,beq_iff_eq,Bool.not_eq_true']at hg;obtain⟨rfl,hn⟩:=hg;refine⟨[.func (.func g) #[] #[]],rfl,by simp,λS _ _=>?_⟩;simp only[Rd];exact .inr ⟨(),[],trivial,rfl,hn,rfl⟩
  ·exact h.elim
 ·exact h.elim
theorem ap1[ae](hI:Inv w0 L0 N vs T a w L){y:t.den}(h:(Mc t n x).aj T (y,r) log):
  T.getD r .dead = .d none n t y/\n≠0/\t.depth≠0/\a.eval x=a.tmps.getD r undef:=by
 unfold Mc at h;split at h
 ·rename_i s;obtain⟨aD,rfl,h⟩:=h;have hs:=hI.aX s;generalize hv:T.getD s .dead=v at h hs;dsimp only at h;split at h
  ·rename_i r' t2;obtain⟨log2,rfl,h⟩:=h;dsimp only at h;split at h
   ·rename_i n' t' y' hu;split at h
    ·rename_i ht;subst ht;split at h
     ·rename_i hc;obtain⟨rfl,hn,hd⟩:=hc;obtain⟨h,_⟩:=h;injection h with h1 h2;subst h1 h2;refine⟨hu,hn,hd,?_⟩;obtain⟨_,h1⟩:=hs;rcases h1 with⟨_,h2,_⟩|⟨_,_,_,h2,_⟩
      ·exact h2
      ·rw[hu]at h2;simp[V.dE]at h2
     ·exact h.elim
    ·exact h.elim
   ·exact h.elim
  ·rename_i n' t' y';split at h
   ·rename_i ht;subst ht;split at h
    ·rename_i hc;obtain⟨rfl,hn,hd⟩:=hc;obtain⟨h,_⟩:=h;injection h with h1 h2;subst h1 h2;exact⟨hv,hn,hd,rfl⟩
    ·exact h.elim
   ·exact h.elim
  ·exact h.elim
 ·exact h.elim
theorem JD[ae](hI:Inv w0 L0 N vs T a w L):{ps:List (Ty×Mode)}->{i:Nat}->{xs:List Operand}->{A:lv ps}->{log:List Nat}->(lC C i ps xs).aj T A log ->
  (∀r∈A.ls,(T.getD r .dead).deep=true)/\(∀r j,(r,j)∈A.mu->i<=j/\∃t n y,ps[j - i]?=some (t,.mut n)/\n≠0/\t.depth≠0/\T.getD r .dead = .d none n t y/\(xs.map a.eval)[j - i]?=some (a.tmps.getD r undef)) /\
  (∀j t n,ps[j]?=some (t,.mut n)->∃r,(r,i+j)∈A.mu) /\
  ∀L1:Nat->ak,(∀k,L k = .au->L1 k = .au)->(∀k r q,r∈A.ls->L k = .own r q->L1 k = .au)->(∀k r j q,(r,j)∈A.mu->L k = .own r q->L1 k = .own j q)->dT w L1 i ps A.x (xs.map a.eval)
 | [],i,[],A,log,h=>by
  obtain⟨rfl,_⟩:=h;exact⟨by simp,by simp,by simp,λ_ _ _ _=>rfl⟩
 | (t,.ro)::ps,i,x::xs,A,log,h=>by
  simp only[lC]at h;obtain⟨⟨y,ls⟩,l1,l2,rfl,h1,h⟩:=M.aq h;obtain⟨A',l3,l4,rfl,h2,h⟩:=M.aq h;obtain⟨rfl,_⟩:=h;obtain⟨cells,k1,k2,k3⟩:=vk hI h1;obtain⟨j1,j2,j4,j3⟩:=JD hI h2;refine⟨λr hr=>?_,λr j hm=>?_,λj t' n hj=>?_,λL1 H1 H2 H3=>?_⟩
  ·rcases List.mem_append.1 hr with hr|hr
   ·exact k2 r hr
   ·exact j1 r hr
  ·obtain⟨hi,t',n',y',e1,e2,e3,e4,e5⟩:=j2 r j hm;have:j - i=(j - (i+1))+1:=by omega
   refine⟨by omega,t',n',y',by rw[this];simpa using e1,e2,e3,e4,by rw[this];simpa using e5⟩
  ·cases j with
   | zero=>simp at hj
   | succ j =>
    obtain⟨r,hr⟩:=j4 j t' n (by simpa using hj);exact⟨r,by rw[show i+(j+1)=i+1+j by omega];exact hr⟩
  ·exact⟨a.eval x,_,cells,rfl,k1,Own.dM (k3 _ H1 (λk r q hr hk=>H2 k r q (List.mem_append_left _ hr) hk)),j3 L1 H1 (λk r q hr hk=>H2 k r q (List.mem_append_right _ hr) hk) H3⟩
 | (t,.mut n)::ps,i,x::xs,A,log,h=>by
  simp only[lC]at h;obtain⟨⟨y,r0⟩,l1,l2,rfl,h1,h⟩:=M.aq h;obtain⟨A',l3,l4,rfl,h2,h⟩:=M.aq h;obtain⟨rfl,_⟩:=h;obtain⟨k1,k2,k3,k4⟩:=ap1 hI h1;obtain⟨j1,j2,j4,j3⟩:=JD hI h2;refine⟨j1,λr j hm=>?_,λj t' n' hj=>?_,λL1 H1 H2 H3=>?_⟩
  ·rcases List.mem_cons.1 hm with hm|hm
   ·injection hm with e1 e2;subst e1 e2;exact⟨Nat.le_refl _,t,n,y,by simp,k2,k3,k1,by simp[k4]⟩
   ·obtain⟨hi,t',n',y',e1,e2,e3,e4,e5⟩:=j2 r j hm;have:j - i=(j - (i+1))+1:=by omega
    refine⟨by omega,t',n',y',by rw[this];simpa using e1,e2,e3,e4,by rw[this];simpa using e5⟩
  ·cases j with
   | zero=>exact⟨r0,by simp⟩
   | succ j =>
    obtain⟨r,hr⟩:=j4 j t' n' (by simpa using hj);exact⟨r,by rw[show i+(j+1)=i+1+j by omega];exact List.mem_cons_of_mem _ hr⟩
  ·have hs:=hI.aX r0;rw[k1]at hs;obtain⟨_,cells,hf,ho⟩:=hs;refine⟨a.eval x,_,cells,rfl,by rw[k4];exact hf,?_,j3 L1 H1 H2 (λk r j q hm hk=>H3 k r j q (List.mem_cons_of_mem _ hm) hk)⟩;refine Own.move (λk hk=>⟨?_,rfl⟩) (λk d rest _ hk=>⟨H3 k r0 i _ (by simp) hk,rfl⟩) ho;rcases hk with hk|⟨_,_,hk,_⟩
   ·exact H1 k hk
   ·cases hk
 | [],_,_::_,_,_,h=>h.elim
 | (_,.ro)::_,_,[],_,_,h=>h.elim
 | (_,.mut _)::_,_,[],_,_,h=>h.elim
 | (_,.ptr _)::_,_,[],_,_,h=>h.elim
 | (_,.ptr _)::_,_,_::_,_,_,h=>h.elim
 | (_,.bU _)::_,_,[],_,_,h=>h.elim
 | (_,.bU _)::_,_,_::_,_,_,h=>h.elim
theorem JC{C:Ctx}:{ps:List (Ty×Mode)}->{i:Nat}->{xs:List Operand}->{A:lv ps}->{log:List Nat}->(lC C i ps xs).aj T A log->∀(j:Nat) (t:Ty) (n:Nat),ps[j]?≠some (t,.ptr n)
 | [],_,_,_,_,_,j,t,n=>by simp
 | (t0,.ro)::ps,i,x::xs,A,log,h,j,t,n=>by
  simp only[lC]at h;obtain⟨_,_,_,_,_,h⟩:=M.aq h;obtain⟨_,_,_,_,h2,_⟩:=M.aq h;cases j with
  | zero=>simp
  | succ j=>simpa using JC h2 j t n
 | (t0,.mut n0)::ps,i,x::xs,A,log,h,j,t,n=>by
  simp only[lC]at h;obtain⟨_,_,_,_,_,h⟩:=M.aq h;obtain⟨_,_,_,_,h2,_⟩:=M.aq h;cases j with
  | zero=>simp
  | succ j=>simpa using JC h2 j t n
 | (_,.ro)::_,_,[],_,_,h,_,_,_=>h.elim
 | (_,.mut _)::_,_,[],_,_,h,_,_,_=>h.elim
 | (_,.ptr _)::_,_,[],_,_,h,_,_,_=>h.elim
 | (_,.ptr _)::_,_,_::_,_,_,h,_,_,_=>h.elim
 | (_,.bU _)::_,_,[],_,_,h,_,_,_=>h.elim
 | (_,.bU _)::_,_,_::_,_,_,h,_,_,_=>h.elim
theorem Ws[ae]{C:Ctx}{ps:List (Ty×Mode)}{xs:List Operand}{A:lv ps}(h:(lC C i ps xs).aj T A log){j:Nat}{m:Mode}(hj:ps[j]?=some (t,m))(hm:m.back=true):∃n,m = .mut n:=by
 match m,hj,hm with
 | .ro,_,hm=>cases hm
 | .bU _,_,hm=>cases hm
 | .mut n,_,_=>exact⟨n,rfl⟩
 | .ptr n,hj,_=>exact absurd hj (JC h j t n)
end
section
variable{P:Program}{C:Ctx}{w w' w0:World}{S S':Nat->Prop}{L L' L0:Nat->ak}{s N:Nat}{vs:List Nat}{T T':List V}{tm tm':Array Value}{a:Act}
theorem Dp{l:ak}{s:Nat}{q:List Nat}(h:mU mu m d l = .own s q):∃i,l = .own i q/\((i=m/\s=d)\/(i≠m/\∃j,mu=some (s,j))):=by
 cases l with
 | own i q' =>
  unfold mU at h;dsimp only at h;split at h
  ·rename_i hi;injection h with h1 h2;exact⟨i,by rw[h2],.inl ⟨hi,h1.symm⟩⟩
  ·rename_i hi;split at h
   ·injection h with h1 h2;subst h1;exact⟨i,by rw[h2],.inr ⟨hi,_,rfl⟩⟩
   ·cases h
 | au=>cases h
 | free=>cases h
 | other=>cases h
def gu(mu:Option (Nat×Nat))(l:ak):Prop:=l = .free\/∃s q,l = .own s q/\mu.map (·.1)=some s
theorem jH(h:gu mu (L k)):dJ mu m d L L' k=mU mu m d (L' k):=by
 unfold dJ;rcases h with h|⟨s,q,h,hm⟩
 ·rw[h]
 ·rw[h];simp[hm]
theorem oe(h:¬gu mu (L k)):dJ mu m d L L' k=L k:=by
 unfold dJ;cases hl:L k with
 | own s q =>
  dsimp only;rw[if_neg];intro hm;exact h (.inr ⟨s,q,hl,hm⟩)
 | au=>rfl
 | other=>rfl
 | free=>exact absurd (.inl hl) h
theorem km{mu:Option (Nat×Nat)}{ls:List Nat}{l:ak}(h:¬gu mu l):cN mu ls l = .au\/cN mu ls l = .other:=by
 cases l with
 | own s q =>
  unfold cN;cases mu with
  | none=>dsimp only;split<;>simp
  | some p =>
   obtain⟨r,i⟩:=p;dsimp only;rw[if_neg (λe=>h (.inr ⟨s,q,rfl,by simp[e]⟩))];split<;>simp
 | au=>exact .inl rfl
 | other=>exact .inr rfl
 | free=>exact absurd (.inl rfl) h
theorem Inv.JU[ae](hI:Inv w0 L0 N vs T a w L)(hd:d<N)(hid:(T.getD d .dead).idle=true){ps:List (Ty×Mode)}(hm:m=ps.length)
  (KV:∀r i,mu=some (r,i)->i<m) (bd:Left w w' (λk=>cN mu ls (L k)) L' ps rs) (kL:T'.length=N)
  (jc:∀j t md,ps[j]?=some (t,md)->md.back=true->mu.map (·.2)=some j)
  {c:Value}
  (bG:∀r i,mu=some (r,i)->(T.getD r .dead).aO=true/\((∀(j:Nat) (t:Ty) (md:Mode),ps[j]?=some (t,md)->md.back=false)\/(T'.getD r .dead).aO=true)/\(T'.getD r .dead).root=none/\aB (dJ mu m d L L') T' (a.put (some d) c).tmps r (T'.getD r .dead) w' (a.tmps.getD r undef))
  (hT:∀s r i,mu=some (r,i)->s≠d->s≠r->(T.getD s .dead).on r=true->(T'.getD s .dead = .dead/\(T.getD s .dead).aO=false) \/
   (T'.getD s .dead=T.getD s .dead/\(T.getD s .dead).aO=false/\aB (dJ mu m d L L') T' (a.put (some d) c).tmps s (T.getD s .dead) w' (a.tmps.getD s undef)))
  (im:∀s,s≠d->(∀r i,mu=some (r,i)->s≠r/\(T.getD s .dead).on r=false)->T'.getD s .dead=T.getD s .dead)
  {V0:V} (bW:T'.getD d .dead=V0) (vJ:∀r,V0.on r=true->r∈vs) (Kz:∀k q,L' k = .own m q->V0.aO=true)
  (er:∀r i,mu=some (r,i)->r∉ls)
  (vK:∀tm',aB (dJ mu m d L L') T' tm' d V0 w' c):Inv w0 L0 N vs T' (a.put (some d) c) w' (dJ mu m d L L'):=by
 have bD:∀r i,mu=some (r,i)->r≠d:=by
  intro r i h;exact dm hid (bG r i h).1
 have cW:∀k q,L k ≠ .own d q:=λk q h=>by
  have:=hI.owner k d q h;rw[V.kd hid]at this;cases this
 have ny:∀k,¬gu mu (L k)->(dJ mu m d L L' k=L k/\w'.heap[k]?=w.heap[k]?):=by
  intro k h;have ax:k<w.heap.size:=hI.lt (λe=>h (.inl e));exact⟨oe h,(bd.aV k ax (km h)).2⟩
 let X:Nat->Prop:=λs=>s=d\/∃r i,mu=some (r,i)/\(s=r\/(T.getD s .dead).on r=true);have lN:∀s,¬X s->s≠d/\(∀r i,mu=some (r,i)->s≠r/\(T.getD s .dead).on r=false):=by
  intro s hs;have hs:=not_or.1 hs;refine⟨hs.1,λr i hr=>⟨λe=>hs.2 ⟨r,i,hr,.inl e⟩,?_⟩⟩;cases ho:(T.getD s .dead).on r with
  | false=>rfl
  | true=>exact absurd ⟨r,i,hr,.inr ho⟩ hs.2
 refine Inv.upd X hI (by simp[Act.put,hI.size]) kL hI.dO ?_ ?_ ?_ ?_ ?_ ?_ ?_ ?_ ?_
 ·refine⟨bd.os.trans hI.fr.os,bd.tape.trans hI.fr.tape,bd.output.trans hI.fr.output,Nat.le_trans hI.fr.size bd.size,Nat.le_trans hI.fr.drawn bd.drawn,λk hk h0=>?_,hI.fr.gP⟩;have h1:=hI.fr.aV k hk h0;have pZ:¬gu mu (L k):=by
   rintro (h|⟨s,q,h,_⟩)<;>rw[h1.1]at h<;>rcases h0 with h0|h0<;>rw[h0]at h<;>cases h
  have:=ny k pZ;exact⟨this.1.trans h1.1,this.2.trans h1.2⟩
 ·intro k hk;have hf:=hI.free k (Nat.le_trans bd.size hk);rw[jH (.inl hf),bd.free k hk];rfl
 ·intro k k' s q h h';by_cases hp:gu mu (L k)
  ·rw[jH hp]at h;obtain⟨i,e1,e2⟩:=Dp h;by_cases cw:gu mu (L k')
   ·rw[jH cw]at h';obtain⟨i',Xb,lD⟩:=Dp h';have:i=i':=by
     rcases e2 with⟨rfl,rfl⟩|⟨h1,j,h2⟩
     ·rcases lD with⟨h3,_⟩|⟨_,j,h4⟩
      ·exact h3.symm
      ·exact absurd rfl (bD _ _ h4)
     ·rcases lD with⟨rfl,rfl⟩|⟨h3,j',h4⟩
      ·exact absurd rfl (bD _ _ h2)
      ·
       rcases bd.owner k i q e1 with⟨h5,_⟩|⟨t,n,h5,h5'⟩
       ·exact absurd (h5.trans hm.symm) h1
       ·rcases bd.owner k' i' q Xb with⟨h6,_⟩|⟨t',n',h6,Dw⟩
        ·exact absurd (h6.trans hm.symm) h3
        ·have e5:=jc i t n h5 h5';have e6:=jc i' t' n' h6 Dw;rw[e5]at e6;exact Option.some.inj e6
    subst this;exact bd.inj k k' i q e1 Xb
   ·rw[oe cw]at h';rcases e2 with⟨_,rfl⟩|⟨_,j,h2⟩
    ·exact absurd h' (cW k' q)
    ·exact absurd (.inr ⟨s,q,h',by simp[h2]⟩) cw
  ·rw[oe hp]at h;by_cases cw:gu mu (L k')
   ·rw[jH cw]at h';obtain⟨i,e1,e2⟩:=Dp h';rcases e2 with⟨_,rfl⟩|⟨_,j,h2⟩
    ·exact absurd h (cW k q)
    ·exact absurd (.inr ⟨s,q,h,by simp[h2]⟩) hp
   ·rw[oe cw]at h';exact hI.inj k k' s q h h'
 ·intro k s q h;by_cases hp:gu mu (L k)
  ·rw[jH hp]at h;obtain⟨i,e1,e2⟩:=Dp h;rcases e2 with⟨rfl,rfl⟩|⟨KO,j,h2⟩
   ·rw[bW];exact Kz k q e1
   ·rcases (bG s j h2).2.1 with cu|anx
    ·rcases bd.owner k i q e1 with⟨h5,_⟩|⟨t,md,h5,h6⟩
     ·exact absurd (h5.trans hm.symm) KO
     ·rw[cu i t md h5]at h6;cases h6
    ·exact anx
  ·rw[oe hp]at h;have ho:=hI.owner k s q h;have bO:s≠d:=dm hid ho;by_cases hx:X s
   ·rcases hx with h|⟨r,i,hr,h|h⟩
    ·exact absurd h bO
    ·exact absurd (.inr ⟨s,q,by assumption,by simp[hr,h]⟩) hp
    ·by_cases bu:s=r
     ·exact absurd (.inr ⟨s,q,by assumption,by simp[hr,bu]⟩) hp
     ·rcases hT s r i hr bO bu h with⟨_,h⟩|⟨_,h,_⟩
      ·rw[h]at ho;cases ho
      ·rw[h]at ho;cases ho
   ·obtain⟨_,h2⟩:=lN s hx;rw[im s bO h2];exact ho
 ·intro s hs k hk;obtain⟨h1,h2⟩:=lN s hs;refine ny k ?_
  rintro (hp|⟨s',q',hp,gd⟩)
  ·rcases hk with hk|⟨r,q,hk,_⟩<;>rw[hp]at hk<;>cases hk
  ·obtain⟨⟨r,i⟩,hr,lS⟩:=Option.map_eq_some_iff.1 gd;dsimp only at lS;subst lS;rcases hk with hk|⟨r',q,hk,dp⟩
   ·rw[hp]at hk;cases hk
   ·rw[hp]at hk;injection hk with hk _;subst hk;rcases dp with rfl|dp
    ·exact (h2 _ _ hr).1 rfl
    ·rw[(h2 _ _ hr).2]at dp;cases dp
 ·intro s hs;obtain⟨h1,h2⟩:=lN s hs;refine⟨im s h1 h2,?_⟩;show (a.tmps.setIfInBounds d c).getD s undef=_;rw[dW,if_neg (λe=>h1 e.1)]
 ·intro s r h;by_cases bO:s=d
  ·subst bO;rw[bW]at h;exact vJ r h
  ·by_cases hx:X s
   ·rcases hx with h1|⟨r1,i,hr,h1⟩
    ·exact absurd h1 bO
    ·by_cases bu:s=r1
     ·subst bu;have h0:=(bG s i hr).2.2.1;unfold V.on at h;rw[h0]at h;cases h
     ·have ho:=h1.resolve_left bu;rcases hT s r1 i hr bO bu ho with⟨h2,_⟩|⟨h2,_⟩
      ·rw[h2]at h;simp[V.on,V.root]at h
      ·rw[h2]at h;exact hI.roots s r h
   ·obtain⟨_,h2⟩:=lN s hx;rw[im s bO h2]at h;exact hI.roots s r h
 ·intro s r hs ag ho;obtain⟨h1,h2⟩:=lN s hs;have oH:r≠d:=dm hid ho;have:T'.getD r .dead=T.getD r .dead:=by
   by_cases hx:X r
   ·rcases hx with h|⟨r1,i,hr,h|h⟩
    ·exact absurd h oH
    ·subst h;rw[(h2 r i hr).2]at ag;cases ag
    ·by_cases bu:r=r1
     ·subst bu;rw[(h2 r i hr).2]at ag;cases ag
     ·rcases hT r r1 i hr oH bu h with⟨_,h⟩|⟨h,_⟩
      ·rw[h]at ho;cases ho
      ·exact h
   ·obtain⟨_,h3⟩:=lN r hx;exact im r oH h3
  refine⟨this,?_⟩;show (a.tmps.setIfInBounds d c).getD r undef=_;rw[dW,if_neg (λe=>oH e.1)]
 ·intro s hX;by_cases bO:s=d
  ·subst bO;rw[bW];show aB _ _ _ _ _ _ ((a.tmps.setIfInBounds s c).getD s undef);rw[dW,if_pos ⟨rfl,by rw[hI.size];exact hd⟩];exact vK _
  ·obtain⟨r,i,hr,hX⟩:=hX.resolve_left bO;have gh:∀s',s'≠d->(a.put (some d) c).tmps.getD s' undef=a.tmps.getD s' undef:=λs' h=>kg (by simpa using Ne.symm h);rw[gh s bO];by_cases bu:s=r
   ·subst bu;exact (bG s i hr).2.2.2
   ·have ho:=hX.resolve_left bu;rcases hT s r i hr bO bu ho with⟨h,_⟩|⟨h,_,h'⟩
    ·rw[h];trivial
    ·rw[h];exact h'
theorem Inv.called[ae](hI:Inv w0 L0 N vs T a w L)(hd:d<N)(hid:(T.getD d .dead).idle=true){mu:Option (Nat×Nat)}{ls:List Nat}{ps:List (Ty×Mode)}(hm:m=ps.length)
  (KV:∀r i,mu=some (r,i)->i<m) (bd:Left w w' (λk=>cN mu ls (L k)) L' ps rs) (kL:T'.length=N)
  (jc:∀j t md,ps[j]?=some (t,md)->md.back=true->mu.map (·.2)=some j)
  (bG:∀r i,mu=some (r,i)->∃t n y y2 cells,T.getD r .dead = .d none n t y/\(n≠0/\(t.depth<=n\/ls=[]))/\t.depth≠0/\T'.getD r .dead = .d none n t y2/\Form t cells (a.tmps.getD r undef)/\Own w' L' (λk=>L' k = .au) i n t y2 [] 0 cells)
  (hT:∀s r i,mu=some (r,i)->s≠d->s≠r->(T.getD s .dead).on r=true->(T'.getD s .dead = .dead/\(T.getD s .dead).aO=false)\/(T'.getD s .dead=T.getD s .dead/\∃t,T.getD s .dead = .view r [] t))
  (im:∀s,s≠d->(∀r i,mu=some (r,i)->s≠r/\(T.getD s .dead).on r=false)->T'.getD s .dead=T.getD s .dead)
  {V0:V} {c:Value} (bW:T'.getD d .dead=V0) (vJ:∀r,V0.on r=true->r∈vs) (Kz:∀k q,L' k = .own m q->V0.aO=true)
  (er:∀r i,mu=some (r,i)->r∉ls)
  (vK:∀tm',aB (dJ mu m d L L') T' tm' d V0 w' c):Inv w0 L0 N vs T' (a.put (some d) c) w' (dJ mu m d L L'):=by
 have bD:∀r i,mu=some (r,i)->r≠d:=by
  intro r i h;obtain⟨t,n,y,y2,cells,h1,h2,h3,_⟩:=bG r i h;refine dm hid ?_;rw[h1];simp only[V.aO,Bool.and_eq_true,bne_iff_ne];omega
 have gh:∀s',s'≠d->(a.put (some d) c).tmps.getD s' undef=a.tmps.getD s' undef:=λs' h=>kg (by simpa using Ne.symm h);refine Inv.JU hI hd hid hm KV bd kL jc (λr i hr=>?_) (λs r i hr bO bu ho=>?_) im bW vJ Kz er vK
 ·obtain⟨t,n,y,y2,cells,h3,h4,h5,h6,h7,h8⟩:=bG r i hr;refine⟨by rw[h3];simp only[V.aO,Bool.and_eq_true,bne_iff_ne];omega,.inr (by rw[h6];simp only[V.aO,Bool.and_eq_true,bne_iff_ne];omega),by rw[h6];rfl,?_⟩;rw[h6];refine⟨by simp,cells,h7,?_⟩;have wg:i≠m:=by have:=KV r i hr;omega
  have bA:∀k q',L' k = .own i q'->dJ mu m d L L' k = .own r q':=by
   intro k q' hk;have hp:gu mu (L k):=by
    apply Classical.byContradiction;intro hp;have ax:k<w.heap.size:=hI.lt (λe=>hp (.inl e));have h9:=(bd.aV k ax (km hp)).1;rw[hk]at h9;rcases km (ls:=ls) hp with h|h<;>rw[h]at h9<;>cases h9
   rw[jH hp,hk];simp[mU,wg,hr]
  rcases h4.2 with h4|h4
  ·exact Own.move (S:=λ_=>False) (λk hk=>hk.elim) (λk dd rest _ hk=>⟨bA k _ hk,rfl⟩) (Own.full h4 h8)
  ·refine Own.move (λk hk=>⟨.inl ?_,rfl⟩) (λk dd rest _ hk=>⟨bA k _ hk,rfl⟩) h8;have hk:L' k = .au:=hk;by_cases hp:gu mu (L k)
   ·rw[jH hp,hk];rfl
   ·have ax:k<w.heap.size:=hI.lt (λe=>hp (.inl e));have h9:=(bd.aV k ax (km hp)).1;rw[hk]at h9;rw[oe hp];cases gT:L k with
    | au=>rfl
    | own s q' =>
     rw[gT,h4]at h9;exfalso;unfold cN at h9;cases mu with
     | none=>cases hr
     | some p =>
      obtain⟨r1,i1⟩:=p;dsimp only at h9;split at h9
      ·cases h9
      ·split at h9
       ·rename_i hc;simp at hc
       ·cases h9
    | other=>rw[gT]at h9;cases h9
    | free=>exact absurd (.inl gT) hp
 ·obtain⟨t,n,y,y2,cells,h3,h4,h5,h6,h7,h8⟩:=bG r i hr;rcases hT s r i hr bO bu ho with h|⟨h,t',h'⟩
  ·exact .inl h
  ·refine .inr ⟨h,by rw[h'];rfl,?_⟩;rw[h'];have hs:=hI.aX s;rw[h']at hs;obtain⟨_,h1⟩:=hs;rcases h1 with⟨_,h2,l1,n1,x1,h9,lG⟩|⟨_,_,_,h2,_⟩
   ·rw[h3]at h9;cases h9;refine⟨by rw[h6];simp only[V.deep,Bool.and_eq_true,bne_iff_ne];omega,.inl ⟨rfl,?_,none,n,y2,h6,by simp only[V.aO,Bool.and_eq_true,bne_iff_ne];omega⟩⟩;rw[gh r (bD r i hr)];exact h2
   ·rw[h3]at h2;simp[V.dE]at h2
end
def xK:(rs:List (Ty×Nat))->(cX rs).den->List (Nat×Option (Nat×(t:Ty)×t.den))
 | [],_=>[]
 | (t,n)::rs,x=>(t.sz,some (n,⟨t,x.1⟩))::xK rs x.2
def mg(vs ls:List Nat):(rs:List (Ty×Nat))->(cX rs).den->Option V
 | [(t,n)],x=>if 1000<=n then (match ls with
  | []=>some (.box none (n - 1000) t x.1)
  | _::_=>none)else if t.depth<=n then some (.d none n t x.1)else match ls with
  | []=>some (.d none n t x.1)
  | l::LV=>cond (LV.all (· == l)&&vs.contains l) (some (.d (some l) n t x.1)) none
 | rs,x=>cond (ls.isEmpty||rs.all (λp=>decide (p.1.depth<=p.2))) (some (.bH (xK rs x))) none
def ti:(ps:List (Ty×Mode))->(cD ps).den->Option V
 | [],_=>none
 | (t,.mut n)::_,x=>some (.d none n t x.1)
 | (_,.ptr _)::_,_=>none
 | (_,.bU _)::_,_=>none
 | (_,.ro)::ps,x=>ti ps x
abbrev dI:=FuncId->Option Fn
def qt:List (Ty×Mode)->Bool
 | []=>true
 | (t,.mut n)::ps=>decide (t.depth<=n)&&qt ps
 | _::ps=>qt ps
def vq(C:Ctx)(bj:dI)(vs:List Nat)(N d:Nat)(f:FuncId)(args:List Operand):M (List (Nat×V)):=
 match bj f with
 | none=>.fail
 | some F=>(lC C 0 F.ps args).bind λA=>match A.mu with
  | []=>.cL (.pair (cX F.rs) (cD F.ps)) (F.al A.x) λr=>match mg vs A.ls F.rs r.1 with
   | some v=>.ret [(d,v)]
   | none=>.fail
  | [(r0,_)]=>cond (A.ls.contains r0 || !decide (r0<N) || !(qt F.ps||A.ls.isEmpty)) .fail (.get r0 λu=>.cL (.pair (cX F.rs) (cD F.ps)) (F.al A.x) λr=>match mg vs A.ls F.rs r.1,ti F.ps r.2 with
   | some v,some u'=>(allM 0 N).bind λTs=>.bn (oo r0 u (some r0) 0 Ts) (.ret (((r0,u')::dU r0 u (some r0) 0 Ts)++[(d,v)]))
   | _,_=>.fail)
  | _=>.fail
def fY[ae](P:Program)(bj:dI):Prop:=∀f F,bj f=some F->an P f F
section
variable{P:Program}{C:Ctx}{w w' w0:World}{S S':Nat->Prop}{L L' L0:Nat->ak}{s N:Nat}{vs:List Nat}{T T':List V}{tm tm':Array Value}{a:Act}
theorem xh:{ps:List (Ty×Mode)}->qt ps=true->(j:Nat)->{t:Ty}->{n:Nat}->ps[j]?=some (t,.mut n)->t.depth<=n
 | [],_,_,_,_,h=>by simp at h
 | (t0,.mut n0)::ps,h,0,t,n,hj=>by
  simp only[qt,Bool.and_eq_true,decide_eq_true_eq]at h;simp only[List.getElem?_cons_zero,Option.some.injEq,Prod.mk.injEq,Mode.mut.injEq]at hj;obtain⟨rfl,rfl⟩:=hj;exact h.1
 | (t0,.mut n0)::ps,h,j+1,t,n,hj=>by
  simp only[qt,Bool.and_eq_true]at h;exact xh h.2 j (by simpa using hj)
 | (t0,.ro)::ps,h,0,t,n,hj=>by simp at hj
 | (t0,.ptr _)::ps,h,0,t,n,hj=>by simp at hj
 | (t0,.bU _)::ps,h,0,t,n,hj=>by simp at hj
 | (t0,.ro)::ps,h,j+1,t,n,hj=>xh (ps:=ps) h j (by simpa using hj)
 | (t0,.ptr _)::ps,h,j+1,t,n,hj=>xh (ps:=ps) h j (by simpa using hj)
 | (t0,.bU _)::ps,h,j+1,t,n,hj=>xh (ps:=ps) h j (by simpa using hj)
theorem Me:{ps:List (Ty×Mode)}->{i:Nat}->{x:(cD ps).den}->{cs:List Value}->{v:V}->fP w L0 i ps x cs->ti ps x=some v ->
  ∃j t n y c cells,ps[j]?=some (t,.mut n)/\v = .d none n t y/\cs[j]?=some c/\Form t cells c/\Own w L0 (λk=>L0 k = .au) (i+j) n t y [] 0 cells
 | [],_,_,_,_,_,hv=>by cases hv
 | (t,.mut n)::ps,i,x,cs,v,h,hv=>by
  simp only[fP]at h;obtain⟨c,bl,cells,rfl,h1,h2,_⟩:=h;simp only[ti,Option.some.injEq]at hv;exact⟨0,t,n,x.1,c,cells,rfl,hv.symm,rfl,h1,h2⟩
 | (t,.ptr n)::ps,i,x,cs,v,h,hv=>by cases hv
 | (t,.bU n)::ps,i,x,cs,v,h,hv=>by cases hv
 | (t,.ro)::ps,i,x,cs,v,h,hv=>by
  simp only[fP]at h;obtain⟨c,bl,rfl,h⟩:=h;simp only[ti]at hv;obtain⟨j,t',n,y,c',cells,h1,h2,h3,h4,h5⟩:=Me h hv;exact⟨j+1,t',n,y,c',cells,by simpa using h1,h2,by simpa using h3,h4,by rw[show i+(j+1)=i+1+j by omega];exact h5⟩
theorem vo[ae]{mu:Option (Nat×Nat)}{ls:List Nat}{ps:List (Ty×Mode)}(hI:Inv w0 L0 N vs T a w L)(bd:Left w w' (λk=>cN mu ls (L k)) L' ps rs)
  {l:Option Nat} {n:Nat} {t:Ty} {x:t.den} {q:List Nat} {o:Nat} {cs:List Value} (hl:t.depth<=n\/∀r∈ls,l=some r)
  (h:Own w' L' (λk=>L' k = .au) m n t x q o cs):Own w' (dJ mu m d L L') (SL (dJ mu m d L L') l) d n t x q o cs:=by
 have bA:∀k q',L' k = .own m q'->dJ mu m d L L' k = .own d q':=by
  intro k q' hk;have hp:gu mu (L k):=by
   apply Classical.byContradiction;intro hp;have ax:k<w.heap.size:=hI.lt (λe=>hp (.inl e));have h9:=(bd.aV k ax (km hp)).1;rw[hk]at h9;rcases km (ls:=ls) hp with h|h<;>rw[h]at h9<;>cases h9
  rw[jH hp,hk];simp[mU]
 rcases hl with hl|hl
 ·exact Own.move (S:=λ_=>False) (λk hk=>hk.elim) (λk dd rest _ hk=>⟨bA k _ hk,rfl⟩) (Own.full hl h)
 ·refine Own.move (λk hk=>⟨?_,rfl⟩) (λk dd rest _ hk=>⟨bA k _ hk,rfl⟩) h;by_cases hp:gu mu (L k)
  ·left;rw[jH hp,hk];rfl
  ·have ax:k<w.heap.size:=hI.lt (λe=>hp (.inl e));have h9:=(bd.aV k ax (km hp)).1;rw[hk]at h9;unfold SL;rw[oe hp];cases gT:L k with
   | au=>exact .inl rfl
   | own s q' =>
    right;rw[gT]at h9;unfold cN at h9;refine⟨s,q',hl s ?_,rfl⟩;cases mu with
    | none =>
     dsimp only at h9;split at h9
     ·rename_i hc;simpa using hc
     ·cases h9
    | some p =>
     obtain⟨r,i⟩:=p;dsimp only at h9;split at h9
     ·cases h9
     ·split at h9
      ·rename_i hc;simpa using hc
      ·cases h9
   | other=>rw[gT]at h9;cases h9
   | free=>exact absurd (.inl gT) hp
theorem acF[ae]{ps:List (Ty×Mode)}{MM:List (Ty×Nat)}(hI:Inv w0 L0 N vs T a w L)(bd:Left w w' (λk=>cN mu ls (L k)) L' ps MM):
  {rs:List (Ty×Nat)}->{o:Nat}->{x:(cX rs).den}->{cs:List Value}->(ls=[]\/∀p∈rs,p.1.depth<=p.2)->iO w' L' m o rs x cs->eV w' (dJ mu m d L L') d o (xK rs x) cs
 | [],_,_,_,_,h=>h
 | (t,n)::rs,o,x,cs,hl,h=>by
  simp only[iO]at h;obtain⟨c,bl,cells,rfl,h1,h2,h3⟩:=h;refine⟨c,bl,rfl,λn' t' x' hc=>?_,acF hI bd (hl.imp id λh p hp=>h p (by simp[hp])) h3⟩;simp only[Option.some.injEq,Prod.mk.injEq]at hc;obtain⟨rfl,hc⟩:=hc;cases hc;refine⟨rfl,cells,h1,vo hI bd ?_ h2⟩;rcases hl with rfl|hl
  ·exact .inr (by simp)
  ·exact .inl (hl (t,n) (by simp))
theorem asg[ae]{ps:List (Ty×Mode)}{MM:List (Ty×Nat)}{tm':Array Value}(hI:Inv w0 L0 N vs T a w L)(bd:Left w w' (λk=>cN mu ls (L k)) L' ps MM)
  {rs:List (Ty×Nat)} {x:(cX rs).den} {cs:List Value} (bm:∀p,rs≠[p]) (hl:ls=[]\/∀p∈rs,p.1.depth<=p.2) (h:iO w' L' m 0 rs x cs):aB (dJ mu m d L L') T' tm' d (.bH (xK rs x)) w' (oS cs):=by
 refine⟨cs.toArray,?_,by simpa using acF hI bd hl h⟩
 match rs,x,cs,h with
 | [],_,cs,h =>
  obtain rfl:cs=[]:=h;rfl
 | [p],_,_,_=>exact absurd rfl (bm p)
 | p::p'::rs,x,cs,h =>
  obtain⟨c,bl,cells,rfl,_,_,h3⟩:=h;obtain⟨c',avc,cr,rfl,_⟩:=h3;rfl
theorem xy[ae]{ls:List Nat}{ps:List (Ty×Mode)}{d:Nat}(hI:Inv w0 L0 N vs T a w L)(bd:Left w w' (λk=>cN mu ls (L k)) L' ps rs)
  (hm:m=ps.length) (vR:∀r∈ls,(T'.getD r .dead).deep=true) {x:(cX rs).den} {cs:List Value} {v:V} (h:jC w' L' m rs x cs) (hv:mg vs ls rs x=some v) :
  (∀r,v.on r=true->r∈vs)/\(∀k q,L' k = .own m q->v.aO=true)/\∀tm',aB (dJ mu m d L L') T' tm' d v w' (oS cs):=by
 have wF:∀k q,L' k = .own m q->∃t n,(t,n)∈rs/\((n≠0/\t.depth≠0)\/1000<=n):=by
  intro k q hk;rcases bd.owner k m q hk with⟨_,h⟩|⟨t,n,h,_⟩
  ·exact h
  ·rw[hm]at h;simp at h
 have sP:xb rs=true->(∀p,rs≠[p])->cond (ls.isEmpty||rs.all (λp=>decide (p.1.depth<=p.2))) (some (V.bH (xK rs x))) none=some v ->
   (∀r,v.on r=true->r∈vs)/\(∀k q,L' k = .own m q->v.aO=true)/\∀tm',aB (dJ mu m d L L') T' tm' d v w' (oS cs):=by
  intro amU bm hv;have h:=(jC.low amU).1 h;cases hc:(ls.isEmpty||rs.all (λp=>decide (p.1.depth<=p.2)))with
  | false=>rw[hc]at hv;cases hv
  | true =>
   rw[hc]at hv;injection hv with hv;subst hv;refine⟨λr h=>by simp[V.on,V.root]at h,λk q hk=>?_,λtm'=>asg hI bd bm ?_ h⟩
   ·exact rfl
   ·simp only[Bool.or_eq_true,List.isEmpty_iff,List.all_eq_true,decide_eq_true_eq]at hc;exact hc
 match rs,x,h,hv,sP,wF with
 | [],x,h,hv,sP,wF=>exact sP rfl (by simp) hv
 | p::p'::rs,x,h,hv,sP,wF=>exact sP rfl (by simp) hv
 | [(t,n)],x,h,hv,sP,wF =>
  by_cases DS:1000<=n
  ·simp only[mg,if_pos DS]at hv;cases ls with
   | cons _ _=>cases hv
   | nil =>
    injection hv with hv;subst hv;rcases h with⟨h,_⟩|⟨_,c,rfl,g,cur,e,rfl,h1,h2,h3,h4⟩
    ·omega
    ·refine⟨λr h=>by simp[V.on,V.root]at h,λ_ _ _=>rfl,λtm'=>⟨by simp,g,cur,e,rfl,?_,h2,h3,vo hI bd (.inr (by simp)) h4⟩⟩;have hp:gu mu (L g):=by
      apply Classical.byContradiction;intro hp;have ax:g<w.heap.size:=hI.lt (λe=>hp (.inl e));have h9:=(bd.aV g ax (km hp)).1;rw[h1]at h9;rcases km (ls:=[]) hp with h|h<;>rw[h]at h9<;>cases h9
     rw[jH hp,h1];simp[mU]
  have h:=((or_iff_left (b:=_) (λhh=>DS hh.1)).1 h).2;simp only[iO]at h;obtain⟨c,bl,cells,rfl,h1,h2,rfl⟩:=h;have gW:∀l,∀k q,L' k = .own m q->(V.d l n t x.1).aO=true:=by
   intro l k q hk;obtain⟨t',n',g1,g2⟩:=wF k q hk;simp only[List.mem_singleton,Prod.mk.injEq]at g1;obtain⟨rfl,rfl⟩:=g1;simp only[V.aO,Bool.and_eq_true,bne_iff_ne];exact g2.resolve_right DS
  simp only[mg,if_neg DS]at hv;split at hv
  ·rename_i hd;injection hv with hv;subst hv;exact⟨λr h=>by simp[V.on,V.root]at h,gW none,λtm'=>⟨by simp,cells,h1,vo hI bd (.inl hd) h2⟩⟩
  ·cases ls with
   | nil =>
    injection hv with hv;subst hv;exact⟨λr h=>by simp[V.on,V.root]at h,gW none,λtm'=>⟨by simp,cells,h1,vo hI bd (.inr (by simp)) h2⟩⟩
   | cons l LV =>
    dsimp only at hv;cases hc:(LV.all (· == l)&&vs.contains l)with
    | false=>rw[hc]at hv;cases hv
    | true =>
     rw[hc]at hv;injection hv with hv;subst hv;simp only[Bool.and_eq_true,List.all_eq_true,beq_iff_eq]at hc;refine⟨λr h=>?_,gW _,λtm'=>⟨λr hr=>?_,cells,h1,vo hI bd (.inr λr hr=>?_) h2⟩⟩
     ·have:l=r:=by simpa[V.on,V.root]using h
      rw[<-this];simpa using hc.2
     ·injection hr with hr;exact vR r (by rw[hr];simp)
     ·rcases List.mem_cons.1 hr with rfl|hr
      ·rfl
      ·rw[hc.1 r hr]
theorem M3[ae](hI:Inv w0 L0 N vs T a w L){bj:dI}(ed:fY P bj){f:FuncId}{args:Array Operand}{cG:Array TypeId}{d:Nat}  
  (ho:o.op = .call { callee:=.value (.func f),args,argTypes:=cG }) (aA:o.dst=some d) (hd:d<N) (hid:(T.getD d .dead).idle=true)
  (h:(vq C bj vs N d f args.toList).aj T ups log):Step P o w0 L0 N vs (ai T ups) a w:=by
 unfold vq at h;split at h
 ·exact h.elim
 ·rename_i F hF;obtain⟨⟨fn,iw,gf,mX⟩,aH⟩:=ed f F hF;have hb:=M.aq h;clear h;obtain⟨A,l1,l2,rfl,h1,h⟩:=hb;obtain⟨er,gd,pX,gQ⟩:=JD hI h1;have aT:=Go.Conc.run_call_body (P:=P) (a:=a) (w:=w) ho iw gf mX;have lL:∀r∈A.ls,r≠d:=λr hr=>dm hid (V.fg (er r hr));have fin:∀(mu:Option (Nat×Nat)),A.mu=mu.toList->(∀r i,mu=some (r,i)->r∉A.ls)->∀r,F.al A.x=some r ->
    (∀w' cs L',Left w w' (λk=>cN mu A.ls (L k)) L' F.ps F.rs->jC w' L' F.ps.length F.rs r.1 cs->fP w' L' 0 F.ps r.2 (args.toList.map a.eval)->Inv w0 L0 N vs (ai T ups) (a.put (some d) (oS cs)) w' (dJ mu F.ps.length d L L')) ->
    Step P o w0 L0 N vs (ai T ups) a w:=by
   intro mu YH amW r fa hinv K Q hK;unfold Oper.wp;rw[aT,Oper.upon_enter];have gb:∀r i,mu=some (r,i)->(r,i)∈A.mu:=λr i h=>by rw[YH,h];simp
   have ni:jB w (λk=>cN mu A.ls (L k)) F.ps:=by
    refine⟨λk hk=>by rw[hI.free k hk];rfl,λk k' s q h h'=>?_,λk s q h=>?_,ae.aV hI.fr.gP λk hk h0=>⟨?_,(hI.fr.aV k hk h0).2⟩⟩
    ·obtain⟨r1,e1,e2⟩:=lq h;obtain⟨r2,e3,e4⟩:=lq h';rw[e1]at e3;injection e3 with e3;injection e3 with e3 _;subst e3;exact hI.inj k k' _ _ e2 e4
    ·obtain⟨r1,e1,e2⟩:=lq h;obtain⟨_,t,n,y,h2,h3,h4,_⟩:=gd r1 s (gb r1 s e1);exact⟨t,.mut n,by simpa using h2,by simp only[Mode.owned,Bool.and_eq_true,bne_iff_ne];omega⟩
    ·rw[(hI.fr.aV k hk h0).1];rcases h0 with h0|h0<;>rw[h0]<;>simp[cN]
   have dK:=gQ (λk=>cN mu A.ls (L k)) (λk hk=>by rw[hk];rfl) (λk r q hr hk=>by
    rw[hk];unfold cN;cases mu with
    | none=>dsimp only;rw[if_pos (by simpa using hr)]
    | some p =>
     obtain⟨r0,i⟩:=p;dsimp only;rw[if_neg (λe:r=r0=>amW r0 i rfl (by rw[<-e];exact hr)),if_pos (by simpa using hr)]) (λk r j q hm hk=>by
    rw[hk];rw[YH]at hm;cases mu with
    | none=>simp at hm
    | some p =>
     obtain⟨r0,i⟩:=p;simp only[Option.toList_some,List.mem_singleton,Prod.mk.injEq]at hm;obtain⟨rfl,rfl⟩:=hm;simp[cN])
   refine Calls.mono (aH A.x r fa w _ (args.map a.eval) ni (by simpa using dK)) ?_
   rintro e w' ⟨cs,L',rfl,bd,cc,jR⟩
   dsimp only;rw[aA];exact hK _ _ _ (hinv w' cs L' bd cc (by simpa using jR))
  rcases eZ:A.mu with _|⟨⟨r0,i⟩,_|⟨p2,rest⟩⟩
  ·
   rw[eZ]at h;obtain⟨r,fa,h⟩:=h;dsimp only at h;split at h
   ·rename_i v hv;obtain⟨rfl,_⟩:=h;refine fin none (by simpa using eZ) (by simp) r fa (λw' cs L' bd cc jR=>?_);have nr:∀(j:Nat) (t:Ty) (m:Mode),F.ps[j]?=some (t,m)->m.back=true->False:=by
     intro j t m hj hm;obtain⟨n,rfl⟩:=Ws h1 hj hm;obtain⟨r',aZ⟩:=pX j t n hj;rw[eZ]at aZ;simp at aZ
    have bW:(ai T [(d,v)]).getD d .dead=v:=by
     show (T.set d v).getD d .dead=v;rw[aJ,if_pos ⟨rfl,by rw[hI.len];exact hd⟩]
    have bt:∀s,s≠d->(ai T [(d,v)]).getD s .dead=T.getD s .dead:=by
     intro s hs;show (T.set d v).getD s .dead=_;rw[aJ,if_neg (λe=>hs e.1)]
    obtain⟨k1,k2,k3⟩:=xy (T':=ai T [(d,v)]) (d:=d) hI bd rfl (λr hr=>by rw[bt r (lL r hr)];exact er r hr) cc hv;exact Inv.called hI hd hid rfl (λr i h=>by cases h) bd (by rw[cC,hI.len]) (λj t n hj hm=>(nr j t n hj hm).elim) (λr i h=>by cases h) (λs r i h=>by cases h) (λs hs _=>bt s hs) bW k1 k2 (λr i h=>by cases h) k3
   ·exact h.elim
  ·
   rw[eZ]at h;dsimp only at h;cases hc:(A.ls.contains r0 || !decide (r0<N) || !(qt F.ps||A.ls.isEmpty))with
   | true=>rw[hc]at h;exact h.elim
   | false =>
    rw[hc]at h;obtain⟨aD,rfl,h⟩:=h;obtain⟨r,fa,h⟩:=h;dsimp only at h;rw[Bool.or_eq_false_iff,Bool.or_eq_false_iff,Bool.not_eq_false',Bool.not_eq_false',decide_eq_true_eq]at hc;obtain⟨⟨eo,dw⟩,ja⟩:=hc;have jd:r0∉A.ls:=λhm=>by rw[List.contains_iff_mem.2 hm]at eo;cases eo
    split at h
    ·rename_i v u' hv gY;obtain⟨Ts,l3,l4,rfl,dP,iZ,nA⟩:=M.aq h;obtain⟨rfl,_⟩:=nA;have bL:Ts=T:=by rw[ly dP (by rw[Nat.zero_add,hI.len])];rfl
     subst bL;obtain⟨_,t,n,y,h2,h3,h4,h5,h6⟩:=gd r0 i (by rw[eZ];simp);simp only[Nat.sub_zero]at h2 h6;have sK:i<F.ps.length:=(List.getElem?_eq_some_iff.1 h2).1;have wH:r0≠d:=dm hid (by rw[h5];simp only[V.aO,Bool.and_eq_true,bne_iff_ne];omega);have jc:∀(j:Nat) (t:Ty) (n:Nat),F.ps[j]?=some (t,Mode.mut n)->j=i:=by
      intro j t n hj;obtain⟨r',aZ⟩:=pX j t n hj;rw[eZ]at aZ;simp only[List.mem_singleton,Prod.mk.injEq]at aZ;omega
     refine fin (some (r0,i)) (by simpa using eZ) (λr' i' h=>by injection h with h;injection h with h _;subst h;exact jd) r fa (λw' cs L' bd cc jR=>?_);have iU:ai Ts (((r0,u')::dU r0 (Ts.getD r0 .dead) (some r0) 0 Ts)++[(d,v)])=(ai Ts ((r0,u')::dU r0 (Ts.getD r0 .dead) (some r0) 0 Ts)).set d v:=by
      rw[lg];rfl
     have nj:(ai Ts ((r0,u')::dU r0 (Ts.getD r0 .dead) (some r0) 0 Ts)).length=N:=by rw[cC,hI.len]
     have bW:(ai Ts (((r0,u')::dU r0 (Ts.getD r0 .dead) (some r0) 0 Ts)++[(d,v)])).getD d .dead=v:=by
      rw[iU,aJ,if_pos ⟨rfl,by rw[nj];exact hd⟩]
     have bt:∀s,s≠d->(ai Ts (((r0,u')::dU r0 (Ts.getD r0 .dead) (some r0) 0 Ts)++[(d,v)])).getD s .dead=(ai Ts ((r0,u')::dU r0 (Ts.getD r0 .dead) (some r0) 0 Ts)).getD s .dead:=by
      intro s hs;rw[iU,aJ,if_neg (λe=>hs e.1)]
     have eB:∀s v,(s,v)∈((r0,u')::dU r0 (Ts.getD r0 .dead) (some r0) 0 Ts)->(s=r0/\v=u')\/(v = .dead/\s≠r0/\((Ts.getD s .dead).on r0&&s != r0&&some r0 != some s && !b9 (Ts.getD r0 .dead) (some r0) (Ts.getD s .dead))=true):=by
      intro s v hm;rcases List.mem_cons.1 hm with hm|hm
      ·injection hm with h1 h2;exact .inl ⟨h1,h2⟩
      ·obtain⟨h1,_,_,h2⟩:=(vw s v).1 hm;simp only[Nat.sub_zero]at h2;refine .inr ⟨h1,?_,h2⟩
       rintro rfl
       simp at h2
     have bG:(ai Ts ((r0,u')::dU r0 (Ts.getD r0 .dead) (some r0) 0 Ts)).getD r0 .dead=u':=by
      refine ij (by rw[hI.len];exact dw) (by simp) (λv hm=>?_);rcases eB r0 v hm with⟨_,h⟩|⟨_,h,_⟩
      ·exact h
      ·exact absurd rfl h
     have oy:∀s,s≠r0->(Ts.getD s .dead).on r0=true->((ai Ts ((r0,u')::dU r0 (Ts.getD r0 .dead) (some r0) 0 Ts)).getD s .dead = .dead/\(Ts.getD s .dead).aO=false) \/
       ((ai Ts ((r0,u')::dU r0 (Ts.getD r0 .dead) (some r0) 0 Ts)).getD s .dead=Ts.getD s .dead/\∃t,Ts.getD s .dead = .view r0 [] t):=by
      intro s hs ag;have gX:s<N:=by
       rcases Nat.lt_or_ge s N with h|h
       ·exact h
       ·rw[ez (by rw[hI.len];exact h)]at ag;simp[V.on,V.root]at ag
      cases hk:b9 (Ts.getD r0 .dead) (some r0) (Ts.getD s .dead)with
      | true =>
       refine .inr ⟨eX _ _ _ (λhm=>?_),?_⟩
       ·obtain⟨u,hu,he⟩:=List.mem_map.1 hm;rcases eB s u.2 (by rw[<-he];exact hu)with⟨h,_⟩|⟨_,_,h⟩
        ·exact hs h
        ·rw[hk]at h;simp at h
       ·generalize DY:Ts.getD s .dead=vv at hk ag;cases vv with
        | view r2 p2 t2 =>
         have:r2=r0:=by simpa[V.on,V.root]using ag
         subst this;cases p2 with
         | nil=>exact⟨t2,rfl⟩
         | cons _ _=>simp[b9]at hk
        | ptr _ _ _ =>
         rw[h5]at hk;simp[b9,V.dE]at hk
        | dead=>simp[b9]at hk
        | bH _=>simp[b9]at hk
        | d _ _ _ _=>simp[b9]at hk
        | box _ _ _ _=>simp[b9]at hk
        | rp _ _ _=>simp[b9]at hk
        | hole _ _=>simp[b9]at hk
        | part _ _ _ _ _=>simp[b9]at hk
        | bQ _ _ _ _=>simp[b9]at hk
        | same _ _=>simp[b9]at hk
      | false =>
       have hc:((Ts.getD s .dead).on r0&&s != r0&&some r0 != some s && !b9 (Ts.getD r0 .dead) (some r0) (Ts.getD s .dead))=true:=by
        rw[ag,hk];simp only[Bool.and_eq_true,bne_iff_ne,Bool.not_false,and_true,true_and];exact⟨hs,λe=>hs (Option.some.inj e).symm⟩
       refine .inl ⟨ij (by rw[hI.len];exact gX) ?_ (λv hm=>?_),?_⟩
       ·rw[List.mem_map];exact⟨(s,.dead),List.mem_cons_of_mem _ ((vw s .dead).2 ⟨rfl,Nat.zero_le _,by rw[Nat.zero_add,hI.len];exact gX,by simpa using hc⟩),rfl⟩
       ·rcases eB s v hm with⟨h,_⟩|⟨h,_⟩
        ·exact absurd h hs
        ·exact h
       ·exact J6 iZ s (by rw[hI.len];exact gX) (by simpa using hc)
     have ox:∀s,s≠r0->(Ts.getD s .dead).on r0=false->(ai Ts ((r0,u')::dU r0 (Ts.getD r0 .dead) (some r0) 0 Ts)).getD s .dead=Ts.getD s .dead:=by
      intro s hs ag;refine eX _ _ _ (λhm=>?_);obtain⟨u,hu,he⟩:=List.mem_map.1 hm;rcases eB s u.2 (by rw[<-he];exact hu)with⟨h,_⟩|⟨_,_,h⟩
      ·exact hs h
      ·rw[ag]at h;simp at h
     have wq:∀r∈A.ls,((ai Ts (((r0,u')::dU r0 (Ts.getD r0 .dead) (some r0) 0 Ts)++[(d,v)])).getD r .dead).deep=true:=by
      intro r hr;have gi:r≠r0:=λe=>jd (e▸hr);have ho:=V.fg (er r hr);rw[bt r (lL r hr)];cases ag:(Ts.getD r .dead).on r0 with
      | false=>rw[ox r gi ag];exact er r hr
      | true =>
       rcases oy r gi ag with⟨_,h⟩|⟨h,_⟩
       ·rw[h]at ho;cases ho
       ·rw[h];exact er r hr
     obtain⟨j,t',n',y',c',cells,m1,m2,m3,m4,m5⟩:=Me jR gY;have cR:=jc j t' n' m1;subst cR;rw[h2]at m1;injection m1 with m1;injection m1 with m1 kS;injection kS with kS;subst m1 kS;rw[h6]at m3;injection m3 with m3;subst m3;rw[Nat.zero_add]at m5;obtain⟨k1,k2,k3⟩:=xy (T':=ai Ts (((r0,u')::dU r0 (Ts.getD r0 .dead) (some r0) 0 Ts)++[(d,v)])) (d:=d) hI bd rfl wq cc hv;refine Inv.called hI hd hid rfl (λr i h=>by injection h with h;injection h with _ h;subst h;exact sK) bd (by rw[cC,hI.len]) (λj' t n hj hm=>by obtain⟨n,rfl⟩:=Ws h1 hj hm;rw[jc j' t n hj];rfl) ?_ ?_ ?_ bW k1 k2 (λr i h=>by injection h with h;injection h with h _;subst h;exact jd) k3
     ·intro r i h;injection h with h;injection h with h h';subst h h';exact⟨t,n,y,y',cells,h5,⟨h3,(Bool.or_eq_true_iff.1 ja).imp (λh=>xh h _ h2) List.isEmpty_iff.1⟩,h4,by rw[bt r0 wH,bG,m2],m4,m5⟩
     ·intro s r i h bO bu ag;injection h with h;injection h with h h';subst h h';rw[bt s bO];exact oy s bu ag
     ·intro s bO hs;obtain⟨e1,e2⟩:=hs r0 j rfl;rw[bt s bO];exact ox s e1 e2
    ·exact h.elim
  ·rw[eZ]at h;exact h.elim
end
structure Ny (t:Ty) where
 xs:List t.den
 n:Nat
 s:Option Nat
def JJ(vs:List Nat)(e:TypeId)(t:Ty)(x:Operand):M (Ny t):=
 match x with
 | .tmp s=>.get s λv=>match v with
  | .d none (n+1) t' y=>if h:t' = .slice e t then (if vs.contains s=true then .fail else .ret ⟨(h▸y:(Ty.slice e t).den),n,some s⟩)else .fail
  | _=>.fail
 | .const (.slice none 0 0)=>.ret ⟨[],t.depth,none⟩
 | _=>.fail
structure VR (t:Ty) where
 ys:List t.den
 n:Option Nat
 s:Option Nat
def MY(vs:List Nat)(e:TypeId)(t:Ty)(x:Operand):M (VR t):=
 match x with
 | .tmp s=>.get s λv =>
   if t.depth=0 then (mf s v).bind λz=>if h:z.2.1 = .slice e t then .ret ⟨(h▸z.2.2:(Ty.slice e t).den),none,none⟩else .fail
   else match v with
   | .d none 0 t' y=>if h:t' = .slice e t then .ret ⟨(h▸y:(Ty.slice e t).den),some 0,none⟩else .fail
   | .d none (n+1) t' y=>if h:t' = .slice e t then (if vs.contains s=true then .fail else .ret ⟨(h▸y:(Ty.slice e t).den),some n,some s⟩)else .fail
   | _=>.fail
 | .const (.slice none 0 0)=>.ret ⟨[],none,none⟩
 | _=>.fail
def jG(b:Nat):Option Nat->Nat
 | none=>b
 | some k=>min b k
def Jx(C:Ctx)(vs:List Nat)(d:Nat)(X X2:TypeId)(s x:Operand):M (List (Nat×V)):=
 match C.ty X with
 | some (.slice e t)=>match C.ty X2 with
  | some (.slice _ _)=>(JJ vs e t s).bind λb=>(MY vs e t x).bind λc =>
    if t.sz≠0/\C.bytes e≠0/\(c.s.isNone||c.s != b.s)=true then
     .bn (decide ((b.xs.length+c.ys.length)*C.bytes e<=140737488355328))
      (.ret ((b.s.toList++c.s.toList).map (λs=>(s,V.dead))++[(d,.d none (jG b.n c.n+1) (.slice e t) (b.xs++c.ys))]))
    else .fail
  | _=>.fail
 | _=>.fail
def gw(d so:Nat)(sx:Option Nat)(kept:Bool)(b1 b2 m:Nat):Nat->List Nat->ak:=λs z =>
 if s=so then match z with
  | [y]=>if y=0/\kept=true then .own d [0]else .other
  | z0::y::rest=>if z0=0/\y<b1 then (if rest.length<m then .own d (0::y::rest)else .au)else .other
  | []=>.other
 else if sx=some s then match z with
  | z0::y::rest=>if z0=0/\y<b2 then (if rest.length<m then .own d (0::(b1+y)::rest)else .au)else .other
  | _=>.other
 else if s=d then .other else .own s z
theorem oc{so:Nat}{sx:Option Nat}{kept:Bool}{b1 b2 s:Nat}{z:List Nat}{s':Nat}{z':List Nat}(h:gw d so sx kept b1 b2 m s z = .own s' z'):
  (s=so/\z=[0]/\kept=true/\s'=d/\z'=[0])\/(s=so/\∃y rest,z=0::y::rest/\y<b1/\s'=d/\z'=0::y::rest) \/
  (s≠so/\sx=some s/\∃y rest,z=0::y::rest/\y<b2/\s'=d/\z'=0::(b1+y)::rest)\/(s≠so/\sx≠some s/\s≠d/\s'=s/\z'=z):=by
 unfold gw at h;split at h
 ·rename_i hs;split at h
  ·split at h
   ·rename_i hc;obtain⟨rfl,hk⟩:=hc;injection h with h1 h2;exact .inl ⟨hs,rfl,hk,h1.symm,h2.symm⟩
   ·cases h
  ·split at h
   ·rename_i hc;obtain⟨rfl,hy⟩:=hc;split at h
    ·injection h with h1 h2;exact .inr (.inl ⟨hs,_,_,rfl,hy,h1.symm,h2.symm⟩)
    ·cases h
   ·cases h
  ·cases h
 ·rename_i hs;split at h
  ·rename_i hx;split at h
   ·split at h
    ·rename_i hc;obtain⟨rfl,hy⟩:=hc;split at h
     ·injection h with h1 h2;exact .inr (.inr (.inl ⟨hs,hx,_,_,rfl,hy,h1.symm,h2.symm⟩))
     ·cases h
    ·cases h
   ·cases h
  ·rename_i hx;split at h
   ·cases h
   ·rename_i hd;injection h with h1 h2;exact .inr (.inr (.inr ⟨hs,hx,hd,h1.symm,h2.symm⟩))
theorem ak3[ae]{so:Nat}{sx:Option Nat}{kept:Bool}{b1 b2:Nat}:fD (gw d so sx kept b1 b2 m) (λs=>s=d\/s=so\/sx=some s):=by
 refine⟨λs z hX=>?_,λs z s' z' hX h=>?_,λs z s2 z2 s' z' h1 h2=>?_,λs z=>?_⟩
 ·have h1:=not_or.1 hX;have h2:=not_or.1 h1.2;simp[gw,h1.1,h2.1,h2.2]
 ·rcases oc h with⟨_,_,_,rfl,_⟩|⟨_,_,_,_,_,rfl,_⟩|⟨_,_,_,_,_,_,rfl,_⟩|⟨h1,h2,h3,rfl,_⟩
  ·exact .inl rfl
  ·exact .inl rfl
  ·exact .inl rfl
  ·exact hX
 ·rcases oc h1 with⟨rfl,rfl,_,rfl,rfl⟩|⟨rfl,y,rest,rfl,hy,rfl,rfl⟩|⟨hs,hx,y,rest,rfl,hy,rfl,rfl⟩|⟨hs,hx,hd,rfl,rfl⟩
  ·rcases oc h2 with⟨rfl,rfl,_,_,_⟩|⟨_,_,_,_,_,_,h⟩|⟨_,_,_,_,_,_,_,h⟩|⟨_,_,hd,h,_⟩
   ·exact⟨rfl,rfl⟩
   ·simp at h
   ·simp at h
   ·exact absurd h.symm hd
  ·rcases oc h2 with⟨_,_,_,_,h⟩|⟨rfl,y',fA,rfl,_,_,h⟩|⟨_,_,_,_,_,_,_,h⟩|⟨_,_,hd,h,_⟩
   ·simp at h
   ·simp only[List.cons.injEq,true_and]at h;obtain⟨rfl,rfl⟩:=h;exact⟨rfl,rfl⟩
   ·simp only[List.cons.injEq,true_and]at h;omega
   ·exact absurd h.symm hd
  ·rcases oc h2 with⟨_,_,_,_,h⟩|⟨_,_,_,_,_,_,h⟩|⟨_,kR,y',fA,rfl,_,_,h⟩|⟨_,_,hd,h,_⟩
   ·simp at h
   ·simp only[List.cons.injEq,true_and]at h;omega
   ·simp only[List.cons.injEq,true_and]at h;obtain⟨h,rfl⟩:=h;rw[hx]at kR;cases kR;exact⟨rfl,by rw[show y=y' by omega]⟩
   ·exact absurd h.symm hd
  ·rcases oc h2 with⟨_,_,_,h,_⟩|⟨_,_,_,_,_,h,_⟩|⟨_,_,_,_,_,_,h,_⟩|⟨_,_,_,h3,h4⟩
   ·exact absurd h hd
   ·exact absurd h hd
   ·exact absurd h hd
   ·exact⟨h3,h4⟩
 ·unfold gw
  repeat' split
  all_goals simp
structure fO (P:Program) (sz:Nat) (X:TypeId) (v:Value) (n:Nat) (news:List Value) (w:World):Prop where
 b7:(∃e,P.underlying X=some (.slice e))\/P.underlying X=some .string
 count:∀w1:World,(Builtin.lenOf v).run P w1 = .ok n w1
 now:(Builtin.firstCells sz n v).run P w = .ok news.toArray w
 next:(Builtin.firstCells sz n v).run P w.drew = .ok news.toArray w.drew
 total:news.length=n*sz
 single:∀u∈news,u.oneCell'=true
section
variable{P:Program}
theorem fO.row{w:World}(hX:P.underlying X=some (.slice e))(A:Addr)(n c:Nat)(h1:news.length=n*sz)(h2:∀i u,news[i]?=some u->w.cell? (A.add i)=some u)(h3:∀u∈news,u.oneCell'=true):
  fO P sz X (.slice (some A) n c) n news w where
 b7:=.inl ⟨e,hX⟩
 count:=λ_=>rfl
 now:=run_firstCells_some w sz n A n c news h1 h2
 next:=run_firstCells_some w.drew sz n A n c news h1 (by simpa using h2)
 total:=h1
 single:=h3
theorem fO.none{w:World}{X:TypeId}(hX:P.underlying X=some (.slice e))(c:Nat):fO P sz X (.slice none 0 c) 0 [] w where
 b7:=.inl ⟨e,hX⟩
 count:=λ_=>rfl
 now:=run_firstCells_none w sz 0 0 c
 next:=run_firstCells_none w.drew sz 0 0 c
 total:=by simp
 single:=by simp
theorem ak7{w:World}{X2 ty:TypeId}{i:TypeInfo}(hX:P.underlying X=some (.slice e))(hi:P.info? e=some i){g len cap:Nat}{v:Value}(h:fO P i.size X2 v n news w)(hr:len+n<=cap)
  (h1:∀k,k<news.length->(w.cell? ⟨g,len*i.size+k,none⟩).isSome=true) (h2:∀k,k<news.length->w.frozen? ⟨g,len*i.size+k,none⟩=false) :
  (Builtin.append_ #[X,X2] ty #[.slice (some ⟨g,0,none⟩) len cap,v]).run P w = .ok (.slice (some ⟨g,0,none⟩) (len+n) cap) (w.setCells g (len*i.size) news):=by
 have ba:=run_storeCells_cells (P:=P) g (len*i.size) news 0 w (by simpa using h1) (by simpa using h2) h.single;rw[Nat.add_zero]at ba;rcases h.b7 with⟨e',hk⟩|hk<;>simp[Builtin.append_,run_underlying hX,run_underlying hk,sizeOf,typeInfo,hi,h.count,hr,h.now,Addr.add_lit,ba]
theorem ak6{w:World}{ty:TypeId}{i:TypeInfo}(hX:P.underlying X=some (.slice e))(hi:P.info? e=some i){v:Value}(h:fO P i.size X2 v 0 [] w):
  (Builtin.append_ #[X,X2] ty #[.slice none 0 0,v]).run P w = .ok (.slice none 0 0) w:=by
 rcases h.b7 with⟨e',hk⟩|hk<;>simp[Builtin.append_,run_underlying hX,run_underlying hk,sizeOf,typeInfo,hi,h.count,h.now,storeCells]
theorem ak5{w:World}{X2 ty:TypeId}{i:TypeInfo}{z:Value}(hX:P.underlying X=some (.slice e))(hi:P.info? e=some i)(hz:i.zero=some z){A:Option Addr}{len cap:Nat}{iI:List Value}{v:Value}
  (h0:(Builtin.firstCells i.size len (.slice A len cap)).run P w.drew = .ok iI.toArray w.drew) (h:fO P i.size X2 v n news w) (hg:cap<len+n) (hm:len+n<=maxLen) (hb:(len+n)*i.bytes<=140737488355328) :
  (Builtin.append_ #[X,X2] ty #[.slice A len cap,v]).run P w = .ok (.slice (some ⟨w.heap.size,0,none⟩) (len+n) (grownCap w (len+n) cap e))
   (w.drew.alloc (.cells ((iI++news).toArray++Builtin.zeroCells z.cells (grownCap w (len+n) cap e - (len+n))) e)):=by
 have hf:=growslice_fits hg hb;have e1:¬(len+n<=cap):=by omega
 have e2:¬(9223372036854775807<((len:Int)+(n:Int))):=by simp only[maxLen]at hm;omega
 have e3:¬(281474976710656<Builtin.nextslicecap (len+n) cap*i.bytes):=by omega
 rcases h.b7 with⟨e',hk⟩|hk<;>
  (simp[Builtin.append_,run_underlying hX,run_underlying hk,sizeOf,typeInfo,zeroValue,hi,hz,h.count,e1,e2,e3,Question.forced,h.next,h0,newRow,grownCap]
   congr 2;apply Array.ext';simp[List.append_assoc])
end
section
variable{P:Program}{C:Ctx}{w w' w0:World}{S S':Nat->Prop}{L L' L0:Nat->ak}{s N:Nat}{vs:List Nat}{T T':List V}{tm tm':Array Value}{a:Act}
theorem qT{l l':List Value}{j:Nat}(h:∀k,k<sz->l[i+k]?=l'[j+k]?):(l.drop i).take sz=(l'.drop j).take sz:=by
 apply List.ext_getElem?;intro k;rw[List.getElem?_take,List.getElem?_take];split
 ·rw[List.getElem?_drop,List.getElem?_drop];exact h k (by assumption)
 ·rfl
theorem Ni{l:List Value}(h:k<sz):((l.drop i).take sz)[k]?=l[i+k]?:=by
 rw[List.getElem?_take,if_pos h,List.getElem?_drop]
theorem XE[ae](sz:Nat):(n:Nat)->(f:∀j,j<n->List Value)->(∀j h,(f j h).length=sz)->∃news:List Value,news.length=n*sz/\∀j h,(news.drop (j*sz)).take sz=f j h
 | 0,_,_=>⟨[],by simp,λj h=>absurd h (by omega)⟩
 | n+1,f,hl=>by
  obtain⟨news,h1,h2⟩:=XE sz n (λj h=>f j (by omega)) (λj h=>hl j _);refine⟨news++f n (by omega),by rw[List.length_append,h1,hl,Nat.add_mul,Nat.one_mul],λj h=>?_⟩;by_cases hj:j<n
  ·rw[<-h2 j hj];refine qT λk hk=>?_;have:(j+1)*sz<=n*sz:=Nat.mul_le_mul_right _ (by omega);rw[Nat.add_mul,Nat.one_mul]at this;rw[List.getElem?_append_left (by omega)]
  ·obtain rfl:j=n:=by omega
   rw[<-h1,List.drop_left,List.take_of_length_le (by rw[hl];exact Nat.le_refl _)]
theorem JY[ae]{p:Nat->Value->Prop}(hl:news.length=n*sz)(h:∀j,j<n->∀k u,((news.drop (j*sz)).take sz)[k]?=some u->p (j*sz+k) u):∀i u,news[i]?=some u->p i u:=by
 intro i u hu;have hi:i<n*sz:=by
  rw[<-hl];exact (List.getElem?_eq_some_iff.1 hu).1
 have bq:0<sz:=by
  rcases Nat.eq_zero_or_pos sz with h0|h0
  ·subst h0;simp at hi
  ·exact h0
 have h1:i / sz<n:=(Nat.div_lt_iff_lt_mul bq).2 hi;have h2:i / sz*sz+i % sz=i:=by rw[Nat.mul_comm];exact Nat.div_add_mod i sz
 have:=h (i / sz) h1 (i % sz) u (by rw[Ni (Nat.mod_lt _ bq),h2];exact hu)
 rwa [h2]at this
theorem ace:(vs:List Value)->(o:Nat)->(w:World)->(w.setCells g o vs).drawn=w.drawn
 | [],_,_=>rfl
 | v::vs,o,w=>by rw[World.setCells,ace vs];rfl
theorem acf:(vs:List Value)->(o:Nat)->(w:World)->(cur:Array Value)->(e:TypeId)->w.heap[g]?=some (.cells cur e (0,0))->o+vs.length<=cur.size ->
  (w.setCells g o vs).os=w.os/\(w.setCells g o vs).tape=w.tape/\(w.setCells g o vs).output=w.output/\(w.setCells g o vs).heap.size=w.heap.size/\(∀k,k≠g->(w.setCells g o vs).heap[k]?=w.heap[k]?) /\
  ∃cur':Array Value,(w.setCells g o vs).heap[g]?=some (.cells cur' e (0,0))/\cur'.size=cur.size/\∀i,cur'[i]?=if o<=i/\i<o+vs.length then vs[i - o]? else cur[i]?
 | [],o,w,cur,e,h,_=>⟨rfl,rfl,rfl,rfl,λ_ _=>rfl,cur,h,rfl,λi=>by rw[if_neg (by simp)]⟩
 | v::vs,o,w,cur,e,h,hb=>by
  simp only[List.length_cons]at hb;have hg:(w.setCell ⟨g,o,none⟩ v).heap[g]?=some (.cells (cur.setIfInBounds o v) e (0,0)):=by
   simp[World.setCell,Array.getElem?_modify,h]
  obtain⟨h1,h2,h3,h4,h5,cur',h6,h7,h8⟩:=acf vs (o+1) (w.setCell ⟨g,o,none⟩ v) (cur.setIfInBounds o v) e hg (by simp;omega);rw[World.setCells];refine⟨h1,h2,h3,by rw[h4];simp[World.setCell],λk hk=>?_,cur',h6,by rw[h7];simp,λi=>?_⟩
  ·rw[h5 k hk];simp only[World.setCell,Array.getElem?_modify];rw[if_neg (Ne.symm hk)]
  ·rw[h8,Array.getElem?_setIfInBounds];simp only[List.length_cons];by_cases hi:i=o
   ·subst hi;rw[if_neg (by omega),if_pos rfl,if_pos (by omega),if_pos (by omega)];simp
   ·by_cases ep:o+1<=i/\i<o+1+vs.length
    ·rw[if_pos ep,if_pos (by omega),show i - o=(i - (o+1))+1 by omega,List.getElem?_cons_succ]
    ·rw[if_neg ep,if_neg (by omega),if_neg (by omega)]
end
section
variable{P:Program}{C:Ctx}{w w' w0:World}{S S':Nat->Prop}{L L' L0:Nat->ak}{s N:Nat}{vs:List Nat}{T T':List V}{tm tm':Array Value}{a:Act}
theorem alg[ae](hI:Inv w0 L0 N vs T a w L){x:Operand}{b:Ny t}(h:(JJ vs e t x).aj T b log)(d:Nat):
  ∃so,((b.s=some so/\so∉vs/\(T.getD so .dead).aO=true/\(T.getD so .dead).root=none)\/(b.s=none/\so=d))/\Own w L (SL L none) so (b.n+1) (.slice e t) b.xs [] 0 [a.eval x]:=by
 cases x with
 | tmp s =>
  obtain⟨aD,rfl,h⟩:=h;have hs:=hI.aX s;dsimp only at h;generalize hv:T.getD s .dead=v at h hs;split at h
  ·rename_i n t' y;split at h
   ·rename_i ht;subst ht;split at h
    ·exact h.elim
    ·rename_i hc;obtain⟨rfl,_⟩:=h;obtain⟨_,cs,hf,ho⟩:=hs;refine⟨s,.inl ⟨rfl,by simpa using hc,by rw[hv];simp[V.aO,Ty.depth],by rw[hv];rfl⟩,?_⟩;have hf:cs=[a.tmps.getD s undef]:=hf;rw[hf]at ho;exact ho
   ·exact h.elim
  ·exact h.elim
 | const c =>
  dsimp only[JJ]at h;split at h
  ·cases ‹Operand.const _=_›
  ·rename_i hc;cases hc;obtain⟨rfl,_⟩:=h;exact⟨d,.inr ⟨rfl,rfl⟩,by simp only[Own];exact .inl ⟨rfl,trivial⟩⟩
  ·exact h.elim
 | func f=>exact h.elim
 | global g=>exact h.elim
theorem aro[ae](hI:Inv w0 L0 N vs T a w L){e':TypeId}{x:Operand}{c:VR t}(h:(MY vs e t x).aj T c log)(iq:P.underlying X2=some (.slice e')):
  ∃news,fO P t.sz X2 (a.eval x) c.ys.length news w/\(∀s,c.s=some s->s∉vs/\(T.getD s .dead).aO=true/\(T.getD s .dead).root=none) /\
   ∀(L':Nat->ak) (w':World) (d o0 m:Nat),(∀k,c.n=some k->m<=k)->(∀k,L k = .au->L' k = .au/\w'.heap[k]?=w.heap[k]?) ->
    (∀s k y rest,c.s=some s->y<c.ys.length*t.sz->L k = .own s (0::y::rest)->w'.heap[k]?=w.heap[k]?/\(rest.length<m->L' k = .own d (0::(o0+y)::rest))/\(m<=rest.length->L' k = .au)) ->
    ∀j (h:j<c.ys.length),Own w' L' (SL L' none) d m t (c.ys[j]) [0] (o0+j*t.sz) ((news.drop (j*t.sz)).take t.sz):=by
 have bD:∀{S:Nat->Prop} {ys:List t.den} {v:Value},Rd w S (.slice e t) ys [v] ->
   ∃news,fO P t.sz X2 v ys.length news w/\∀j (h:j<ys.length),Rd w S t (ys[j]) ((news.drop (j*t.sz)).take t.sz):=by
  intro S ys v hr;simp only[Rd]at hr;obtain⟨A,cp,hv,h1,h2,h3⟩:=hr;have hv:v=_:=(List.cons.inj hv).1;subst hv;by_cases hy:ys=[]
  ·subst hy;refine⟨[],?_,λj h=>absurd h (by simp)⟩;cases A with
   | none=>exact fO.none iq cp
   | some A=>exact fO.row iq A 0 cp (by simp) (λj u h=>by simp at h) (by simp)
  ·obtain⟨g,o,rfl,hS,h4⟩:=h3 hy;obtain⟨news,n1,n2⟩:=XE t.sz ys.length (λj h=>(h4 j h).choose) (λj h=>Rd.len (h4 j h).choose_spec.1);refine⟨news,fO.row iq ⟨g,o,none⟩ ys.length cp n1 (λj u hu=>?_) (λu hu=>?_),λj h=>by rw[n2 j h];exact (h4 j h).choose_spec.1⟩
   ·rw[Addr.add_lit];exact JY (p:=λi u=>w.cell? ⟨g,o+i,none⟩=some u) n1 (λj hj k u hk=>by rw[n2 j hj]at hk;exact (h4 j hj).choose_spec.2 k u hk) j u hu
   ·obtain⟨i,hi⟩:=List.mem_iff_getElem?.1 hu;refine JY (p:=λi u=>u.oneCell'=true) n1 (λj hj k u hk=>?_) i u hi;rw[n2 j hj]at hk;exact Rd.one (h4 j hj).choose_spec.1 u (List.mem_of_getElem? hk)
 cases x with
 | tmp s =>
  obtain⟨aD,rfl,h⟩:=h;have hs:=hI.aX s;dsimp only at h;split at h
  ·rename_i hd;obtain⟨⟨l,t',y⟩,l1,l2,rfl,h1,h2⟩:=M.aq h;dsimp only at h2;split at h2
   ·rename_i ht;subst ht;obtain⟨rfl,_⟩:=h2;obtain⟨cells,hf,hr,cB⟩:=qB hI h1 hs (λ_=>rfl);have hf:cells=[a.tmps.getD s undef]:=hf;subst hf;obtain⟨news,k1,k2⟩:=bD hr;refine⟨news,k1,by simp,λL' w' d o0 m _ _ _ j hj=>?_⟩;have:=k2 j hj;have h0:=Own.dM (L:=L) (s:=0) (q:=[]) (o:=0) this;exact alF hd h0
   ·exact h2.elim
  ·generalize hv:T.getD s .dead=v at h hs;split at h
   ·rename_i t' y;split at h
    ·rename_i ht;subst ht;obtain⟨rfl,_⟩:=h;obtain⟨_,cs,hf,ho⟩:=hs;have hf:cs=[a.tmps.getD s undef]:=hf;subst hf;obtain⟨news,k1,k2⟩:=bD (Own.eH ho);refine⟨news,k1,by simp,λL' w' d o0 m hm ba _ j hj=>?_⟩;obtain rfl:m=0:=by have:=hm 0 rfl;omega
     refine Own.dM (Rd.move (λk hk=>?_) (k2 j hj));rcases hk with hk|⟨_,_,hk,_⟩
     ·exact⟨.inl (ba k hk).1,(ba k hk).2⟩
     ·cases hk
    ·exact h.elim
   ·rename_i n t' y;split at h
    ·rename_i ht;subst ht;split at h
     ·exact h.elim
     ·rename_i hc;obtain⟨rfl,_⟩:=h;obtain⟨_,cs,hf,ho⟩:=hs;have hf:cs=[a.tmps.getD s undef]:=hf;subst hf;have YU:s∉vs/\(T.getD s .dead).aO=true/\(T.getD s .dead).root=none:=⟨by simpa using hc,by rw[hv];simp[V.aO,Ty.depth],by rw[hv];rfl⟩;simp only[Own]at ho;rcases ho with⟨dX,rfl⟩|⟨g,cap,cur,dj,hL,hg,h5,h6,h7,h8⟩
      ·have dX:a.tmps.getD s undef=_:=(List.cons.inj dX).1;refine⟨[],?_,λs' bP=>by cases bP;exact YU,λL' w' d o0 m _ _ _ j hj=>absurd hj (by simp)⟩;show fO P t.sz X2 (a.tmps.getD s undef) 0 [] w;rw[dX];exact fO.none iq 0
      ·have dj:a.tmps.getD s undef=_:=(List.cons.inj dj).1;have hlen:(List.length y)*t.sz<=cur.size:=by rw[h7];exact Nat.mul_le_mul_right _ h5
       refine⟨cur.toList.take (y.length*t.sz),?_,λs' bP=>by cases bP;exact YU,λL' w' d o0 m hm ba gS j hj=>?_⟩
       ·show fO P t.sz X2 (a.tmps.getD s undef) y.length _ w;rw[dj];have hl:(cur.toList.take (y.length*t.sz)).length=y.length*t.sz:=by rw[List.length_take];simp;omega
        refine fO.row iq ⟨g,0,none⟩ _ cap hl (λj u hu=>?_) (λu hu=>?_)
        ·rw[List.getElem?_take]at hu;split at hu
         ·rw[show (⟨g,0,none⟩:Addr).add j=⟨g,j,none⟩by rw[Addr.add_lit,Nat.zero_add]];simp only[World.cell?,hg];simpa using hu
         ·cases hu
        ·obtain⟨i,hi⟩:=List.mem_iff_getElem?.1 hu;refine JY (p:=λi u=>u.oneCell'=true) hl (λj hj k u hk=>?_) i u hi;have hw:((cur.toList.take (y.length*t.sz)).drop (j*t.sz)).take t.sz=(cur.toList.drop (j*t.sz)).take t.sz:=qT λk hk=>by
          have:(j+1)*t.sz<=y.length*t.sz:=Nat.mul_le_mul_right _ (by omega);rw[Nat.add_mul,Nat.one_mul]at this;rw[List.getElem?_take,if_pos (by omega)]
         rw[hw]at hk;exact Own.one (h8 j hj) u (List.mem_of_getElem? hk)
       ·have hw:((cur.toList.take (y.length*t.sz)).drop (j*t.sz)).take t.sz=(cur.toList.drop (j*t.sz)).take t.sz:=qT λk hk=>by
         have:(j+1)*t.sz<=y.length*t.sz:=Nat.mul_le_mul_right _ (by have:j<List.length y:=hj;omega);rw[Nat.add_mul,Nat.one_mul]at this;rw[List.getElem?_take,if_pos (by omega)]
        rw[hw];refine Own.ff (hm n rfl) (λk hk=>?_) (λk i rest hi hk=>?_) (h8 j hj)
        ·rcases hk with hk|⟨_,_,hk,_⟩
         ·exact⟨.inl (ba k hk).1,(ba k hk).2⟩
         ·cases hk
        ·have aL:L k = .own s (0::(j*t.sz+i)::rest):=by simpa using hk
         have ax:j*t.sz+i<y.length*t.sz:=by
          have:(j+1)*t.sz<=y.length*t.sz:=Nat.mul_le_mul_right _ (by have:j<List.length y:=hj;omega);rw[Nat.add_mul,Nat.one_mul]at this;omega
         have:=gS s k (j*t.sz+i) rest rfl ax aL;refine⟨this.1,λh=>?_,λh=>.inl (this.2.2 h)⟩;rw[this.2.1 h];simp[Nat.add_assoc]
    ·exact h.elim
   ·exact h.elim
 | const cv =>
  dsimp only[MY]at h;split at h
  ·cases ‹Operand.const _=_›
  ·rename_i hc;cases hc;obtain⟨rfl,_⟩:=h;exact⟨[],fO.none iq 0,by simp,λL' w' d o0 m _ _ _ j hj=>absurd hj (by simp)⟩
  ·exact h.elim
 | func f=>exact h.elim
 | global g=>exact h.elim
 where
 alF:{w w':World}->{L L':Nat->ak}->{S S':Nat->Prop}->{s s' n n':Nat}->{t:Ty}->{x:t.den}->{q q':List Nat}->{o o':Nat}->{cs:List Value}->t.depth=0->Own w L S s n t x q o cs->Own w' L' S' s' n' t x q' o' cs:=λh1 h2=>Own.flat h1 h2
theorem Inv.app[ae](hI:Inv w0 L0 N vs T a w L){so:Nat}{sb sx:Option Nat}{kept:Bool}{b1 b2 m:Nat}{nl:Nat->ak}{v:V}{c:Value}(hd:d<N)(hid:(T.getD d .dead).idle=true)
  (nw:(sb=some so/\so∉vs/\(T.getD so .dead).aO=true)\/(sb=none/\so=d)) (oJ:∀s,sx=some s->s∉vs/\(T.getD s .dead).aO=true)
  (hw:Wd w w' L nl (λs=>s=d\/s=so\/sx=some s)) (gg:∀k s q,w.heap.size<=k->nl k = .own s q->s=d/\q=[0]/\k=w.heap.size/\kept=false)
  (hv:v.root=none) (Lk:v.aO=true)
  (hr:∀T' tm',aB (aW (gw d so sx kept b1 b2 m) w L nl) T' tm' d v w' c) :
  Inv w0 L0 N vs (ai T ((sb.toList++sx.toList).map (λs=>(s,V.dead))++[(d,v)])) (a.put (some d) c) w' (aW (gw d so sx kept b1 b2 m) w L nl):=by
 have cu:(T.getD d .dead).aO=false:=V.kd hid;have vS:d∉sb.toList++sx.toList:=λh=>by
  have:(T.getD d .dead).aO=true:=by
   rcases List.mem_append.1 h with h|h
   ·rcases nw with⟨rfl,_,ho⟩|⟨rfl,_⟩
    ·simp only[Option.toList_some,List.mem_singleton]at h;rw[h];exact ho
    ·simp at h
   ·cases sx with
    | none=>simp at h
    | some x =>
     simp only[Option.toList_some,List.mem_singleton]at h;rw[h];exact (oJ x rfl).2
  rw[cu]at this;cases this
 have hX:∀s,(s=d\/s=so\/sx=some s)↔(s=d\/s∈sb.toList++sx.toList):=by
  intro s;constructor
  ·rintro (h|h|h)
   ·exact .inl h
   ·rcases nw with⟨rfl,_⟩|⟨_,h2⟩
    ·exact .inr (by simp[h])
    ·exact .inl (h.trans h2)
   ·exact .inr (by simp[h])
  ·rintro (h|h)
   ·exact .inl h
   ·rcases List.mem_append.1 h with h|h
    ·rcases nw with⟨rfl,_⟩|⟨rfl,_⟩
     ·simp only[Option.toList_some,List.mem_singleton]at h;exact .inr (.inl h)
     ·simp at h
    ·cases sx with
     | none=>simp at h
     | some x =>
      simp only[Option.toList_some,List.mem_singleton]at h;exact .inr (.inr (by rw[h]))
 have hT:ai T ((sb.toList++sx.toList).map (λs=>(s,V.dead))++[(d,v)])=(ai T ((sb.toList++sx.toList).map λs=>(s,V.dead))).set d v:=by
  rw[lg];rfl
 have hlen:(ai T ((sb.toList++sx.toList).map λs=>(s,V.dead))).length=N:=by rw[cC,hI.len]
 have bW:(ai T ((sb.toList++sx.toList).map (λs=>(s,V.dead))++[(d,v)])).getD d .dead=v:=by
  rw[hT,aJ,if_pos ⟨rfl,by rw[hlen];exact hd⟩]
 have bL:∀s,s∈sb.toList++sx.toList->(ai T ((sb.toList++sx.toList).map (λs=>(s,V.dead))++[(d,v)])).getD s .dead = .dead:=by
  intro s hs;rw[hT,aJ,if_neg (λe=>vS (by rw[<-e.1];exact hs))];exact XJ _ _ _ hs
 refine Inv.gI (X:=λs=>s=d\/s=so\/sx=some s) hI ak3 hw ?_ (by simp[Act.put,hI.size]) (by rw[hT,List.length_set,hlen]) hI.dO ?_ ?_ ?_ ?_ ?_
 ·intro k k' s q hk h h';obtain⟨rfl,rfl,rfl,amQ⟩:=gg k s q hk h;unfold aW at h';split at h'
  ·exfalso;obtain⟨s0,q0,e0,f0⟩:=eS h';rcases oc f0 with⟨_,_,dp,_⟩|⟨_,_,_,_,_,_,h8⟩|⟨_,_,_,_,_,_,_,h8⟩|⟨_,_,iY,h8,_⟩
   ·rw[amQ]at dp;cases dp
   ·simp at h8
   ·simp at h8
   ·exact iY h8.symm
  ·exact (gg k' s _ (by omega) h').2.2.1.symm
 ·intro k s q hs h;by_cases bO:s=d
  ·subst bO;rw[bW];exact Lk
  ·exfalso;unfold aW at h;split at h
   ·obtain⟨s0,q0,e0,f0⟩:=eS h;rcases oc f0 with⟨_,_,_,h7,_⟩|⟨_,_,_,_,_,h7,_⟩|⟨_,_,_,_,_,_,h7,_⟩|⟨h5,h6,_,h7,_⟩
    ·exact bO h7
    ·exact bO h7
    ·exact bO h7
    ·subst h7;rcases hs with h|h|h
     ·exact bO h
     ·exact h5 h
     ·exact h6 h
   ·exact bO (gg k s q (by omega) h).1
 ·intro s r hs ag aZ;rcases aZ with rfl|rfl|hx
  ·exact cu
  ·rcases nw with⟨_,h,_⟩|⟨_,rfl⟩
   ·exact absurd (hI.roots s _ ag) h
   ·exact cu
  ·exact absurd (hI.roots s r ag) (oJ r hx).1
 ·intro s hs;have bP:=not_or.1 (λh=>hs ((hX s).2 h));rw[hT,aJ,if_neg (λe=>bP.1 e.1),eX _ _ _ (by simpa[List.map_map]using bP.2)];refine⟨rfl,?_⟩;show (a.tmps.setIfInBounds d c).getD s undef=_;rw[dW,if_neg (λe=>bP.1 e.1)]
 ·intro s r hs ag;rcases (hX s).1 hs with rfl|hs
  ·rw[bW]at ag;simp[V.on,hv]at ag
  ·rw[bL s hs]at ag;simp[V.on,V.root]at ag
 ·intro s hs;rcases (hX s).1 hs with rfl|hs
  ·rw[bW];show aB _ _ _ _ _ _ ((a.tmps.setIfInBounds s c).getD s undef);rw[dW,if_pos ⟨rfl,by rw[hI.size];exact hd⟩];exact hr _ _
  ·rw[bL s hs];trivial
theorem Wp{b:Nat}{n:Option Nat}:jG b n<=b/\∀k,n=some k->jG b n<=k:=by
 cases n with
 | none=>exact⟨Nat.le_refl _,by simp⟩
 | some k=>exact⟨Nat.min_le_left _ _,λk' h=>by cases h;exact Nat.min_le_right _ _⟩
end
end Go.Proofs.YthfgcmoipebheaaGreat.P.Am
