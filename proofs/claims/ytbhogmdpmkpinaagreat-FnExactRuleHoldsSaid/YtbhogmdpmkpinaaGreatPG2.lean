/- A part of the proof: Am8,Am9,Am10,Am11,Am12,Am13,Am14,Am15,Am16,Am17. No conditions. -/
import Derived.Test.YtbhogmdpmkpinaaGreatPG1
import Derived.IntWalk
import Derived.Laws.StructEq
import Derived.Laws.BytesString
set_option linter.unusedVariables false
set_option linter.unusedSimpArgs false
namespace Go.Proofs.YtbhogmdpmkpinaaGreat.P.Am
variable{d g i k m n off r:Nat}{log q:List Nat}{X:TypeId}{v:V}{o:Oper}{t:Ty}{x y:Operand}{p:List St}{c:Value}{l:Option Nat}{cs:List Value}{ms:List (Nat×Nat×Nat)}
def qw:List St->Nat->Nat->(t:Ty)->t.den->M (Option Nat×D)
 | .idx sz i::p,0,n,.pair (.int _) (.slice _ te),x=>if sz=te.sz then .bm (decide (x.1<=i)) (.cJ te (ae x.2 i) λy=>(aP p n te y).bind λr=>.ret (none,r))else .fail
 | .a6 i off::p,1,m,.agg t,x=>match comp i t x with
  | some (o,⟨t',x'⟩)=>if o=off then (aP p (cond (m.testBit i) t'.depth 0) t' x').bind λr=>.ret (none,r)else .fail
  | none=>.fail
 | _,_,_,_,_=>.fail
def dG(p:List St):V->M (Option Nat×D)
 | .box l n t x=>(aP p n t x).bind λr=>.ret (l,r)
 | .d l n t x=>match p with
  | .idx sz i::p'=>(aP (.idx sz i::p') n t x).bind λr=>.ret (l,r)
  | _=>.fail
 | .bO k n t x=>qw p k n t x
 | _=>.fail
def qO(p:List St):V->M (Option Nat×D)
 | .d l n t x=>match p with
  | []=>.ret (l,⟨n,t,x⟩)
  | .idx sz i::p'=>(aP (.idx sz i::p') n t x).bind λr=>.ret (l,r)
  | _=>.fail
 | u=>dG p u
def J0(C:Ctx)(X:TypeId)(r:Nat)(p:List St):M V :=
 .get r λu=>(dG p u).bind λz =>
  if C.ty X=some z.2.t then
   if z.2.t.depth=0 then .ret (.d none 0 z.2.t z.2.x)else if z.2.n=0 then .ret (.d z.1 0 z.2.t z.2.x)else .ret (.view r p z.2.t)
  else .fail
def J1(C:Ctx)(X:TypeId)(t:Nat):V->M V
 | .rp l t' x=>if C.ty X=some t' then .ret (.d l 0 t' x)else .fail
 | .ptr r p _=>J0 C X r p
 | .box _ _ _ _=>J0 C X t []
 | _=>.fail
def mF(t:Nat):V->M (Option Nat×(t:Ty)×t.den)
 | .d l n t' x=>if n=0\/t'.depth=0 then .ret (l,⟨t',x⟩)else match l with
  | none=>.ret (some t,⟨t',x⟩)
  | some _=>.fail
 | .view r p t'=>.get r λu=>(qO p u).bind λz=>match z.1 with
  | none=>if z.2.t=t' then .ret (some r,⟨z.2.t,z.2.x⟩)else .fail
  | some _=>.fail
 | _=>.fail
section
variable{P:Program}{C:Ctx}{w w' w0:World}{S S':Nat->Prop}{L L' L0:Nat->aj}{s N:Nat}{vs:List Nat}{T T':List V}{tm tm':Array Value}{a:Act}
theorem Km(q:List Nat)(o:Nat)(p p':List St):node q o (p++p')=node (node q o p).1 (node q o p).2 p':=by
 induction p generalizing q o with
 | nil=>rfl
 | cons st p ih=>cases st<;>simp only[List.cons_append,node]<;>exact ih _ _
theorem Own.elem{e:TypeId}{xs:List t.den}{q:List Nat}{o:Nat}(h:Own w L S s (n+1) (.slice e t) xs q o cs)(hi:i<xs.length):
  mM w L S s n t (xs[i]) (q++[o]) (i*t.sz):=by
 simp only[Own]at h;rcases h with⟨_,rfl⟩|⟨g2,cap,e9,de,hL,hg,h5,h6,h7,h8⟩
 ·exact absurd hi (by simp)
 ·refine⟨g2,e9,e,hL,hg,?_,h8 _ hi⟩;rw[h7]
  calc i*t.sz+t.sz=(i+1)*t.sz:=by rw[Nat.add_mul,Nat.one_mul]
   _<=cap*t.sz:=Nat.mul_le_mul_right _ (by omega)
theorem BV:{p:List St}->{n:Nat}->{t:Ty}->{x:t.den}->{n':Nat}->{t':Ty}->{x':t'.den}->{log:List Nat} ->
  (aP p n t x).ai T ⟨n',t',x'⟩ log->n'<=n/\t'.depth<=t.depth
 | [],n,t,x,n',t',x',log,hr=>by
  obtain⟨he,_⟩:=hr;cases he;exact⟨Nat.le_refl _,Nat.le_refl _⟩
 | .a6 i off::p,n,.agg t,x,n',t',x',log,hr=>by
  simp only[aP]at hr;split at hr
  ·rename_i o1 t1 x1 hc;split at hr
   ·have h1:=BV hr;have h2:=Um hc;simp only[Ty.depth];omega
   ·exact hr.elim
  ·exact hr.elim
 | .idx sz i::p,n+1,.slice e t,xs,n',t',x',log,hr=>by
  simp only[aP]at hr;split at hr
  ·obtain⟨y,hy,hr⟩:=hr;have h1:=BV hr;simp only[Ty.depth];omega
  ·exact hr.elim
 | .idx _ _::p,0,.slice _ _,_,_,_,_,_,hr=>by simp only[aP]at hr;exact hr.elim
 | .a6 _ _::p,_,.int _,_,_,_,_,_,hr=>by simp only[aP]at hr;exact hr.elim
 | .a6 _ _::p,_,.bool,_,_,_,_,_,hr=>by simp only[aP]at hr;exact hr.elim
 | .a6 _ _::p,_,.str,_,_,_,_,_,hr=>by simp only[aP]at hr;exact hr.elim
 | .a6 _ _::p,_,.raw _,_,_,_,_,_,hr=>by simp only[aP]at hr;exact hr.elim
 | .a6 _ _::p,_,.cap _ _,_,_,_,_,_,hr=>by simp only[aP]at hr;exact hr.elim
 | .a6 _ _::p,_,.unit,_,_,_,_,_,hr=>by simp only[aP]at hr;exact hr.elim
 | .a6 _ _::p,_,.pair _ _,_,_,_,_,_,hr=>by simp only[aP]at hr;exact hr.elim
 | .a6 _ _::p,_,.slice _ _,_,_,_,_,_,hr=>by simp only[aP]at hr;exact hr.elim
 | .idx _ _::p,_,.int _,_,_,_,_,_,hr=>by simp only[aP]at hr;exact hr.elim
 | .idx _ _::p,_,.bool,_,_,_,_,_,hr=>by simp only[aP]at hr;exact hr.elim
 | .idx _ _::p,_,.str,_,_,_,_,_,hr=>by simp only[aP]at hr;exact hr.elim
 | .idx _ _::p,_,.raw _,_,_,_,_,_,hr=>by simp only[aP]at hr;exact hr.elim
 | .idx _ _::p,_,.cap _ _,_,_,_,_,_,hr=>by simp only[aP]at hr;exact hr.elim
 | .idx _ _::p,_,.unit,_,_,_,_,_,hr=>by simp only[aP]at hr;exact hr.elim
 | .idx _ _::p,_,.pair _ _,_,_,_,_,_,hr=>by simp only[aP]at hr;exact hr.elim
 | .idx _ _::p,_,.agg _,_,_,_,_,_,hr=>by simp only[aP]at hr;exact hr.elim
 where
 Um:{i:Nat}->{t:Ty}->{x:t.den}->{o1:Nat}->{t1:Ty}->{x1:t1.den}->comp i t x=some (o1,⟨t1,x1⟩)->t1.depth<=t.depth
 | 0,.pair a b,x,o1,t1,x1,hc=>by
  simp only[comp,Option.some.injEq,Prod.mk.injEq]at hc;obtain⟨rfl,hc⟩:=hc;cases hc;simp only[Ty.depth];omega
 | i+1,.pair a b,x,o1,t1,x1,hc=>by
  simp only[comp,Option.map_eq_some_iff]at hc;obtain⟨⟨o2,t2,x2⟩,hc,he⟩:=hc;simp only[Prod.mk.injEq]at he;obtain⟨rfl,he⟩:=he;cases he;have:=Um hc;simp only[Ty.depth];omega
 | 0,.int _,_,_,_,_,hc=>by simp only[comp,Option.some.injEq,Prod.mk.injEq]at hc;obtain⟨rfl,hc⟩:=hc;cases hc;simp
 | 0,.bool,_,_,_,_,hc=>by simp only[comp,Option.some.injEq,Prod.mk.injEq]at hc;obtain⟨rfl,hc⟩:=hc;cases hc;simp
 | 0,.str,_,_,_,_,hc=>by simp only[comp,Option.some.injEq,Prod.mk.injEq]at hc;obtain⟨rfl,hc⟩:=hc;cases hc;simp
 | 0,.raw _,_,_,_,_,hc=>by simp only[comp,Option.some.injEq,Prod.mk.injEq]at hc;obtain⟨rfl,hc⟩:=hc;cases hc;simp
 | 0,.cap _ _,_,_,_,_,hc=>by simp only[comp,Option.some.injEq,Prod.mk.injEq]at hc;obtain⟨rfl,hc⟩:=hc;cases hc;simp
 | 0,.unit,_,_,_,_,hc=>by simp only[comp,Option.some.injEq,Prod.mk.injEq]at hc;obtain⟨rfl,hc⟩:=hc;cases hc;simp
 | 0,.agg _,_,_,_,_,hc=>by simp only[comp,Option.some.injEq,Prod.mk.injEq]at hc;obtain⟨rfl,hc⟩:=hc;cases hc;simp
 | 0,.slice _ _,_,_,_,_,hc=>by simp only[comp,Option.some.injEq,Prod.mk.injEq]at hc;obtain⟨rfl,hc⟩:=hc;cases hc;simp
theorem cd.len:{t:Ty}->{m:Nat}->{x:t.den}->{o:Nat}->{cs:List Value}->cd w L s m t x o cs->cs.length=t.sz:=by
 intro t;induction t with
 | pair a b _ ih =>
  intro m x o cs h;obtain⟨c0,c1,rfl,h2,h3⟩:=h;rw[List.length_append,Own.len h2,ih h3];rfl
 | _=>intro m x o cs h;simp only[cd]at h;exact Own.len h
theorem cd.Un:{t:Ty}->{m:Nat}->{x:t.den}->{o:Nat}->{cs:List Value}->{i o1:Nat}->{t1:Ty}->{x1:t1.den}->cd w L s m t x o cs->comp i t x=some (o1,⟨t1,x1⟩) ->
  o1+t1.sz<=t.sz/\Own w L (SL L none) s (cond (m.testBit i) t1.depth 0) t1 x1 [] (o+o1) ((cs.drop o1).take t1.sz):=by
 intro t;induction t with
 | pair a b _ ih =>
  intro m x o cs i o1 t1 x1 h hc;obtain⟨c0,c1,rfl,h2,h3⟩:=h;have hl:=Own.len h2;cases i with
  | zero =>
   simp only[comp,Option.some.injEq,Prod.mk.injEq]at hc;obtain⟨rfl,hc⟩:=hc;cases hc;refine⟨by simp only[Ty.sz];omega,?_⟩;rw[List.drop_zero,<-hl,List.take_left];exact h2
  | succ i =>
   simp only[comp,Option.map_eq_some_iff]at hc;obtain⟨⟨o2,t2,x2⟩,hc,he⟩:=hc;simp only[Prod.mk.injEq]at he;obtain⟨rfl,he⟩:=he;cases he;obtain⟨k1,k3⟩:=ih h3 hc;refine⟨by simp only[Ty.sz];omega,?_⟩;have e:(c0++c1).drop (a.sz+o2)=c1.drop o2:=by
    rw[<-hl,<-List.drop_drop,List.drop_left]
   rw[e,<-Nat.add_assoc,Nat.testBit_succ];exact k3
 | _ =>
  intro m x o cs i o1 t1 x1 h hc;cases i with
  | zero =>
   simp only[comp,Option.some.injEq,Prod.mk.injEq]at hc;obtain⟨rfl,hc⟩:=hc;cases hc;simp only[cd]at h;refine⟨by simp,?_⟩;rw[List.drop_zero,List.take_of_length_le (Nat.le_of_eq (Own.len h))];exact h
  | succ i=>simp[comp]at hc
theorem Kp[af]{x:t.den}{n':Nat}{t':Ty}{x':t'.den}(hr:(qw p k n t x).ai T (l,⟨n',t',x'⟩) log)(hs:fG w L s k n t x c):
  mM w L (SL L l) s n' t' x' (node [] 0 p).1 (node [] 0 p).2/\l=none/\p≠[]:=by
 unfold qw at hr;split at hr
 ·split at hr
  ·rename_i bp;subst bp;obtain⟨hle,y,hy,hr⟩:=hr;obtain⟨z,l1,JX,rfl,h1,h2⟩:=M.an hr;obtain⟨h2,_⟩:=h2;cases h2;obtain⟨hi,h0,rfl⟩:=lT hy;simp only[fG]at hs;rcases hs with⟨_,hs⟩|⟨g,cap,cur,k1,k2,k3,k4,k5,k6,k7⟩
   ·rw[hs]at hi;exact absurd hi (by simp)
   ·refine⟨su (q:=[]++[0]) h1 ⟨g,cur,_,k2,k3,?_,k7 _ hi ?_⟩,rfl,by simp⟩
    ·rw[k6,<-Nat.succ_mul];exact Nat.mul_le_mul_right _ (Nat.lt_of_lt_of_le hi k4)
    ·exact Int.le_trans (of_decide_eq_true hle) (Int.le_of_eq (Int.toNat_of_nonneg h0).symm)
  ·exact hr.elim
 ·split at hr
  ·rename_i o _ _ hc;split at hr
   ·rename_i ho;subst ho;obtain⟨z,l1,JX,rfl,h1,h2⟩:=M.an hr;obtain⟨h2,_⟩:=h2;cases h2;simp only[fG]at hs;obtain⟨g,cur,e,k1,k2,k3,k4,k5⟩:=hs;obtain⟨j1,j2⟩:=cd.Un k5 hc;rw[Nat.zero_add]at j2;have key:=su (L:=L) (s:=s) (S:=SL L none) (w:=w) (q:=[]) (o:=o) h1 ⟨g,cur,e,k2,k3,by rw[k4];exact j1,j2⟩;refine⟨?_,rfl,by simp⟩;simp only[node,Nat.zero_add];exact key
   ·exact hr.elim
  ·exact hr.elim
 ·exact hr.elim
theorem lq[af]{u:V}{n':Nat}{t':Ty}{x':t'.den}(hr:(dG p u).ai T (l,⟨n',t',x'⟩) log)(hs:aB L T tm s u w c):
  mM w L (SL L l) s n' t' x' (node [] 0 p).1 (node [] 0 p).2/\(∀r,l=some r->(T.getD r .dead).deep=true)/\(n'≠0->t'.depth≠0->u.deep=true)/\u.aL=true/\(u.dE=false\/p≠[]):=by
 cases u with
 | box l2 n t x =>
  obtain⟨z,l1,JX,rfl,h1,h2⟩:=M.an hr;obtain⟨h2,_⟩:=h2;cases h2;obtain⟨h0,g,cur,e,h3,h4,h5,h6,h7⟩:=hs;refine⟨su h1 ⟨g,cur,e,h4,h5,by omega,?_⟩,h0,λhn hd=>?_,rfl,.inl rfl⟩
  ·rw[List.drop_zero,List.take_of_length_le (by rw[<-h6];simp)];exact h7
  ·have:=BV h1;simp only[V.deep,Bool.and_eq_true,bne_iff_ne];omega
 | d l2 n t x =>
  simp only[dG]at hr;split at hr
  ·rename_i sz i p';obtain⟨z,l1,JX,rfl,h1,h2⟩:=M.an hr;obtain⟨h2,_⟩:=h2;cases h2;obtain⟨h0,cs,h3,h4⟩:=hs;have hle:=BV h1;have jW:n'≠0->t'.depth≠0->(V.d l n t x).deep=true:=λhn hd=>by
    simp only[V.deep,Bool.and_eq_true,bne_iff_ne];omega
   cases t<;>cases n<;>simp only[aP]at h1<;>try exact h1.elim
   rename_i e t n;split at h1
   ·rename_i bp;subst bp;obtain⟨y,hy,h1⟩:=h1;obtain⟨hi,jY,rfl⟩:=lT hy;refine⟨su (q:=[]++[0]) h1 (Own.elem h4 hi),h0,jW,?_,.inr (by simp)⟩;simp[V.aL,Ty.depth]
   ·exact h1.elim
  ·exact hr.elim
 | bO k2 n t x =>
  obtain⟨h1,h2,h3⟩:=Kp hr hs;exact⟨h1,by simp[h2],λ_ _=>rfl,rfl,.inl rfl⟩
 | dead=>exact hr.elim
 | bF _=>exact hr.elim
 | rp _ _ _=>exact hr.elim
 | ptr _ _ _=>exact hr.elim
 | view _ _ _=>exact hr.elim
 | hole _ _=>exact hr.elim
 | part _ _ _ _ _=>exact hr.elim
 | same _ _=>exact hr.elim
theorem WA[af](hI:Inv w0 L0 N vs T a w L)(hC:bD P C){x:t.den}{o g:Nat}
  (hT:C.ty X=some t) (h:mM w L (SL L l) r n t x q o) (hg:L g = .own r q) :
  ∃c cur e,(loadVar X ⟨g,o,none⟩).run P w = .ok c w/\w.heap[g]?=some (.cells cur e (0,0))/\o+t.sz<=cur.size/\Form t ((cur.toList.drop o).take t.sz) c /\
   Own w L (SL L l) r n t x q o ((cur.toList.drop o).take t.sz):=by
 obtain⟨g',cur,e,h1,h2,h3,h4⟩:=h;obtain rfl:=hI.inj g g' r q hg h1;obtain⟨c,hc,hf⟩:=(hC X t hT).KQ (w:=w) (g:=g) (o:=o) (Own.len h4) (mM.cell h2);exact⟨c,cur,e,hc,h2,h3,hf,h4⟩
theorem YW[af](hI:Inv w0 L0 N vs T a w L)(hC:bD P C){r:Nat}{p:List St}(ho:o.op = .load X x)
  (hid:(T.getD d .dead).idle=true) (hx:∃g,a.eval x = .pointer (some ⟨g,(node [] 0 p).2,none⟩)/\L g = .own r (node [] 0 p).1)
  (h:(J0 C X r p).ai T v log) (bc:∀r,v.on r=true->r∈vs):aK P o vs T a w L d v:=by
 obtain⟨g,hx,hg⟩:=hx;obtain⟨aF,rfl,h⟩:=h;obtain⟨⟨l,n',t',x'⟩,l1,l2,rfl,h1,h2⟩:=M.an h;obtain⟨hb,hl,cD,bw,lZ⟩:=lq h1 (hI.aV r);have bC:r≠d:=df hid bw;split at h2
 ·rename_i hT;obtain⟨c,cur,e,aN,hh,bp,hf,me⟩:=WA hI hC hT hb hg;have Jo:(execOp a.eval o).run P w = .ok (.value c) w:=by simp[execOp,ho,hx,Instr.loadAt,Instr.sureAddr,aN]
  refine⟨c,w,L,Jo,eo.refl hI d,λk q hk h=>(by rw[hI.free k hk]at h;cases h),bc,?_⟩;have sL:∀r',(T.getD r' .dead).aL=true->r'≠d:=λr' h1=>df hid h1;split at h2
  ·rename_i oL;obtain⟨rfl,_⟩:=h2;exact⟨by simp,_,hf,Own.flat oL me⟩
  ·rename_i oL;split at h2
   ·rename_i iM;obtain⟨rfl,_⟩:=h2;refine⟨λr' aW=>?_,_,hf,Own.bA (.inl iM) me (.inl rfl)⟩;have:=hl r' aW;rw[aH,if_neg (λh=>sL r' (V.fj this) h.1)];exact this
   ·rename_i iM;obtain⟨rfl,_⟩:=h2;refine⟨?_,.inr ⟨g,cur,e,?_,hg,hh,bp,hf⟩⟩
    ·rw[aH,if_neg (λh=>bC h.1)];exact cD iM oL
    ·rw[aH,if_neg (λh=>bC h.1)];exact lZ
 ·exact h2.elim
theorem amV[af](hI:Inv w0 L0 N vs T a w L)(hC:bD P C){o:Oper}{t:Nat}(ho:o.op = .load X (.tmp t))
  (hid:(T.getD d .dead).idle=true) (h:(M.get t (J1 C X t)).ai T v log) (bc:∀r,v.on r=true->r∈vs):aK P o vs T a w L d v:=by
 obtain⟨aF,rfl,h⟩:=h;have hs:=hI.aV t;generalize hv:T.getD t .dead=u at h hs;cases u with
 | rp l t' x =>
  simp only[J1]at h;split at h
  ·rename_i hT;obtain⟨rfl,_⟩:=h;obtain⟨h0,g,o',cs,h1,h2,h3,h4⟩:=hs;obtain⟨c,hc,hf⟩:=(hC X t' hT).KQ (w:=w) (g:=g) (o:=o') (Rd.len h3) h4;have fb:a.eval (.tmp t)=_:=h1;refine⟨c,w,L,by simp[execOp,ho,fb,Instr.loadAt,Instr.sureAddr,hc],eo.refl hI d,λk q hk h=>(by rw[hI.free k hk]at h;cases h),bc,?_⟩;refine⟨λr hr=>?_,cs,hf,Own.dN h3⟩;have:=h0 r hr;rw[aH,if_neg (λh=>df hid (V.fj this) h.1)];exact this
  ·exact h.elim
 | ptr r p t' =>
  obtain⟨g,h1,h2⟩:=hs;exact YW hI hC ho hid ⟨g,h1,h2⟩ h bc
 | box l n t' x =>
  obtain⟨_,g,cur,e,h1,h2,_⟩:=hs;exact YW hI hC ho hid (r:=t) (p:=[]) ⟨g,h1,h2⟩ h bc
 | dead=>exact h.elim
 | bF _=>exact h.elim
 | d _ _ _ _=>exact h.elim
 | view _ _ _=>exact h.elim
 | hole _ _=>exact h.elim
 | part _ _ _ _ _=>exact h.elim
 | bO _ _ _ _=>exact h.elim
 | same _ _=>exact h.elim
theorem Dq[af](hI:Inv w0 L0 N vs T a w L){n':Nat}{x':t.den} 
  (hv:aB L T a.tmps s (.view r p t) w c) (hr:(qO p (T.getD r .dead)).ai T (l,⟨n',t,x'⟩) log) :
  ∃cs,Form t cs c/\Own w L (SL L l) r n' t x' (node [] 0 p).1 (node [] 0 p).2 cs/\(∀r,l=some r->(T.getD r .dead).deep=true)/\(T.getD r .dead).deep=true:=by
 obtain⟨cD,hv⟩:=hv;have hs:=hI.aV r;rcases hv with⟨rfl,hc,l0,n0,x0,hd,bw⟩|⟨g,cur,e,hp,h1,h2,h3,h4⟩
 ·rw[hd]at hr hs;obtain⟨hr,_⟩:=hr;cases hr;obtain⟨h0,cs,hf,ho⟩:=hs;exact⟨cs,by rw[hc];exact hf,ho,h0,cD⟩
 ·have key:∀{log:List Nat},(dG p (T.getD r .dead)).ai T (l,⟨n',t,x'⟩) log->_:=λhr=>lq hr hs;have cn:(∃log,(dG p (T.getD r .dead)).ai T (l,⟨n',t,x'⟩) log)\/p=[]:=by
   generalize T.getD r .dead=u at hr;cases u with
   | d l0 n0 t0 x0 =>
    simp only[qO]at hr;split at hr
    ·exact .inr rfl
    ·exact .inl ⟨_,hr⟩
    ·exact hr.elim
   | box l0 n0 t0 x0=>exact .inl ⟨_,hr⟩
   | dead=>exact .inl ⟨_,hr⟩
   | bF _=>exact .inl ⟨_,hr⟩
   | rp _ _ _=>exact .inl ⟨_,hr⟩
   | ptr _ _ _=>exact .inl ⟨_,hr⟩
   | view _ _ _=>exact .inl ⟨_,hr⟩
   | hole _ _=>exact .inl ⟨_,hr⟩
   | part _ _ _ _ _=>exact .inl ⟨_,hr⟩
   | bO _ _ _ _=>exact .inl ⟨_,hr⟩
   | same _ _=>exact .inl ⟨_,hr⟩
  rcases cn with⟨log,cn⟩|rfl
  ·obtain⟨⟨g',cur',e',k1,k2,k3,k4⟩,hl,_,_,_⟩:=key cn;obtain rfl:=hI.inj g g' r _ h1 k1;rw[h2]at k2;injection k2 with k2;injection k2 with k2 _ _;subst k2;exact⟨_,h4,k4,hl,cD⟩
  ·
   generalize hu:T.getD r .dead=u at hr hs cD hp;cases u with
   | box l0 n0 t0 x0 =>
    have cn:(dG [] (.box l0 n0 t0 x0)).ai T (l,⟨n',t,x'⟩) log:=hr;obtain⟨⟨g',cur',e',k1,k2,k3,k4⟩,hl,_,_,_⟩:=lq cn hs;obtain rfl:=hI.inj g g' r _ h1 k1;rw[h2]at k2;injection k2 with k2;injection k2 with k2 _ _;subst k2;exact⟨_,h4,k4,hl,cD⟩
   | d l0 n0 t0 x0=>rcases hp with hp|hp<;>simp[V.dE]at hp
   | dead=>exact hr.elim
   | bF _=>exact hr.elim
   | rp _ _ _=>exact hr.elim
   | ptr _ _ _=>exact hr.elim
   | view _ _ _=>exact hr.elim
   | hole _ _=>exact hr.elim
   | part _ _ _ _ _=>exact hr.elim
   | bO k0 n0 t0 x0 =>
    have cn:(dG [] (.bO k0 n0 t0 x0)).ai T (l,⟨n',t,x'⟩) log:=hr;exact absurd rfl (Kp cn hs).2.2
   | same _ _=>exact hr.elim
end
def pA(C:Ctx)(X:TypeId):Option Ty:=match C.ty X with
 | some (.agg t)=>cond t.eJ none (some t)
 | _=>none
def pC(C:Ctx)(X:TypeId):Option Ty:=match C.ty X with
 | some (.agg t)=>cond t.eJ (some t) none
 | _=>none
def vk(r:Nat)(p:List St)(t:Ty)(i:Int):Nat->Nat->M V
 | 0,_=>.fail
 | m+1,k=>match bB (k+1) t with
  | some (off,t1)=>.ite (decide (i=(k:Int))) (.ret (.ptr r (p++[.a6 (k+1) off]) t1)) (vk r p t i m (k+1))
  | none=>.fail
def sf:Ty->Ty
 | .pair a _=>a
 | t=>t
def nj(te:Ty):(t:Ty)->t.den->List te.den
 | .pair a b,z=>if h:a=te then (h▸z.1)::nj te b z.2 else []
 | .int k,z=>if h:Ty.int k=te then [h▸z]else []
 | .bool,z=>if h:Ty.bool=te then [h▸z]else []
 | .str,z=>if h:Ty.str=te then [h▸z]else []
 | _,_=>[]
theorem UC{te:Ty}:{t:Ty}->{z:t.den}->{j:Nat}->{y:te.den}->(nj te t z)[j]?=some y->∃off,comp j t z=some (off,⟨te,y⟩)
 | .pair a b,z,j,y,h=>by
  simp only[nj]at h;split at h
  ·rename_i ht;subst ht;cases j with
   | zero =>
    simp only[List.getElem?_cons_zero,Option.some.injEq]at h;subst h;exact⟨0,rfl⟩
   | succ j =>
    obtain⟨off,h⟩:=UC (t:=b) (by simpa using h);exact⟨a.sz+off,by simp[comp,h]⟩
  ·simp at h
 | .int k,z,j,y,h=>by
  simp only[nj]at h;split at h
  ·rename_i ht;subst ht;cases j with
   | zero=>simp only[List.getElem?_cons_zero,Option.some.injEq]at h;subst h;exact⟨0,rfl⟩
   | succ j=>simp at h
  ·simp at h
 | .bool,z,j,y,h=>by
  simp only[nj]at h;split at h
  ·rename_i ht;subst ht;cases j with
   | zero=>simp only[List.getElem?_cons_zero,Option.some.injEq]at h;subst h;exact⟨0,rfl⟩
   | succ j=>simp at h
  ·simp at h
 | .str,z,j,y,h=>by
  simp only[nj]at h;split at h
  ·rename_i ht;subst ht;cases j with
   | zero=>simp only[List.getElem?_cons_zero,Option.some.injEq]at h;subst h;exact⟨0,rfl⟩
   | succ j=>simp at h
  ·simp at h
 | .raw _,_,_,_,h | .cap _ _,_,_,_,h | .unit,_,_,_,h | .agg _,_,_,_,h | .slice _ _,_,_,_,h=>by simp[nj]at h
def o6(C:Ctx)(X:TypeId):Option Ty:=match C.ty X with
 | some (.slice _ t)=>some t
 | _=>none
def vA(C:Ctx)(X:TypeId)(f:Nat)(t:Nat):V->M V
 | .ptr r p _=>match pA C X with
  | some ta=>match bB f ta with
   | some (off,t1)=>.ret (.ptr r (p++[.a6 f off]) t1)
   | none=>.fail
  | none=>.fail
 | .box _ _ _ _=>match pA C X with
  | some ta=>match bB f ta with
   | some (off,t1)=>.ret (.ptr t [.a6 f off] t1)
   | none=>.fail
  | none=>.fail
 | .rp l t' x=>match t',x with
  | .agg ta,x=>if pA C X=some ta then match comp f ta x with
    | some (_,⟨t1,x1⟩)=>.ret (.rp l t1 x1)
    | none=>.fail
   else .fail
  | _,_=>.fail
 | _=>.fail
def Yv(t:Nat):V->M V
 | .ptr r p t'=>.ret (.ptr r p t')
 | .rp l t' x=>.ret (.rp l t' x)
 | .box _ _ t' _=>.ret (.ptr t [] t')
 | _=>.fail
def wN(C:Ctx)(X:TypeId)(t:Nat)(i:Int):V->M V
 | .d l n t' x=>match t',x with
  | .slice _ te,xs=>if o6 C X=some te then .cJ te (ae xs i) λy=>if n=0 then .ret (.rp l te y)else .ret (.ptr t [.idx te.sz i] te)
   else .fail
  | _,_=>.fail
 | .view r p t'=>.get r λu=>(qO p u).bind λz=>match z.2 with
  | ⟨n,.slice e te,xs⟩=>if .slice e te=t'/\o6 C X=some te/\n≠0 then .cJ te (ae xs i) λ_=>.ret (.ptr r (p++[.idx te.sz i]) te)else .fail
  | _=>.fail
 | .ptr r p _=>match pC C X with
  | some ta=>vk r p ta i 8 0
  | none=>.fail
 | .box _ _ _ _=>match pC C X with
  | some ta=>vk t [] ta i 8 0
  | none=>.fail
 | _=>.fail
def nr(s:ByteArray)(i:Int):Option Int:=if 0<=i then (s[i.toNat]?).map λb=>(b.toNat:Int)else none
def JZ(tx:Ty)(t:Nat)(v:V):M V :=
 match tx with
 | .slice _ _=>(mF t v).bind λz=>match z.2 with
  | ⟨.slice _ _,xs⟩=>.ret (.d none 0 (.int .i64) (xs.length:Int))
  | _=>.fail
 | .str=>match v with
  | .d _ _ .str s=>.ret (.d none 0 (.int .i64) (s.size:Int))
  | _=>.fail
 | _=>.fail
section
variable{P:Program}{C:Ctx}{w w' w0:World}{S S':Nat->Prop}{L L' L0:Nat->aj}{s N:Nat}{vs:List Nat}{T T':List V}{tm tm':Array Value}{a:Act}
theorem aK.ptr[af](hI:Inv w0 L0 N vs T a w L){g:Nat}{p:List St}(aN:(execOp a.eval o).run P w = .ok (.value (.pointer (some ⟨g,(node [] 0 p).2,none⟩))) w)
  (hg:L g = .own r (node [] 0 p).1) (bc:∀r',(V.ptr r p t).on r'=true->r'∈vs):aK P o vs T a w L d (.ptr r p t):=
 ⟨_,w,L,aN,eo.refl hI d,λk q hk h=>(by rw[hI.free k hk]at h;cases h),bc,g,rfl,hg⟩
theorem Y9[af](hC:bD P C){f o:Nat}{ta t1:Ty}(h1:pA C X=some ta)(h2:bB f ta=some (off,t1)):
  (Instr.fieldAt X (.pointer (some ⟨g,o,none⟩)) f).run P w = .ok (.pointer (some ⟨g,o+off,none⟩)) w:=by
 unfold pA at h1;split at h1
 ·rename_i t' ht;cases cQ:t'.eJ with
  | true=>rw[cQ]at h1;cases h1
  | false =>
  rw[cQ]at h1;injection h1 with h1;subst h1;obtain⟨⟨fs,hu,hf,hn⟩,_⟩:=(hC X _ ht).str cQ;have ax:=hn f _ h2;have Cc:fs[f]?=some fs[f]:=Array.getElem?_eq_getElem ax;obtain⟨t2,h3,h4,h5,_⟩:=hf f _ Cc;rw[h2]at h3;simp only[Option.some.injEq,Prod.mk.injEq]at h3;obtain⟨rfl,rfl⟩:=h3;have hs:=(hC _ _ h4).run_sizeOf (w:=w);simp[Instr.fieldAt,run_underlying hu,ax,Instr.sureAddr,fieldPlace,hs,h5,Addr.add_lit]
 ·cases h1
theorem w8[af](q:List Nat)(o:Nat)(p:List St)(f off:Nat):node q o (p++[.a6 f off])=((node q o p).1,(node q o p).2+off):=by
 rw[Km];rfl
theorem YV[af](hI:Inv w0 L0 N vs T a w L)(hC:bD P C){o:Oper}{t f:Nat}(ho:o.op = .fieldAddr X (.tmp t) f)
  (hid:(T.getD d .dead).idle=true) (h:(M.get t (vA C X f t)).ai T v log) (bc:∀r,v.on r=true->r∈vs):aK P o vs T a w L d v:=by
 obtain⟨aF,rfl,h⟩:=h;have hs:=hI.aV t;generalize hv:T.getD t .dead=u at h hs;have key:∀{g o' off:Nat} {ta t1:Ty},a.tmps.getD t undef = .pointer (some ⟨g,o',none⟩)->pA C X=some ta->bB f ta=some (off,t1) ->
   (execOp a.eval o).run P w = .ok (.value (.pointer (some ⟨g,o'+off,none⟩))) w:=by
  intro g o' off ta t1 h1 h2 h3;have fb:a.eval (.tmp t)=_:=h1;simp[execOp,ho,fb,Y9 hC h2 h3]
 cases u with
 | ptr r p t' =>
  simp only[vA]at h;obtain⟨g,h1,h2⟩:=hs;split at h
  ·rename_i ta kl;split at h
   ·rename_i off t1 hc;obtain⟨rfl,_⟩:=h;refine aK.ptr hI (g:=g) ?_ ?_ bc
    ·rw[key h1 kl hc,w8]
    ·rw[w8];exact h2
   ·exact h.elim
  ·exact h.elim
 | box l n t' x =>
  simp only[vA]at h;obtain⟨_,g,cur,e,h1,h2,_⟩:=hs;split at h
  ·rename_i ta kl;split at h
   ·rename_i off t1 hc;obtain⟨rfl,_⟩:=h;refine aK.ptr hI (g:=g) ?_ ?_ bc
    ·rw[key h1 kl hc];rfl
    ·exact h2
   ·exact h.elim
  ·exact h.elim
 | rp l t' x =>
  simp only[vA]at h;cases t'<;>try exact h.elim
  rename_i ta;simp only at h;split at h
  ·rename_i kl;split at h
   ·rename_i off t1 x1 hc;obtain⟨rfl,_⟩:=h;obtain⟨h0,g,o',cs,h1,h2,h3,h4⟩:=hs;simp only[Rd]at h3;have sF:bB f ta=some (off,t1):=Ul hc;obtain⟨h5,h6⟩:=vq (n:=0) (q:=[]) (o:=0) (L:=L) (s:=0) hc (Own.dN h3);refine⟨_,w,L,key h1 kl sF,eo.refl hI d,λk q hk h=>(by rw[hI.free k hk]at h;cases h),bc,?_⟩;refine⟨λr hr=>?_,g,o'+off,_,rfl,h2,Own.eM h6,λi v hv=>?_⟩
    ·have:=h0 r hr;rw[aH,if_neg (λh=>df hid (V.fj this) h.1)];exact this
    ·rw[List.getElem?_take]at hv;split at hv
     ·rw[List.getElem?_drop]at hv;rw[Nat.add_assoc];exact h4 _ _ hv
     ·cases hv
   ·exact h.elim
  ·exact h.elim
 | dead=>exact h.elim
 | bF _=>exact h.elim
 | d _ _ _ _=>exact h.elim
 | view _ _ _=>exact h.elim
 | hole _ _=>exact h.elim
 | part _ _ _ _ _=>exact h.elim
 | bO _ _ _ _=>exact h.elim
 | same _ _=>exact h.elim
 where
 Ul:{i:Nat}->{t:Ty}->{x:t.den}->{o1:Nat}->{t1:Ty}->{x1:t1.den}->comp i t x=some (o1,⟨t1,x1⟩)->bB i t=some (o1,t1):=by
  intro i t x o1 t1 x1 h;have bn:∃r,bB i t=some r:=by
   clear hC;revert x;induction t generalizing i o1 with
   | pair a b Wz JH =>
    intro x h;cases i with
    | zero=>exact⟨_,rfl⟩
    | succ i =>
     simp only[comp,Option.map_eq_some_iff]at h;obtain⟨⟨o2,t2,x2⟩,h,he⟩:=h;simp only[Prod.mk.injEq]at he;obtain⟨rfl,he⟩:=he;cases he;obtain⟨r,hr⟩:=JH h;exact⟨(a.sz+r.1,r.2),by simp[bB,hr]⟩
   | _=>intro x h;cases i<;>simp_all [comp,bB]
  obtain⟨⟨o2,t2⟩,hr⟩:=bn;obtain⟨x2,lh⟩:=H9 (x:=x) hr;rw[h]at lh;simp only[Option.some.injEq,Prod.mk.injEq]at lh;obtain⟨rfl,lh⟩:=lh;cases lh;exact hr
theorem amX[af](hI:Inv w0 L0 N vs T a w L){t:Nat}(ho:o.op = .nilCheck (.tmp t))
  (hid:(T.getD d .dead).idle=true) (h:(M.get t (Yv t)).ai T v log) (bc:∀r,v.on r=true->r∈vs):aK P o vs T a w L d v:=by
 obtain⟨aF,rfl,h⟩:=h;have hs:=hI.aV t;generalize hv:T.getD t .dead=u at h hs;have key:∀{g o':Nat},a.tmps.getD t undef = .pointer (some ⟨g,o',none⟩)->(execOp a.eval o).run P w = .ok (.value (.pointer (some ⟨g,o',none⟩))) w:=by
  intro g o' h1;have fb:a.eval (.tmp t)=_:=h1;simp[execOp,ho,fb]
 cases u with
 | ptr r p t' =>
  obtain⟨rfl,_⟩:=h;obtain⟨g,h1,h2⟩:=hs;exact aK.ptr hI (g:=g) (key h1) h2 bc
 | rp l t' x =>
  obtain⟨rfl,_⟩:=h;obtain⟨h0,g,o',cs,h1,h2,h3,h4⟩:=hs;refine⟨_,w,L,key h1,eo.refl hI d,λk q hk h=>(by rw[hI.free k hk]at h;cases h),bc,λr hr=>?_,g,o',cs,rfl,h2,h3,h4⟩;have:=h0 r hr;rw[aH,if_neg (λh=>df hid (V.fj this) h.1)];exact this
 | box l n t' x =>
  obtain⟨rfl,_⟩:=h;obtain⟨_,g,cur,e,h1,h2,_⟩:=hs;exact aK.ptr hI (g:=g) (p:=[]) (key h1) h2 bc
 | dead=>exact h.elim
 | bF _=>exact h.elim
 | d _ _ _ _=>exact h.elim
 | view _ _ _=>exact h.elim
 | hole _ _=>exact h.elim
 | part _ _ _ _ _=>exact h.elim
 | bO _ _ _ _=>exact h.elim
 | same _ _=>exact h.elim
theorem Zb[af](hC:bD P C){te:Ty}{o len cap:Nat}{i:Int}{k:IntKind}(h1:o6 C X=some te)(h0:0<=i)(hi:i.toNat<len):
  (Instr.indexAt X (.slice (some ⟨g,o,none⟩) len cap) (.int k i)).run P w = .ok (.pointer (some ⟨g,o+i.toNat*te.sz,none⟩)) w:=by
 unfold o6 at h1;split at h1
 ·rename_i e Dh ht;injection h1 with h1;subst h1;obtain⟨hu,he⟩:=(hC X _ ht).b7;have hs:=(hC _ _ he).run_sizeOf (w:=w);simp[Instr.indexAt,run_underlying hu,asIntOf,hs,Addr.add_lit];intro hle;exact absurd (hle h0) (by omega)
 ·cases h1
theorem Za[af](hC:bD P C){ta t1:Ty}{o j:Nat}{k:IntKind}(h1:pC C X=some ta)(h2:bB (j+1) ta=some (off,t1)):
  (Instr.indexAt X (.pointer (some ⟨g,o,none⟩)) (.int k (j:Int))).run P w = .ok (.pointer (some ⟨g,o+off,none⟩)) w:=by
 unfold pC at h1;split at h1
 ·rename_i t' ht;cases cQ:t'.eJ with
  | false=>rw[cQ]at h1;cases h1
  | true =>
  rw[cQ]at h1;injection h1 with h1;subst h1;obtain⟨n,e,te,hu,he,IT,hn,hc,hb⟩:=((hC X _ ht).b7).resolve_left (λh=>by rw[cQ]at h;cases h.1) |>.2;have ax:=hb j _ h2;rw[hc j ax]at h2;simp only[Option.some.injEq,Prod.mk.injEq]at h2;obtain⟨rfl,rfl⟩:=h2;have hs:=(hC _ _ he).run_sizeOf (w:=w);simp[Instr.indexAt,run_underlying hu,asIntOf,hs,Addr.add_lit,Instr.sureAddr,ax]
 ·cases h1
theorem HJ{i:Int}:∀(m k:Nat),(vk r p t i m k).ai T v log->∃(j:Nat) (off:Nat) (t1:Ty),i=(j:Int)/\bB (j+1) t=some (off,t1)/\v = .ptr r (p++[.a6 (j+1) off]) t1
 | 0,_,h=>h.elim
 | m+1,k,h=>by
  simp only[vk]at h;split at h
  ·rename_i off t1 hc;rcases h with⟨h1,h,_⟩|⟨_,h⟩
   ·exact⟨k,off,t1,of_decide_eq_true h1,hc,h⟩
   ·exact HJ m (k+1) h
  ·exact h.elim
theorem amR[af](hI:Inv w0 L0 N vs T a w L)(hC:bD P C){Y:TypeId}{t:Nat}{k:IntKind}{i:Int}(ho:o.op = .indexAddr X (.tmp t) y)
  (hy:a.eval y = .int k i) (hid:(T.getD d .dead).idle=true) (h:(M.get t (wN C X t i)).ai T v log) (bc:∀r,v.on r=true->r∈vs):aK P o vs T a w L d v:=by
 obtain⟨aF,rfl,h⟩:=h;have hs:=hI.aV t;generalize hv:T.getD t .dead=u at h hs;have key:∀{g o' len cap:Nat} {te:Ty},a.tmps.getD t undef = .slice (some ⟨g,o',none⟩) len cap->o6 C X=some te->0<=i->i.toNat<len ->
   (execOp a.eval o).run P w = .ok (.value (.pointer (some ⟨g,o'+i.toNat*te.sz,none⟩))) w:=by
  intro g o' len cap te h1 h2 h3 h4;have fb:a.eval (.tmp t)=_:=h1;simp[execOp,ho,fb,hy,Zb hC h2 h3 h4]
 cases u with
 | d l n t' x =>
  simp only[wN]at h;cases t'<;>try exact h.elim
  rename_i e te;simp only at h;split at h
  ·rename_i gn;obtain⟨y0,jy,h⟩:=h;obtain⟨hi,jY,rfl⟩:=lT jy;obtain⟨h0,cs,hf,bw⟩:=hs;split at h
   ·rename_i hn;subst hn;obtain⟨rfl,_⟩:=h;simp only[Own,Rd]at bw;obtain⟨A,c,rfl,h1,h2,h3⟩:=bw;obtain⟨g,o',rfl,hS,nw⟩:=h3 (by rintro rfl;simp at hi);have hc:a.tmps.getD t undef=_:=((List.cons.inj hf).1).symm;obtain⟨es,nv,lW⟩:=nw _ hi;refine⟨_,w,L,key hc gn jY hi,eo.refl hI d,λk q hk h=>(by rw[hI.free k hk]at h;cases h),bc,λr hr=>?_,g,_,es,rfl,hS,nv,λi v hv=>?_⟩
    ·have:=h0 r hr;rw[aH,if_neg (λh=>df hid (V.fj this) h.1)];exact this
    ·rw[Nat.add_assoc];exact lW i v hv
   ·rename_i hn;obtain⟨rfl,_⟩:=h;obtain⟨m,rfl⟩:∃m,n=m+1:=⟨n - 1,by omega⟩;simp only[Own]at bw;rcases bw with⟨_,rfl⟩|⟨g,cap,cur,rfl,hL,_⟩
    ·simp at hi
    ·have hc:a.tmps.getD t undef=_:=((List.cons.inj hf).1).symm;refine aK.ptr hI (g:=g) ?_ hL bc;rw[key hc gn jY hi];simp[node]
  ·exact h.elim
 | view r p t' =>
  obtain⟨log2,rfl,h⟩:=h;obtain⟨⟨l,n,t2,xs⟩,l1,l2,rfl,h1,h2⟩:=M.an h;cases t2<;>try exact h2.elim
  rename_i e te;simp only at h2;split at h2
  ·rename_i gn;obtain⟨rfl,gn,hn⟩:=gn;obtain⟨y0,jy,h2⟩:=h2;obtain⟨hi,jY,rfl⟩:=lT jy;obtain⟨rfl,_⟩:=h2;obtain⟨cs,hf,bw,_⟩:=Dq hI hs h1;obtain⟨m,rfl⟩:∃m,n=m+1:=⟨n - 1,by omega⟩;simp only[Own]at bw;rcases bw with⟨_,rfl⟩|⟨g,cap,cur,rfl,hL,_⟩
   ·simp at hi
   ·have hc:a.tmps.getD t undef=_:=((List.cons.inj hf).1).symm;refine aK.ptr hI (g:=g) ?_ ?_ bc
    ·rw[key hc gn jY hi,Km];simp[node]
    ·rw[Km];exact hL
  ·exact h2.elim
 | dead=>exact h.elim
 | bF _=>exact h.elim
 | rp _ _ _=>exact h.elim
 | ptr r p t' =>
  simp only[wN]at h;split at h
  ·rename_i ta kl;obtain⟨j,off,t1,rfl,hc,rfl⟩:=HJ 8 0 h;obtain⟨g,h1,h2⟩:=hs;refine aK.ptr hI (g:=g) ?_ ?_ bc
   ·have fb:a.eval (.tmp t)=_:=h1;rw[w8];simp[execOp,ho,fb,hy,Za hC kl hc]
   ·rw[w8];exact h2
  ·exact h.elim
 | box l n t' x =>
  simp only[wN]at h;split at h
  ·rename_i ta kl;obtain⟨j,off,t1,rfl,hc,rfl⟩:=HJ 8 0 h;obtain⟨_,g,cur,e,h1,h2,_⟩:=hs;refine aK.ptr hI (g:=g) ?_ ?_ bc
   ·have fb:a.eval (.tmp t)=_:=h1;rw[List.nil_append,show [St.a6 (j+1) off]=[]++[St.a6 (j+1) off]from rfl,w8];simp[execOp,ho,fb,hy,Za hC kl hc,node]
   ·exact h2
  ·exact h.elim
 | hole _ _=>exact h.elim
 | part _ _ _ _ _=>exact h.elim
 | bO _ _ _ _=>exact h.elim
 | same _ _=>exact h.elim
end
def tF(C:Ctx)(X:TypeId)(t:Nat)(lo:Int)(hi:Option Int)(v:V):M V :=
 match v with
 | .d _ _ .str s=>if C.ty X=some .str then .bm (decide (0<=lo)&&decide (lo<=hi.getD s.size)&&decide (hi.getD s.size<=s.size)) (.ret (.d none 0 .str (s.extract lo.toNat (hi.getD s.size).toNat)))else .fail
 | v=>(mF t v).bind λz=>match z with
  | (l,⟨.slice e te,xs⟩)=>if o6 C X=some te then
    .bm (decide (0<=lo)&&decide (lo<=hi.getD (xs.length:Int))&&decide (hi.getD (xs.length:Int)<=(xs.length:Int)))
     (.ret (.d l 0 (.slice e te) ((xs.take (hi.getD (xs.length:Int)).toNat).drop lo.toNat)))
   else .fail
  | _=>.fail
def J7(C:Ctx)(X:TypeId)(n c:Int):M V :=
 match C.ty X with
 | some (.slice e te)=>.bm (decide (0<=n)&&decide (n<=c)&&decide (c*C.bytes e<=140737488355328)&&decide (c<=9223372036854775807)) (.ret (.d none (te.depth+1) (.slice e te) (List.replicate n.toNat te.zero)))
 | _=>.fail
def Hx(C:Ctx)(X:TypeId):M V :=
 match C.ty X with
 | some t=>.ret (.box none t.depth t t.zero)
 | none=>.fail
section
variable{P:Program}{C:Ctx}{w w' w0:World}{S S':Nat->Prop}{L L' L0:Nat->aj}{s N:Nat}{vs:List Nat}{T T':List V}{tm tm':Array Value}{a:Act}
theorem qB[af](hI:Inv w0 L0 N vs T a w L){t:Nat}{t':Ty}{x:t'.den}{v:V}  
  (h:(mF t v).ai T (l,⟨t',x⟩) log) (hs:aB L T a.tmps t v w c) (hv:v.aL=true->v=T.getD t .dead) :
  ∃cs,Form t' cs c/\Rd w (SL L l) t' x cs/\∀r,l=some r->(T.getD r .dead).deep=true:=by
 cases v with
 | d l0 n0 t0 x0 =>
  simp only[mF]at h;obtain⟨h0,cs,hf,bw⟩:=hs;split at h
  ·rename_i hn;obtain⟨h,_⟩:=h;cases h;exact⟨cs,hf,Own.eM (Own.bA (s':=0) (q':=[]) (o':=0) (n':=0) hn bw (.inl rfl)),h0⟩
  ·rename_i hn;have wk:=not_or.1 hn;split at h
   ·obtain⟨h,_⟩:=h;cases h;refine⟨cs,hf,Own.rd (λk q hk=>.inr ⟨t,q,rfl,hk⟩) (λk hk=>?_) bw,λr hr=>?_⟩
    ·rcases hk with hk|⟨_,_,hk,_⟩
     ·exact .inl hk
     ·cases hk
    ·cases hr;rw[<-hv (by simp[V.aL,wk])];simp[V.deep,wk]
   ·exact h.elim
 | view r p t2 =>
  obtain⟨aF,rfl,h⟩:=h;obtain⟨⟨l0,n0,t0,x0⟩,l1,l2,rfl,h1,h2⟩:=M.an h;simp only at h2;split at h2
  ·split at h2
   ·rename_i ht;subst ht;obtain⟨h2,_⟩:=h2;cases h2;obtain⟨cs,hf,bw,_,cD⟩:=Dq hI hs h1;refine⟨cs,hf,Own.rd (λk q hk=>.inr ⟨r,q,rfl,hk⟩) (λk hk=>?_) bw,λr' hr=>?_⟩
    ·rcases hk with hk|⟨_,_,hk,_⟩
     ·exact .inl hk
     ·cases hk
    ·cases hr;exact cD
   ·exact h2.elim
  ·exact h2.elim
 | dead=>exact h.elim
 | bF _=>exact h.elim
 | rp _ _ _=>exact h.elim
 | ptr _ _ _=>exact h.elim
 | box _ _ _ _=>exact h.elim
 | hole _ _=>exact h.elim
 | part _ _ _ _ _=>exact h.elim
 | bO _ _ _ _=>exact h.elim
 | same _ _=>exact h.elim
theorem amU[af](hI:Inv w0 L0 N vs T a w L)(hC:bD P C){t:Nat}{tx:Ty}(ho:o.op = .call { callee:=.builtin .len,args:=#[.tmp t],argTypes:=#[X] })
  (hX:C.ty X=some tx) (h:(M.get t (JZ tx t)).ai T v log):aK P o vs T a w L d v:=by
 obtain⟨aF,rfl,h⟩:=h;have hs:=hI.aV t;have key:∀c,(Builtin.len_ #[X] o.type #[a.eval (.tmp t)]).run P w = .ok c w->(execOp a.eval o).run P w = .ok (.value c) w:=by
  intro c hc;simp[execOp,ho,resolve,invoke,builtin,hc]
 unfold JZ at h;split at h
 ·obtain⟨⟨l,t2,x2⟩,l1,l2,rfl,h1,h2⟩:=M.an h;cases t2<;>try exact h2.elim
  obtain⟨rfl,_⟩:=h2;obtain⟨cs,hf,hr,_⟩:=qB hI h1 hs (λ_=>rfl);simp only[Rd]at hr;obtain⟨A,c,rfl,_⟩:=hr;have hc:a.eval (.tmp t)=_:=((List.cons.inj hf).1).symm;refine aK.still hI (key _ ?_) (λ_=>rfl) aB.mkInt;rw[hc];have hu:=(hC X _ hX).b7;simp[Builtin.len_,run_underlying hu.1,goInt]
 ·split at h
  ·rename_i l n sx hv;obtain⟨rfl,_⟩:=h;rw[hv]at hs;have hc:a.eval (.tmp t)=_:=hs.str;refine aK.still hI (key _ ?_) (λ_=>rfl) aB.mkInt;rw[hc];have hu:=(hC X _ hX).b7;simp[Builtin.len_,run_underlying hu,goInt]
  ·exact h.elim
 ·exact h.elim
theorem eo.alloc[af](hI:Inv w0 L0 N vs T a w L)(d:Nat)(q:List Nat)(ob:Obj):eo w (w.alloc ob) L (λk=>if k=w.heap.size then .own d q else L k) d:=by
 refine⟨rfl,rfl,rfl,by simp,Nat.le_refl _,λk hk=>?_,λk s q' hk h=>?_,λk k' q' hk aI h h'=>?_,λk hk=>?_⟩
 ·rw[if_neg (by omega)];exact⟨rfl,Go.RowKit.Below.heap_alloc w ob k hk⟩
 ·split at h
  ·injection h with h _;exact h.symm
  ·rw[hI.free k hk]at h;cases h
 ·split at h
  ·split at h'
   ·omega
   ·rw[hI.free k' aI]at h';cases h'
  ·rw[hI.free k hk]at h;cases h
 ·simp at hk;rw[if_neg (by omega)];exact hI.free k (by omega)
theorem Form.cells{t:Ty}{c:Value}(h:Form t cs c)(h1:∀v∈cs,v.oneCell'=true):c.cells.toList=cs:=by
 have key:cs=[c]->c.cells.toList=cs:=λh=>by
  subst h;have:=h1 c (by simp);cases c<;>simp_all [Value.cells,Value.oneCell']
 cases t<;>first|exact key h|(simp only[Form]at h;subst h;rfl)
theorem oM(w:World)(ob:Obj):(w.alloc ob).heap[w.heap.size]?=some ob:=by
 show (w.heap.push ob)[w.heap.size]?=_;simp
theorem amL[af](hI:Inv w0 L0 N vs T a w L)(hC:bD P C){o:Oper}(ho:o.op = .alloc X)
  (h:(Hx C X).ai T v log):aK P o vs T a w L d v:=by
 unfold Hx at h;split at h
 ·rename_i t hX;obtain⟨rfl,_⟩:=h;obtain⟨i,z,h1,h2,h3,h4,h5⟩:=(hC X t hX).info;have dZ:∀v∈t.ct,v.oneCell'=true:=Own.one (Own.zero (w:=w) (L:=L) (S:=λ_=>True) (s:=0) (n:=0) (t:=t) (q:=[]) (o:=0));have jo:=Form.cells h5 dZ;refine⟨.pointer (some ⟨w.heap.size,0,none⟩),w.alloc (.cells z.cells X),_,?_,eo.alloc hI d [] _,λ_ _ _ _=>rfl,λr hr=>(by simp[V.on,V.root]at hr),?_⟩
  ·simp[execOp,ho,Instr.alloc,zeroValue,Go.run_typeInfo w h1,h4,newVar,newRow,newObj,Sem.run]
  ·refine⟨by simp,w.heap.size,z.cells,X,rfl,by simp,oM _ _,?_,?_⟩
   ·rw[<-Array.length_toList,jo,Ty.jI]
   ·rw[jo];exact Own.zero
 ·exact h.elim
theorem J6(cz:Array Value)(n:Nat):∀j,j<n->(((Array.range (n*cz.size)).map (cz[· % cz.size]!)).toList.drop (j*cz.size)).take cz.size=cz.toList:=by
 intro j hj;apply List.ext_getElem?;intro i;rw[List.getElem?_take,List.getElem?_drop];have hb:j*cz.size+cz.size<=n*cz.size:=by
  calc j*cz.size+cz.size=(j+1)*cz.size:=by rw[Nat.add_mul,Nat.one_mul]
   _<=n*cz.size:=Nat.mul_le_mul_right _ hj
 split
 ·rename_i hi;have h2:(j*cz.size+i) % cz.size=i:=by rw[Nat.add_comm,Nat.add_mul_mod_self_right,Nat.mod_eq_of_lt hi]
  simp only[Array.toList_map,Array.toList_range,List.getElem?_map,List.getElem?_range (show j*cz.size+i<n*cz.size by omega),Option.map_some,h2,Array.getElem?_toList];rw[Array.getElem?_eq_getElem hi];simp[hi]
 ·rename_i hi;rw[List.getElem?_eq_none (by simpa using hi)]
theorem amW[af](hI:Inv w0 L0 N vs T a w L)(hC:bD P C){o:Oper}{n c:Int}{k1 k2:IntKind}(ho:o.op = .makeSlice X x y)
  (hx:a.eval x = .int k1 n) (hy:a.eval y = .int k2 c) (h:(J7 C X n c).ai T v log):aK P o vs T a w L d v:=by
 unfold J7 at h;split at h
 ·rename_i e te hX;obtain⟨hc,rfl,_⟩:=h;simp only[Bool.and_eq_true,decide_eq_true_eq]at hc;obtain⟨⟨⟨iM,hnc⟩,hb⟩,hm⟩:=hc;obtain⟨hu,he⟩:=(hC X _ hX).b7;obtain⟨i,z,h1,h2,h3,h4,h5⟩:=(hC e te he).info;have dZ:∀v∈te.ct,v.oneCell'=true:=Own.one (Own.zero (w:=w) (L:=L) (S:=λ_=>True) (s:=0) (n:=0) (t:=te) (q:=[]) (o:=0));have jo:=Form.cells h5 dZ;have bp:z.cells.size=te.sz:=by rw[<-Array.length_toList,jo,Ty.jI]
  have wn:IntKind.i64.wrap n=n:=IntWalk.i64_in _ (by omega);have wc:IntKind.i64.wrap c=c:=IntWalk.i64_in _ (by omega);let cur:Array Value:=(Array.range (c.toNat*te.sz)).map (z.cells[· % z.cells.size]!);refine⟨.slice (some ⟨w.heap.size,0,none⟩) n.toNat c.toNat,w.alloc (.cells cur e),_,?_,eo.alloc hI d [0] _,λ_ _ _ _=>(by simp[V.aL,Ty.depth]),λr hr=>(by simp[V.on,V.root]at hr),?_⟩
  ·have sS:¬(c.toNat*i.bytes>roomBytes):=by
    rw[h3];unfold roomBytes;have:((c.toNat*C.bytes e:Nat):Int)<=140737488355328:=by
     rw[Int.natCast_mul,Int.toNat_of_nonneg (by omega)];exact hb
    omega
   have auq:¬(c<0\/(i.bytes:Int)*c>2 ^ 48):=by
    rw[h3,Int.mul_comm];omega
   have VE:¬((decide (c<0)||decide ((i.bytes:Int)*c>2 ^ 48))=true\/n<0\/n>c):=by
    simp only[Bool.or_eq_true,decide_eq_true_eq];omega
   by_cases hz:c.toNat*te.sz=0
   ·have oJ:cur=#[]:=by
     show (Array.range (c.toNat*te.sz)).map (z.cells[· % z.cells.size]!)=#[];rw[hz];simp
    rw[oJ];simp only[execOp,ho,Instr.makeSlice,hx,hy,asInt,asIntOf,Sem.run_bind,run_underlying hu,Result.andThen_ok,Sem.run_pure,Go.run_typeInfo w h1,wn,wc,Sem.run_ite];rw[if_neg (by simp only[Bool.or_eq_true,decide_eq_true_eq]at VE ⊢;omega)];simp[askRoom,sS,(hC e te he).run_sizeOf,hz,newRow,newObj,Sem.run,Array.range_zero']
   ·simp only[execOp,ho,Instr.makeSlice,hx,hy,asInt,asIntOf,Sem.run_bind,run_underlying hu,Result.andThen_ok,Sem.run_pure,Go.run_typeInfo w h1,wn,wc,Sem.run_ite];rw[if_neg (by simp only[Bool.or_eq_true,decide_eq_true_eq]at VE ⊢;omega)];simp[askRoom,sS,(hC e te he).run_sizeOf,hz,newRow,newObj,Sem.run,zeroValue,Go.run_typeInfo w h1,h4,cur]
  ·refine⟨by simp,_,rfl,?_⟩;simp only[Own];refine .inr ⟨w.heap.size,c.toNat,cur,by simp,by simp,oM _ _,by simp;omega,by unfold maxLen;omega,by simp[cur],λj hj=>?_⟩;simp only[List.length_replicate]at hj;have pU:((cur.toList.drop (j*te.sz)).take te.sz)=te.ct:=by
    have:=J6 z.cells c.toNat j (by omega);rw[bp]at this;rw[<-jo];show (((Array.range (c.toNat*te.sz)).map (z.cells[· % z.cells.size]!)).toList.drop (j*te.sz)).take te.sz=_;rw[bp];exact this
   rw[pU,List.getElem_replicate];exact Own.zero
 ·exact h.elim
end
def Ty.kV:Ty->Nat
 | .pair a b=>max a.kV b.kV
 | .agg t=>t.kV+1
 | .slice _ t=>t.kV+1
 | _=>0
def dA:(t:Ty)->t.den->t.den->Option Bool
 | .int _,x,y=>some (x==y)
 | .bool,x,y=>some (x==y)
 | .str,x,y=>some (x.toList==y.toList)
 | .agg t,x,y=>dA t x y
 | .pair a b,x,y=>match dA a x.1 y.1,dA b x.2 y.2 with
  | some p,some q=>some (p&&q)
  | _,_=>none
 | _,_,_=>none
section
variable{P:Program}{C:Ctx}{w w' w0:World}{S S':Nat->Prop}{L L' L0:Nat->aj}{s N:Nat}{vs:List Nat}{T T':List V}{tm tm':Array Value}{a:Act}
def FT(C:Ctx):Nat->Ty->List Field->Prop
 | off, .pair a b, fl => ∃ f oD, fl = f :: oD /\ f.offset = off /\ C.ty f.type = some a /\ f.name ≠ "_" /\ FT C (off + a.sz) b oD
 | off, t, fl => ∃ f, fl = [f] /\ f.offset = off /\ C.ty f.type = some t /\ f.name ≠ "_"
theorem FT.of:{t : Ty} -> {off : Nat} -> {fl : List Field} -> (∀ (j : Nat) (f : Field), fl[j]? = some f -> ∃ o1 t1, bB j t = some (o1, t1) /\ f.offset = off + o1 /\ C.ty f.type = some t1 /\ f.name ≠ "_") ->
  (∀j r,bB j t=some r->j<fl.length)->FT C off t fl
 | .pair a b,off,fl,h1,h2=>by
  have:=h2 0 _ rfl
  match fl,this with
  | f::oD,_ =>
   obtain⟨o1,t1,h3,h4,h5,h6⟩:=h1 0 f rfl;simp only[bB,Option.some.injEq,Prod.mk.injEq]at h3;obtain⟨rfl,rfl⟩:=h3;refine⟨f,oD,rfl,by simpa using h4,h5,h6,FT.of (λj g hg=>?_) (λj r hr=>?_)⟩
   ·obtain⟨o1,t1,h3,h4,h5⟩:=h1 (j+1) g hg;simp only[bB,Option.map_eq_some_iff]at h3;obtain⟨⟨o2,t2⟩,h3,he⟩:=h3;simp only[Prod.mk.injEq]at he;obtain⟨rfl,rfl⟩:=he;exact⟨o2,t2,h3,by omega,h5⟩
   ·have:=h2 (j+1) (a.sz+r.1,r.2) (by simp[bB,hr]);simp at this;omega
 | .int _,off,fl,h1,h2 | .bool,off,fl,h1,h2 | .str,off,fl,h1,h2 | .raw _,off,fl,h1,h2 | .cap _ _,off,fl,h1,h2 | .unit,off,fl,h1,h2 | .agg _,off,fl,h1,h2 | .slice _ _,off,fl,h1,h2=>by
  have:=h2 0 _ rfl
  match fl,this with
  | f::oD,_ =>
   obtain⟨o1,t1,h3,h4,h5,h6⟩:=h1 0 f rfl;simp only[bB,Option.some.injEq,Prod.mk.injEq]at h3;obtain⟨rfl,rfl⟩:=h3
   match oD with
   | []=>exact⟨f,rfl,by simpa using h4,h5,h6⟩
   | g::_ =>
    obtain⟨_,_,h3,_⟩:=h1 1 g rfl;simp[bB]at h3
theorem xn[af](hC:bD P C){t:Ty}{x:t.den}{xs:Array Value}{off:Nat}(hX:C.ty X=some t)(hb:off+t.sz<=xs.size)
  (h:Rd w S t x ((xs.toList.drop off).take t.sz)):∃c,(part X xs off).run P w = .ok c w/\Form t ((xs.toList.drop off).take t.sz) c:=by
 have qb:=hC X t hX;cases ha:t.isAgg with
 | true =>
  refine⟨.agg (xs.extract off (off+t.sz)),?_,?_⟩
  ·unfold part;simp[qb.C8,ha,qb.run_sizeOf]
  ·cases t<;>simp[Ty.isAgg]at ha;simp only[Form,Ty.sz];congr 1;apply Array.ext';simp[List.take_drop]
 | false =>
  have bp:=qb.n9 ha;obtain⟨c,hc,hf⟩:=Form.YC bp ha (Rd.len h);refine⟨c,?_,by rw[hc]at hf ⊢;exact hf⟩;unfold part;have:xs[off]?=some c:=by
   have h0:((xs.toList.drop off).take t.sz)[0]?=some c:=by rw[hc];rfl
   rw[List.getElem?_take,if_pos (by omega),List.getElem?_drop]at h0;simpa using h0
  simp[qb.C8,ha,this]
theorem Form.agg{t:Ty}{c:Value}(h:Form (.agg t) cs c):c = .agg cs.toArray:=h
theorem ah2[af](hC:bD P C):(t:Ty) ->
  (∀(X:TypeId) (d:Nat) (x y:t.den) (jj cK:List Value) (c1 c2:Value) (b:Bool) (S:Nat->Prop) (S2:Nat->Prop),C.ty X=some t->t.kV<d->Form t jj c1->Form t cK c2->Rd w S t x jj->Rd w S2 t y cK->dA t x y=some b ->
   (Op.equalIn d X c1 c2).run P w = .ok b w) /\
  (∀(off:Nat) (fl:List Field) (d:Nat) (x y:t.den) (xs ys:Array Value) (b:Bool) (S:Nat->Prop) (S2:Nat->Prop),FT C off t fl->t.kV<d->off+t.sz<=xs.size->off+t.sz<=ys.size ->
   Rd w S t x ((xs.toList.drop off).take t.sz)->Rd w S2 t y ((ys.toList.drop off).take t.sz)->dA t x y=some b->(Op.eqFields d xs ys fl).run P w = .ok b w):=by
 have oR:∀t:Ty,(∀a b,t ≠ .pair a b)->(∀(X:TypeId) (d:Nat) (x y:t.den) (jj cK:List Value) (c1 c2:Value) (b:Bool) (S:Nat->Prop) (S2:Nat->Prop),C.ty X=some t->t.kV<d->Form t jj c1->Form t cK c2->Rd w S t x jj->Rd w S2 t y cK->dA t x y=some b ->
   (Op.equalIn d X c1 c2).run P w = .ok b w) ->
  (∀(off:Nat) (fl:List Field) (d:Nat) (x y:t.den) (xs ys:Array Value) (b:Bool) (S:Nat->Prop) (S2:Nat->Prop),FT C off t fl->t.kV<d->off+t.sz<=xs.size->off+t.sz<=ys.size ->
   Rd w S t x ((xs.toList.drop off).take t.sz)->Rd w S2 t y ((ys.toList.drop off).take t.sz)->dA t x y=some b->(Op.eqFields d xs ys fl).run P w = .ok b w):=by
  intro t ht ih off fl d x y xs ys b S S2 hf hd pT IU h1 h2 he;have vR : ∃ f, fl = [f] /\ f.offset = off /\ C.ty f.type = some t /\ f.name ≠ "_" := by
   cases t<;>first|exact hf|exact absurd rfl (ht _ _)
  obtain⟨f,rfl,rfl,hX,gh⟩:=vR;obtain⟨c1,p1,f1⟩:=xn (w:=w) hC hX pT h1;obtain⟨c2,p2,f2⟩:=xn (w:=w) hC hX IU h2;have:=ih f.type d x y _ _ c1 c2 b S S2 hX hd f1 f2 h1 h2 he;simp only[Op.eqFields,if_pos gh,Sem.run_bind,p1,p2,Result.andThen_ok,this,Sem.run_ite,Sem.run_pure];cases b<;>simp
 intro t;induction t with
 | int k =>
  refine (λh=>⟨h,oR _ (by simp) h⟩) ?_;intro X d x y jj cK c1 c2 b S S2 hX hd f1 f2 h1 h2 he;obtain⟨d,rfl⟩:∃m,d=m+1:=⟨d - 1,by omega⟩;simp only[Rd]at h1 h2;subst h1 h2;obtain rfl:=(List.cons.inj f1).1;obtain rfl:=(List.cons.inj f2).1;simp only[dA,Option.some.injEq]at he;subst he;exact run_equalIn_int w d X k k _ _ (hC X _ hX).b7
 | bool =>
  refine (λh=>⟨h,oR _ (by simp) h⟩) ?_;intro X d x y jj cK c1 c2 b S S2 hX hd f1 f2 h1 h2 he;obtain⟨d,rfl⟩:∃m,d=m+1:=⟨d - 1,by omega⟩;simp only[Rd]at h1 h2;subst h1 h2;obtain rfl:=(List.cons.inj f1).1;obtain rfl:=(List.cons.inj f2).1;simp only[dA,Option.some.injEq]at he;subst he;exact run_equalIn_bool' w d X _ _ (hC X _ hX).b7
 | str =>
  refine (λh=>⟨h,oR _ (by simp) h⟩) ?_;intro X d x y jj cK c1 c2 b S S2 hX hd f1 f2 h1 h2 he;obtain⟨d,rfl⟩:∃m,d=m+1:=⟨d - 1,by omega⟩;simp only[Rd]at h1 h2;subst h1 h2;obtain rfl:=(List.cons.inj f1).1;obtain rfl:=(List.cons.inj f2).1;simp only[dA,Option.some.injEq]at he;subst he;exact run_equalIn_string w d X _ _ (hC X _ hX).b7
 | raw z=>exact (λh=>⟨h,oR _ (by simp) h⟩) (by intro _ _ _ _ _ _ _ _ _ _ _ _ _ _ _ _ _ he;simp[dA]at he)
 | cap k0 t0=>exact (λh=>⟨h,oR _ (by simp) h⟩) (by intro _ _ _ _ _ _ _ _ _ _ _ _ _ _ _ _ _ he;simp[dA]at he)
 | unit=>exact (λh=>⟨h,oR _ (by simp) h⟩) (by intro _ _ _ _ _ _ _ _ _ _ _ _ _ _ _ _ _ he;simp[dA]at he)
 | slice e t=>exact (λh=>⟨h,oR _ (by simp) h⟩) (by intro _ _ _ _ _ _ _ _ _ _ _ _ _ _ _ _ _ he;simp[dA]at he)
 | agg t ih =>
  refine (λh=>⟨h,oR _ (by simp) h⟩) ?_;intro X d x y jj cK c1 c2 b S S2 hX hd f1 f2 h1 h2 he;obtain⟨d,rfl⟩:∃m,d=m+1:=⟨d - 1,by omega⟩;obtain rfl:=f1.agg;obtain rfl:=f2.agg;have cQ:t.eJ=false:=by
   cases cQ:t.eJ with
   | false=>rfl
   | true =>
    unfold Ty.eJ at cQ;split at cQ
    ·simp[dA]at he
    ·cases cQ
  obtain⟨⟨fs,hu,nz⟩,a7,_⟩:=(hC X _ hX).str cQ;have Cc:P.fieldsOf X=fs:=by simp[Program.fieldsOf,hu]
  rw[run_equalIn_struct w d X _ _ (by rw[Cc];exact hu) a7,Cc];simp only[Ty.kV]at hd;simp only[Rd]at h1 h2;refine ih.2 0 fs.toList d x y _ _ b S S2 ?_ (by omega) (by simp[Rd.len h1]) (by simp[Rd.len h2]) ?_ ?_ he
  ·refine FT.of (λj f hj=>?_) (λj r hr=>by simpa using nz.2 j r hr);obtain⟨t1,h3,h4,_,h5⟩:=nz.1 j f (by simpa using hj);exact⟨f.offset,t1,h3,by omega,h4,h5⟩
  ·simpa[List.take_of_length_le (Nat.le_of_eq (Rd.len h1))]using h1
  ·simpa[List.take_of_length_le (Nat.le_of_eq (Rd.len h2))]using h2
 | pair a b Wz JH =>
  refine⟨λX d x y jj cK c1 c2 b S S2 hX=>((hC X _ hX).b7).elim,?_⟩;intro off fl d x y xs ys r S S2 hf hd pT IU h1 h2 he;simp only[FT]at hf;obtain⟨f,oD,rfl,rfl,hX,gh,hf⟩:=hf;simp only[Ty.kV]at hd;simp only[Ty.sz]at pT IU h1 h2;simp only[Rd]at h1 h2;obtain⟨c0,c1,e1,lU,IK⟩:=h1;obtain⟨d0,d1,e2,BZ,IL⟩:=h2;have Zo:∀{zs:Array Value} {u0 u1:List Value},(zs.toList.drop f.offset).take (a.sz+b.sz)=u0++u1->u0.length=a.sz->u1.length=b.sz ->
    (zs.toList.drop f.offset).take a.sz=u0/\(zs.toList.drop (f.offset+a.sz)).take b.sz=u1:=by
   intro zs u0 u1 he ke VT;constructor
   ·have:=congrArg (List.take a.sz) he;rw[List.take_take,Nat.min_eq_left (by omega),List.take_left' ke]at this;exact this
   ·have:=congrArg (List.drop a.sz) he;rw[List.drop_take,List.drop_drop,List.drop_left' ke]at this;rw[<-this];congr 1;omega
  obtain⟨s1,s2⟩:=Zo e1 (Rd.len lU) (Rd.len IK);obtain⟨t1,t2⟩:=Zo e2 (Rd.len BZ) (Rd.len IL);rw[<-s1]at lU;rw[<-s2]at IK;rw[<-t1]at BZ;rw[<-t2]at IL;obtain⟨p1,q1,f1⟩:=xn (w:=w) hC hX (by omega) lU;obtain⟨p2,q2,f2⟩:=xn (w:=w) hC hX (by omega) BZ;simp only[dA]at he;split at he
  ·rename_i u v hu hv;simp only[Option.some.injEq]at he;subst he;have k1:=Wz.1 f.type d x.1 y.1 _ _ p1 p2 u S S2 hX (by omega) f1 f2 lU BZ hu;have k2:=JH.2 (f.offset+a.sz) oD d x.2 y.2 xs ys v S S2 hf (by omega) (by omega) (by omega) IK IL hv;simp only[Op.eqFields,if_pos gh,Sem.run_bind,q1,q2,Result.andThen_ok,k1,Sem.run_ite,Sem.run_pure,k2];cases u<;>simp
  ·cases he
end
def TW(op:BinOp)(b:Bool):M V :=
 match op with
 | .eql=>.ret (.d none 0 .bool b)
 | .neq=>.ret (.d none 0 .bool (!b))
 | _=>.fail
def HP(C:Ctx)(op:BinOp)(X:TypeId):V->V->M V
 | .d l n (.int k) x,.d l' n' (.int k') y=>if WC op=true then KT op k x y else if k=k' then JI op k x y else .fail
 | .d l n .str x,.d l' n' .str y=>K9 op x y
 | .d none n t x,.d none n' t' y=>if h:t'=t then if C.ty X=some t/\t.kV<10000/\t.depth=0 then match dA t x (h▸y)with
   | some b=>TW op b
   | none=>.fail
  else .fail else .fail
 | _,_=>.fail
def jD(C:Ctx):Option Operand->M (Option Int)
 | none=>.ret none
 | some x=>(cI C 0 x).bind λv=>match v with
  | .d _ _ (.int _) i=>.ret (some i)
  | _=>.fail
def Ic(C:Ctx)(src dst:TypeId)(v:V):M V :=
 match C.ty src,C.ty dst,v with
 | some (.int _),some (.int k),.d _ _ (.int _) n=>.ret (.d none 0 (.int k) (k.wrap n))
 | some .str,some .str,.d _ _ .str s=>.ret (.d none 0 .str s)
 | _,_,_=>.fail
def fB(vs:List Nat):V->Bool
 | .d (some r) _ _ _=>vs.contains r
 | .box (some r) _ _ _=>vs.contains r
 | .rp (some r) _ _=>vs.contains r
 | .ptr r _ _=>vs.contains r
 | .view r _ _=>vs.contains r
 | .hole _ _=>false
 | .part _ _ _ _ _=>false
 | .same r _=>vs.contains r
 | _=>true
def strOf(xs:List Int):ByteArray:=xs.foldl (λr n=>r.push (UInt8.ofNat n.toNat)) ByteArray.empty
def KF(C:Ctx)(o:Oper):M V :=
 match o.op with
 | .move x=>qs C o.type x
 | .pick c x y=>(cI C o.type c).bind λv=>match v with
  | .d _ _ .bool b=>match b with
   | true=>qs C o.type x
   | false=>qs C o.type y
  | _=>.fail
 | .alloc X=>Hx C X
 | .load X (.tmp t)=>.get t (J1 C X t)
 | .nilCheck (.tmp t)=>.get t (Yv t)
 | .fieldAddr X (.tmp t) f=>.get t (vA C X f t)
 | .indexAddr X (.tmp t) y=>(cI C 0 y).bind λv=>match v with
  | .d _ _ (.int _) i=>.get t (wN C X t i)
  | _=>.fail
 | .index X x y=>(cI C X x).bind λu=>(cI C 0 y).bind λv=>match u,v with
  | .d _ _ .str s,.d _ _ (.int _) i=>if C.ty X=some .str then .cJ (.int .u8) (nr s i) λb=>.ret (.d none 0 (.int .u8) b)else .fail
  | .d _ _ (.agg (.pair .unit t)) z,.d _ _ (.int _) i=>if pC C X=some (.pair .unit t)/\(sf t).depth=0 then .cJ (sf t) (ae (nj (sf t) t z.2) i) λy=>.ret (.d none 0 (sf t) y)else .fail
  | _,_=>.fail
 | .binOp op X x y _=>(cI C X x).bind λu=>(cI C X y).bind λv=>HP C op X u v
 | .unOp op X x=>(cI C X x).bind λu=>Lr op u
 | .convert src dst x=>match C.ty src,C.ty dst,x with
  | some (.slice _ (.int .u8)),some .str,.tmp t=>.get t λv=>(mF t v).bind λz=>match z.2 with
   | ⟨.slice _ (.int .u8),xs⟩=>.ret (.d none 0 .str (strOf xs))
   | _=>.fail
  | _,_,x=>(cI C src x).bind λu=>Ic C src dst u
 | .makeSlice X x y=>(cI C 0 x).bind λu=>(cI C 0 y).bind λv=>match u,v with
  | .d _ _ (.int _) n,.d _ _ (.int _) c=>J7 C X n c
  | _,_=>.fail
 | .slice X (.tmp t) lo hi none=>(jD C lo).bind λl=>(jD C hi).bind λh=>.get t λv=>tF C X t (l.getD 0) h v
 | .slice X (.const (.string sx)) lo hi none=>(jD C lo).bind λl=>(jD C hi).bind λh=>tF C X 0 (l.getD 0) h (.d none 0 .str sx)
 | .call c=>match c.callee,c.args.toList,c.argTypes.toList with
  | .builtin .len,[.tmp t],[X]=>match C.ty X with
   | some tx=>.get t (JZ tx t)
   | none=>.fail
  | _,_,_=>.fail
 | _=>.fail
section
variable{P:Program}{C:Ctx}{w w' w0:World}{S S':Nat->Prop}{L L' L0:Nat->aj}{s N:Nat}{vs:List Nat}{T T':List V}{tm tm':Array Value}{a:Act}
theorem qx{v:V}(h:fB vs v=true):∀r,v.on r=true->r∈vs:=by
 intro r hr;cases v with
 | d l n t x=>cases l<;>simp_all [V.on,V.root,fB]
 | box l n t x=>cases l<;>simp_all [V.on,V.root,fB]
 | rp l t x=>cases l<;>simp_all [V.on,V.root,fB]
 | ptr r p t=>simp_all [V.on,V.root,fB]
 | view r p t=>simp_all [V.on,V.root,fB]
 | hole v p=>simp[fB]at h
 | part _ _ _ _ _=>simp[fB]at h
 | same r t=>simp_all [V.on,V.root,fB]
 | bO _ _ _ _=>simp[V.on,V.root]at hr
 | dead=>simp[V.on,V.root]at hr
 | bF _=>simp[V.on,V.root]at hr
theorem M.ank{α:Type}{T:List V}{t:Nat}{k:V->M α}{b:α}(h:(M.get t k).ai T b log):∃aF,(k (T.getD t .dead)).ai T b aF:=by
 obtain⟨l,rfl,h⟩:=h;exact⟨l,h⟩
theorem YI[af](hI:Inv w0 L0 N vs T a w L){y:t.den}(hd:t.depth=0)(h:(cI C X x).ai T (.d none n t y) log):
  ∃cs,Form t cs (a.eval x)/\Rd w (SL L none) t y cs:=by
 have key:∀{s:Nat},aB L T a.tmps s (.d none n t y) w (a.eval x)->∃cs,Form t cs (a.eval x)/\Rd w (SL L none) t y cs:=by
  rintro s ⟨_,cs,hf,ho⟩
  exact⟨cs,hf,Own.eM (Own.bA (s':=0) (q':=[]) (o':=0) (n':=0) (.inr hd) ho (.inl rfl))⟩
 rcases kB hI h with⟨t,_,_,h⟩|⟨_,h⟩
 ·exact key h
 ·exact key (h L T a.tmps 0 w)
theorem amM[af](hI:Inv w0 L0 N vs T a w L)(hC:bD P C){Y:TypeId}{op:BinOp}{u r:V}{eS log2:List Nat}(ho:o.op = .binOp op X x y Y)
  (hx:(cI C X x).ai T u eS) (hy:(cI C X y).ai T v log2) (h:(HP C op X u v).ai T r log):aK P o vs T a w L d r:=by
 unfold HP at h;split at h
 ·split at h
  ·exact amZ hI ho (gN hI hx) (gN hI hy) h
  ·split at h
   ·rename_i hk;subst hk;exact amT hI ho (gN hI hx) (gN hI hy) h
   ·exact h.elim
 ·exact am3 hI ho (CW hI hx) (CW hI hy) h
 ·rename_i n t x' n' t' y' _ _;split at h
  ·rename_i ht;subst ht;split at h
   ·rename_i hc;obtain⟨hX,hh,hd⟩:=hc;split at h
    ·rename_i b he;obtain⟨jj,f1,r1⟩:=YI hI hd hx;obtain⟨cK,f2,r2⟩:=YI hI hd hy;have aN:=(ah2 (w:=w) hC t').1 X Op.maxDepth x' y' jj cK _ _ b _ _ hX hh f1 f2 r1 r2 he;have hg:(eqGuard op X x y (a.eval x) (a.eval y)).run P w = .ok () w:=by
      cases t' with
      | int k =>
       simp only[Rd]at r1;subst r1;obtain wJ:=(List.cons.inj f1).1;rw[<-wJ,eqGuard_at_int];rfl
      | bool =>
       simp only[Rd]at r1;subst r1;obtain wJ:=(List.cons.inj f1).1;rw[<-wJ,eqGuard_at_bool];rfl
      | str =>
       simp only[Rd]at r1;subst r1;obtain wJ:=(List.cons.inj f1).1;rw[<-wJ,eqGuard_at_string];rfl
      | raw z=>simp[dA]at he
      | cap k0 t0=>simp[dA]at he
      | unit=>simp[dA]at he
      | slice e t=>simp[dA]at he
      | pair a b=>exact ((hC X _ hX).b7).elim
      | agg t =>
       rw[f1.agg,f2.agg];have cQ:t.eJ=false:=by
        cases cQ:t.eJ with
        | false=>rfl
        | true =>
         unfold Ty.eJ at cQ;split at cQ
         ·simp[dA]at he
         ·cases cQ
       have hq:=((hC X _ hX).str cQ).2.2;cases op<;>simp[eqGuard,hq]
     have Jc:op = .eql\/op = .neq:=by cases op<;>simp_all [TW,M.ai]
     have Vw:∀c,((binOp op X (a.eval x) (a.eval y)).run P w = .ok c w)->(execOp a.eval o).run P w = .ok (.value c) w:=by
      intro c hc;simp[execOp,ho,hg,hc]
     have ef:∀(z1 z2:Value),Form t' jj z1->Form t' cK z2->(Op.equalIn Op.maxDepth X z1 z2).run P w = .ok b w ->
       ((binOp .eql X z1 z2).run P w = .ok (.bool b) w/\(binOp .neq X z1 z2).run P w = .ok (.bool !b) w):=by
      intro z1 z2 g1 g2 hr;cases t' with
      | int k =>
       simp only[Rd]at r1 r2;subst r1 r2;obtain rfl:=(List.cons.inj g1).1;obtain rfl:=(List.cons.inj g2).1;simp only[dA,Option.some.injEq]at he;subst he;constructor<;>simp[binOp,Op.intCmp];rfl
      | bool =>
       simp only[Rd]at r1 r2;subst r1 r2;obtain rfl:=(List.cons.inj g1).1;obtain rfl:=(List.cons.inj g2).1;constructor<;>simp[binOp,Op.equal,hr]
      | str =>
       simp only[Rd]at r1 r2;subst r1 r2;obtain rfl:=(List.cons.inj g1).1;obtain rfl:=(List.cons.inj g2).1;simp only[dA,Option.some.injEq]at he;subst he;constructor<;>simp[binOp,Op.stringOp]
      | raw z=>simp[dA]at he
      | cap k0 t0=>simp[dA]at he
      | unit=>simp[dA]at he
      | slice e t=>simp[dA]at he
      | pair a b=>exact ((hC X _ hX).b7).elim
      | agg t =>
       obtain rfl:=g1.agg;obtain rfl:=g2.agg;constructor<;>simp[binOp,Op.equal,hr]
     obtain⟨e1,e2⟩:=ef _ _ f1 f2 aN;rcases Jc with rfl|rfl
     ·obtain⟨rfl,_⟩:=h;exact aK.still hI (Vw _ e1) (λ_=>rfl) aB.gM
     ·obtain⟨rfl,_⟩:=h;exact aK.still hI (Vw _ e2) (λ_=>rfl) aB.gM
    ·exact h.elim
   ·exact h.elim
  ·exact h.elim
 ·exact h.elim
end
section
variable{P:Program}{C:Ctx}{w w' w0:World}{S S':Nat->Prop}{L L' L0:Nat->aj}{s N:Nat}{vs:List Nat}{T T':List V}{tm tm':Array Value}{a:Act}
theorem Yo[af](hI:Inv w0 L0 N vs T a w L){o:Oper}{d:Nat}(aN:(execOp a.eval o).run P w = .ok (.value (a.eval x)) w)(hid:(T.getD d .dead).idle=true)
  (h:(qs C o.type x).ai T v log) (bc:∀r,v.on r=true->r∈vs):aK P o vs T a w L d v:=by
 obtain⟨c,w',L',h1,h2,h3,h4,h5⟩:=YX (P:=P) (o:={ o with op:=.move x }) (d:=d) hI rfl hid h bc;have:(execOp a.eval { o with op:=.move x }).run P w = .ok (.value (a.eval x)) w:=by simp[execOp]
 rw[this]at h1;injection h1 with h1 fb;injection h1 with h1;subst h1 fb;exact⟨_,_,L',aN,h2,h3,h4,h5⟩
theorem YY[af](hI:Inv w0 L0 N vs T a w L){c:Operand}{b:Bool}(ho:o.op = .pick c x y)
  (hc:a.eval c = .bool b) (hid:(T.getD d .dead).idle=true) (h:(qs C o.type (if b=true then x else y)).ai T v log) (bc:∀r,v.on r=true->r∈vs):aK P o vs T a w L d v :=
 Yo hI (by cases b<;>simp[execOp,ho,hc,asBool]) hid h bc
theorem amO[af](hI:Inv w0 L0 N vs T a w L)(hC:bD P C){src dst:TypeId}{u:V}{log2:List Nat}(ho:o.op = .convert src dst x)
  (hx:(cI C src x).ai T u log) (h:(Ic C src dst u).ai T v log2):aK P o vs T a w L d v:=by
 unfold Ic at h;split at h
 ·rename_i k0 k l n k' m hs hd;obtain⟨rfl,_⟩:=h;have h1:=(hC _ _ hs).b7;have h2:=(hC _ _ hd).b7;refine aK.still hI ?_ (λ_=>rfl) aB.mkInt;simp[execOp,ho,gN hI hx,convert,run_underlying h1,run_underlying h2,Conv.intToInt]
 ·rename_i l n m hs hd;obtain⟨rfl,_⟩:=h;have h1:=(hC _ _ hs).b7;have h2:=(hC _ _ hd).b7;refine aK.still hI ?_ (λ_=>rfl) aB.mkStr;simp[execOp,ho,CW hI hx,convert,run_underlying h1,run_underlying h2]
 ·exact h.elim
theorem amN[af](hI:Inv w0 L0 N vs T a w L)(hC:bD P C){src dst e:TypeId}{t:Nat}(ho:o.op = .convert src dst (.tmp t))
  (hs:C.ty src=some (.slice e (.int .u8))) (hd:C.ty dst=some .str)
  (h:(M.get t λv=>(mF t v).bind λz=>match z.2 with
   | ⟨.slice _ (.int .u8),xs⟩=>M.ret (.d none 0 .str (strOf xs))
   | _=>.fail).ai T v log):aK P o vs T a w L d v:=by
 obtain⟨aF,rfl,h⟩:=h;have a7:=hI.aV t;obtain⟨⟨l,t2,x2⟩,l1,l2,rfl,h1,h2⟩:=M.an h;dsimp only at h2;split at h2
 ·rename_i e2 xs heq;obtain⟨rfl,_⟩:=h2;cases heq;obtain⟨cs,hf,hr,_⟩:=qB hI h1 a7 (λ_=>rfl);simp only[Rd]at hr;obtain⟨A,c,rfl,B5,hA,nw⟩:=hr;have hc:a.eval (.tmp t)=_:=((List.cons.inj hf).1).symm;obtain⟨hu,he⟩:=(hC _ _ hs).b7;have hue:=(hC _ _ he).b7;have nL:=(hC _ _ hd).b7;refine aK.still hI (c:=.string (strOf xs)) ?_ (λ_=>rfl) aB.mkStr;have key:(Conv.bytesToString (.slice A xs.length c)).run P w = .ok (.string (strOf xs)) w:=by
   cases A with
   | none =>
    obtain⟨rfl,_⟩:=hA rfl;simp[Conv.bytesToString,Sem.run_pure,strOf]
   | some ad =>
    refine run_bytesToString w ad xs.length c xs ?_;have ajs:∀(j:Nat) (v:Value),(xs.map (Value.int .u8))[j]?=some v->w.cell? (ad.add j)=some v:=by
     intro j v hv;rw[List.getElem?_map,Option.map_eq_some_iff]at hv;obtain⟨n,hn,rfl⟩:=hv;obtain⟨hj,hn⟩:=List.getElem?_eq_some_iff.1 hn;obtain⟨g,o,had,_,aiZ⟩:=nw (by rintro rfl;simp at hj);cases had;obtain⟨es,nv,lW⟩:=aiZ j hj;subst nv;have:=lW 0 _ rfl;rw[Addr.add_lit];simpa[Ty.sz,hn]using this
    have:=run_loadCells_list (P:=P) w ad (xs.map (Value.int .u8)) ajs;simpa using this
  simp only[execOp,ho,hc,run_convert_bytes_string w src dst e A xs.length c hu hue nL,Sem.run_bind,key,Result.andThen_ok,Sem.run_pure]
 ·exact h2.elim
theorem amQ[af](hI:Inv w0 L0 N vs T a w L)(hC:bD P C){sx:ByteArray}{k:IntKind}{i b:Int}(ho:o.op = .index X x y)
  (hX:C.ty X=some .str) (hx:a.eval x = .string sx) (hy:a.eval y = .int k i) (h:nr sx i=some b):aK P o vs T a w L d (.d none 0 (.int .u8) b):=by
 unfold nr at h;split at h
 ·rename_i h0;simp only[Option.map_eq_some_iff]at h;obtain⟨b0,hb,rfl⟩:=h;refine aK.still hI (c:=.int .u8 b0.toNat) ?_ (λ_=>rfl) aB.mkInt;have hu:=(hC X _ hX).b7;simp[execOp,ho,Instr.index,hx,hy,asIntOf,run_underlying hu,h0,hb]
 ·cases h
theorem amS[af](hI:Inv w0 L0 N vs T a w L)(hC:bD P C){j off:Nat}{k:IntKind}{t1:Ty}{z:t.den}{x1:t1.den}(ho:o.op = .index X x y)
  (hX:pC C X=some t) (hx:(cI C X x).ai T (.d l n (.agg t) z) log) (hy:a.eval y = .int k (j:Int)) (hc:comp (j+1) t z=some (off,⟨t1,x1⟩)) (hd:t1.depth=0):aK P o vs T a w L d (.d none 0 t1 x1):=by
 unfold pC at hX;split at hX
 ·rename_i t' ht;cases cQ:t'.eJ with
  | false=>rw[cQ]at hX;cases hX
  | true =>
  rw[cQ]at hX;injection hX with hX;subst hX;obtain⟨m,e,te,hu,he,IT,hn,vM,hb⟩:=((hC X _ ht).b7).resolve_left (λh=>by rw[cQ]at h;cases h.1) |>.2;have sF:=YV.Ul hc;have ax:=hb j _ sF;rw[vM j ax]at sF;simp only[Option.some.injEq,Prod.mk.injEq]at sF;obtain⟨rfl,rfl⟩:=sF;have dK:∃s0,aB L T a.tmps s0 (.d l n (.agg t') z) w (a.eval x):=by
   rcases kB hI hx with⟨s,_,_,hs⟩|⟨_,hs⟩
   ·exact⟨s,hs⟩
   ·exact⟨0,hs _ _ _ _ _⟩
  obtain⟨s0,_,cs,hf,bP⟩:=dK;have cV:=hf.agg;simp only[Own]at bP;obtain⟨h5,h6⟩:=vq hc bP;have hlen:=bP.len;obtain⟨c,eu,dJ⟩:=xn (w:=w) (xs:=cs.toArray) (off:=j*te.sz) hC he (by simp[hlen];omega) (Own.eM (Own.flat (n':=0) (L':=L) (S':=SL L none) (s':=0) (q':=[]) (o':=0) hd h6));refine aK.still hI (c:=c) ?_ (λ_=>rfl) ⟨by simp,_,dJ,Own.flat hd h6⟩;have hs:=(hC _ _ he).run_sizeOf (w:=w);simp[execOp,ho,Instr.index,cV,hy,asIntOf,run_underlying hu,ax,hs,eu]
 ·cases hX
theorem nW[af](hI:Inv w0 L0 N vs T a w L){x:Option Operand}{r:Option Int}(h:(jD C x).ai T r log):
  (x=none/\r=none)\/∃y k i,x=some y/\r=some i/\a.eval y = .int k i:=by
 cases x with
 | none=>obtain⟨rfl,_⟩:=h;exact .inl ⟨rfl,rfl⟩
 | some y =>
  obtain⟨u,l1,l2,rfl,h1,h2⟩:=M.an h;split at h2
  ·obtain⟨rfl,_⟩:=h2;exact .inr ⟨y,_,_,rfl,rfl,gN hI h1⟩
  ·exact h2.elim
theorem C9{e:TypeId}{te:Ty}(hu:P.underlying X=some (.slice e))(hs:(sizeOf e).run P w = .ok te.sz w){A:Option Addr}{len cap:Nat}{lo hi:Option Value}{l h:Int}
  (hl:(lo=none/\l=0)\/∃k,lo=some (.int k l)) (hh:(hi=none/\h=len)\/∃k,hi=some (.int k h)) (h0:0<=l) (h1:l<=h) (h2:h<=len) (h3:len<=cap) :
  (Instr.sliceAt X (.slice A len cap) lo hi none).run P w = .ok (.slice (if cap=l.toNat then A else A.map (·.add (l.toNat*te.sz))) (h.toNat - l.toNat) (cap - l.toNat)) w:=by
 have hb:(Instr.sliceBounds true len cap lo hi none).run P w = .ok (l.toNat,h.toNat,cap) w:=by
  unfold Instr.sliceBounds;rcases hl with⟨rfl,rfl⟩|⟨k,rfl⟩<;>rcases hh with⟨rfl,rfl⟩|⟨k',rfl⟩
  ·simp
  ·simp only[Instr.sliceBound,asIntOf,Sem.run_bind,Sem.run_pure,Result.andThen_ok,Sem.run_ite];rw[if_pos ⟨by omega,by omega⟩];simp
  ·simp only[Instr.sliceBound,asIntOf,Sem.run_bind,Sem.run_pure,Result.andThen_ok,Sem.run_ite];rw[if_pos ⟨by omega,by omega⟩];simp
  ·simp only[Instr.sliceBound,asIntOf,Sem.run_bind,Sem.run_pure,Result.andThen_ok,Sem.run_ite];rw[if_pos ⟨by omega,by omega⟩];simp only[Result.andThen_ok];rw[if_pos ⟨by omega,by omega⟩];simp
 simp[Instr.sliceAt,Instr.slice,run_underlying hu,hb,hs]
theorem Zd(hu:P.underlying X=some .string){sx:ByteArray}{lo hi:Option Value}{l h:Int}
  (hl:(lo=none/\l=0)\/∃k,lo=some (.int k l)) (hh:(hi=none/\h=sx.size)\/∃k,hi=some (.int k h)) (h0:0<=l) (h1:l<=h) (h2:h<=sx.size) :
  (Instr.sliceAt X (.string sx) lo hi none).run P w = .ok (.string (sx.extract l.toNat h.toNat)) w:=by
 have hb:(Instr.sliceBounds false sx.size sx.size lo hi none).run P w = .ok (l.toNat,h.toNat,sx.size) w:=by
  unfold Instr.sliceBounds;rcases hl with⟨rfl,rfl⟩|⟨k,rfl⟩<;>rcases hh with⟨rfl,rfl⟩|⟨k',rfl⟩
  ·simp
  ·simp only[Instr.sliceBound,asIntOf,Sem.run_bind,Sem.run_pure,Result.andThen_ok,Sem.run_ite];rw[if_pos ⟨by omega,by omega⟩];simp
  ·simp only[Instr.sliceBound,asIntOf,Sem.run_bind,Sem.run_pure,Result.andThen_ok,Sem.run_ite];rw[if_pos ⟨by omega,by omega⟩];simp
  ·simp only[Instr.sliceBound,asIntOf,Sem.run_bind,Sem.run_pure,Result.andThen_ok,Sem.run_ite];rw[if_pos ⟨by omega,by omega⟩];simp only[Result.andThen_ok];rw[if_pos ⟨by omega,by omega⟩];simp
 simp[Instr.sliceAt,Instr.slice,run_underlying hu,hb]
theorem nX{x:Option Operand}{r:Option Int}{z:Int}(h:(x=none/\r=none)\/∃y k i,x=some y/\r=some i/\a.eval y = .int k i):
  (x.map a.eval=none/\r.getD z=z)\/∃k,x.map a.eval=some (.int k (r.getD z)):=by
 rcases h with⟨rfl,rfl⟩|⟨y,k,i,rfl,rfl,h⟩
 ·exact .inl ⟨rfl,rfl⟩
 ·exact .inr ⟨k,by simp[h]⟩
theorem am1[af](hI:Inv w0 L0 N vs T a w L)(hC:bD P C){sx:ByteArray}{lo hi:Option Operand}{l h:Option Int}{l1 l2:List Nat}(ho:o.op = .slice X (.const (.string sx)) lo hi none)
  (hl:(jD C lo).ai T l l1) (hh:(jD C hi).ai T h l2)
  (hr:(tF C X 0 (l.getD 0) h (.d none 0 .str sx)).ai T v log):aK P o vs T a w L d v:=by
 have el:=nX (z:=0) (nW hI hl);have eh:=λz=>nX (z:=z) (nW hI hh);have key:∀c,(Instr.sliceAt X (.string sx) (lo.map a.eval) (hi.map a.eval) none).run P w = .ok c w->(execOp a.eval o).run P w = .ok (.value c) w:=by
  intro c hc;have cV:a.eval (.const (.string sx)) = .string sx:=rfl;simp[execOp,ho,cV,hc]
 simp only[tF]at hr;split at hr
 ·rename_i hX;obtain⟨hc,rfl,_⟩:=hr;simp only[Bool.and_eq_true,decide_eq_true_eq]at hc;obtain⟨⟨h0,h1⟩,h2⟩:=hc;have aN:=Zd (P:=P) (w:=w) (hC X _ hX).b7 (sx:=sx) el (eh (sx.size:Int)) h0 h1 h2;exact aK.still hI (key _ aN) (λ_=>rfl) aB.mkStr
 ·exact hr.elim
theorem am0[af](hI:Inv w0 L0 N vs T a w L)(hC:bD P C){t:Nat}{lo hi:Option Operand}{l h:Option Int}{l1 l2:List Nat}(ho:o.op = .slice X (.tmp t) lo hi none)
  (hid:(T.getD d .dead).idle=true) (hl:(jD C lo).ai T l l1) (hh:(jD C hi).ai T h l2)
  (hr:(tF C X t (l.getD 0) h (T.getD t .dead)).ai T v log) (bc:∀r,v.on r=true->r∈vs):aK P o vs T a w L d v:=by
 have hs:=hI.aV t;have el:=nX (z:=0) (nW hI hl);have eh:=λz=>nX (z:=z) (nW hI hh);have key:∀c,(Instr.sliceAt X (a.eval (.tmp t)) (lo.map a.eval) (hi.map a.eval) none).run P w = .ok c w->(execOp a.eval o).run P w = .ok (.value c) w:=by
  intro c hc;simp[execOp,ho,hc]
 unfold tF at hr;split at hr
 ·rename_i l0 n sx hv;rw[hv]at hs;split at hr
  ·rename_i hX;obtain⟨hc,rfl,_⟩:=hr;simp only[Bool.and_eq_true,decide_eq_true_eq]at hc;obtain⟨⟨h0,h1⟩,h2⟩:=hc;have IY:a.eval (.tmp t)=_:=hs.str;have aN:=Zd (P:=P) (w:=w) (hC X _ hX).b7 (sx:=sx) el (eh (sx.size:Int)) h0 h1 h2;rw[<-IY]at aN;exact aK.still hI (key _ aN) (λ_=>rfl) aB.mkStr
  ·exact hr.elim
 ·obtain⟨⟨lr,t2,x2⟩,l3,l4,rfl,h1,h2⟩:=M.an hr;split at h2
  ·rename_i z l' e te xs he;cases he;split at h2
   ·rename_i gn;obtain⟨hc,rfl,_⟩:=h2;simp only[Bool.and_eq_true,decide_eq_true_eq]at hc;obtain⟨⟨h0,fb⟩,BY⟩:=hc;obtain⟨cs,hf,bC,cD⟩:=qB hI h1 hs (λ_=>rfl);simp only[Rd]at bC;obtain⟨A,cp,rfl,k1,k2,k3⟩:=bC;have IY:a.eval (.tmp t)=_:=((List.cons.inj hf).1).symm;unfold o6 at gn;split at gn
    ·rename_i e' Dh hX;injection gn with gn;subst gn;obtain⟨hu,he⟩:=(hC X _ hX).b7;have aN:=C9 (te:=Dh) hu ((hC _ _ he).run_sizeOf (w:=w)) (A:=A) (len:=xs.length) (cap:=cp) el (eh (xs.length:Int)) h0 fb BY k1;rw[<-IY]at aN;refine⟨_,w,L,key _ aN,eo.refl hI d,λk q hk h=>(by rw[hI.free k hk]at h;cases h),bc,λr hr=>?_,_,rfl,?_⟩
     ·have:=cD r hr;rw[aH,if_neg (λh=>df hid (V.fj this) h.1)];exact this
     ·simp only[Own,Rd];generalize hlo:(l.getD 0)=mw at *
      generalize hhi:(h.getD (xs.length:Int))=sJ at *
      refine⟨if cp=mw.toNat then A else A.map (λx=>x.add (mw.toNat*Dh.sz)),cp - mw.toNat,?_,?_,?_,?_⟩
      ·simp only[List.length_drop,List.length_take];rw[Nat.min_eq_left (by omega)]
      ·simp only[List.length_drop,List.length_take];omega
      ·intro hA;have:A=none:=by
        split at hA
        ·exact hA
        ·simpa using hA
       obtain⟨rfl,rfl⟩:=k2 this;simp
      ·intro hx;have jx:xs≠[]:=by rintro rfl;simp at hx
       obtain⟨g,o',rfl,hS,nw⟩:=k3 jx;have hlen:mw.toNat<xs.length:=by
        rcases Nat.lt_or_ge mw.toNat xs.length with h|h
        ·exact h
        ·exact absurd (List.drop_eq_nil_of_le (by simp;omega)) hx
       refine⟨g,o'+mw.toNat*Dh.sz,?_,hS,λj hj=>?_⟩
       ·rw[if_neg (by omega)];simp[Addr.add_lit]
       ·simp only[List.length_drop,List.length_take]at hj;obtain⟨es,nv,lW⟩:=nw (mw.toNat+j) (by omega);refine⟨es,by simpa using nv,λi v hv=>?_⟩;have:=lW i v hv;rw[Nat.add_mul]at this;rw[<-this];congr 2;omega
    ·cases gn
   ·exact h2.elim
  ·exact h2.elim
theorem am2[af](hI:Inv w0 L0 N vs T a w L)(hC:bD P C)(hid:(T.getD d .dead).idle=true)(bc:∀r,v.on r=true->r∈vs)
  (h:(KF C o).ai T v log):aK P o vs T a w L d v:=by
 unfold KF at h;split at h
 ·rename_i x ho;exact YX hI ho hid h bc
 ·rename_i c x y ho;obtain⟨u,l1,l2,rfl,h1,h2⟩:=M.an h;split at h2
  ·rename_i l n b;split at h2
   ·exact YY hI ho (Kw hI h1) hid h2 bc
   ·exact YY hI ho (Kw hI h1) hid h2 bc
  ·exact h2.elim
 ·rename_i X ho;exact amL hI hC ho h
 ·rename_i X t ho;exact amV hI hC ho hid h bc
 ·rename_i t ho;exact amX hI ho hid h bc
 ·rename_i X t f ho;exact YV hI hC ho hid h bc
 ·rename_i X t y ho;obtain⟨u,l1,l2,rfl,h1,h2⟩:=M.an h;split at h2
  ·exact amR (Y:=0) hI hC ho (gN hI h1) hid h2 bc
  ·exact h2.elim
 ·rename_i X x y ho;obtain⟨u,l1,l2,rfl,h1,h2⟩:=M.an h;obtain⟨u2,l3,l4,rfl,h3,h4⟩:=M.an h2;split at h4
  ·split at h4
   ·rename_i hX;obtain⟨b,hb,rfl,_⟩:=h4;exact amQ hI hC ho hX (CW hI h1) (gN hI h3) hb
   ·exact h4.elim
  ·rename_i l n t z l' n' k i;split at h4
   ·rename_i hX;obtain⟨hX,hd⟩:=hX;obtain⟨y0,jy,rfl,_⟩:=h4;obtain⟨hj,jY,rfl⟩:=lT jy;obtain⟨off,hc⟩:=UC (List.getElem?_eq_getElem hj);have dJ:comp (i.toNat+1) (.pair .unit t) z=some (0+off,⟨sf t,(nj (sf t) t z.2)[i.toNat]⟩):=by simp[comp,hc,Ty.sz]
    exact amS hI hC ho hX h1 (by rw[gN hI h3,Int.toNat_of_nonneg jY]) dJ hd
   ·exact h4.elim
  ·exact h4.elim
 ·rename_i op X x y Y ho;obtain⟨u,l1,l2,rfl,h1,h2⟩:=M.an h;obtain⟨u2,l3,l4,rfl,h3,h4⟩:=M.an h2;exact amM hI hC ho h1 h3 h4
 ·rename_i op X x ho;obtain⟨u,l1,l2,rfl,h1,h2⟩:=M.an h;exact am4 hI ho h1 h2
 ·rename_i src dst x ho;split at h
  ·rename_i e t hs hd;exact amN hI hC ho hs hd h
  ·obtain⟨u,l1,l2,rfl,h1,h2⟩:=M.an h;exact amO hI hC ho h1 h2
 ·rename_i X x y ho;obtain⟨u,l1,l2,rfl,h1,h2⟩:=M.an h;obtain⟨u2,l3,l4,rfl,h3,h4⟩:=M.an h2;split at h4
  ·exact amW hI hC ho (gN hI h1) (gN hI h3) h4
  ·exact h4.elim
 ·rename_i X t lo hi ho;obtain⟨u,l1,l2,rfl,h1,h2⟩:=M.an h;obtain⟨u2,l3,l4,rfl,h3,h4⟩:=M.an h2;obtain⟨l5,h5⟩:=M.ank h4;exact am0 hI hC ho hid h1 h3 h5 bc
 ·rename_i X sx lo hi ho;obtain⟨u,l1,l2,rfl,h1,h2⟩:=M.an h;obtain⟨u2,l3,l4,rfl,h3,h4⟩:=M.an h2;exact am1 hI hC ho h1 h3 h4
 ·rename_i c ho;split at h
  ·rename_i t X h1 h2 h3;split at h
   ·rename_i tx hX;have me:o.op = .call { callee:=.builtin .len,args:=#[.tmp t],argTypes:=#[X] }:=by
     rw[ho];obtain⟨c1,c2,c3⟩:=c;simp only at h1 h2 h3;subst h1;congr 2<;>apply Array.ext'<;>simpa
    exact amU hI hC me hX h
   ·exact h.elim
  ·exact h.elim
 ·exact h.elim
end
def eN(f:Nat->List Nat->aj):aj->aj
 | .own s q=>f s q
 | x=>x
def aS(f:Nat->List Nat->aj)(w:World)(L nl:Nat->aj):Nat->aj:=λk=>if k<w.heap.size then eN f (L k)else nl k
section
variable{P:Program}{C:Ctx}{w w' w0:World}{S S':Nat->Prop}{L L' L0:Nat->aj}{s N:Nat}{vs:List Nat}{T T':List V}{tm tm':Array Value}{a:Act}
theorem eV{f:Nat->List Nat->aj}{l:aj}{s:Nat}(h:eN f l = .own s q):∃s0 q0,l = .own s0 q0/\f s0 q0 = .own s q:=by
 cases l with
 | own s0 q0=>exact⟨s0,q0,rfl,h⟩
 | aq=>cases h
 | free=>cases h
 | other=>cases h
structure fF (f:Nat->List Nat->aj) (X:Nat->Prop):Prop where
 id:∀s q,¬X s->f s q = .own s q
 to:∀s q s' q',X s->f s q = .own s' q'->X s'
 inj:∀s q s2 q2 s' q',f s q = .own s' q'->f s2 q2 = .own s' q'->s=s2/\q=q2
 nf:∀s q,f s q ≠ .free
structure Wd (w w':World) (L nl:Nat->aj) (X:Nat->Prop):Prop where
 os:w'.os=w.os
 tape:w'.tape=w.tape
 output:w'.output=w.output
 size:w.heap.size<=w'.heap.size
 drawn:w.drawn<=w'.drawn
 old:∀k,k<w.heap.size->(∀s q,L k = .own s q->¬X s)->w'.heap[k]?=w.heap[k]?
 free:∀k,w'.heap.size<=k->nl k = .free
 new:∀k s q,w.heap.size<=k->nl k = .own s q->X s
theorem Wd.refl[af](hI:Inv w0 L0 N vs T a w L)(X:Nat->Prop):Wd w w L (λ_=>.free) X :=
 ⟨rfl,rfl,rfl,Nat.le_refl _,Nat.le_refl _,λ_ _ _=>rfl,λ_ _=>rfl,λ_ _ _ _ h=>(by cases h)⟩
theorem cX[af]{f:Nat->List Nat->aj}{nl:Nat->aj}(hI:Inv w0 L0 N vs T a w L)(h:L k ≠ .free):aS f w L nl k=eN f (L k):=by
 unfold aS;rw[if_pos (hI.lt h)]
theorem w7[af]{f:Nat->List Nat->aj}{nl:Nat->aj}{X:Nat->Prop}(hI:Inv w0 L0 N vs T a w L)(hf:fF f X){s:Nat}(h:L k = .own s q)(hs:¬X s):
  aS f w L nl k = .own s q:=by
 rw[cX hI (by rw[h];simp),h];simp[eN,hf.id s q hs]
theorem ez[af]{f:Nat->List Nat->aj}{nl:Nat->aj}(hI:Inv w0 L0 N vs T a w L)(h:L k = .aq):aS f w L nl k = .aq:=by
 rw[cX hI (by rw[h];simp),h];rfl
theorem Inv.gP[af]{a':Act}{f:Nat->List Nat->aj}{X:Nat->Prop}{nl:Nat->aj}(hI:Inv w0 L0 N vs T a w L)(hf:fF f X)(hw:Wd w w' L nl X)
  (gj:∀k k' s q,w.heap.size<=k->nl k = .own s q->aS f w L nl k' = .own s q->k=k')
  (bp:a'.tmps.size=N) (hlen:T'.length=N) (IZ:a'.defers=[])
  (bw:∀k s q,X s->aS f w L nl k = .own s q->(T'.getD s .dead).aL=true)
  (ag:∀s r,¬X s->(T.getD s .dead).on r=true->X r->(T.getD r .dead).aL=false)
  (fJ:∀s,¬X s->T'.getD s .dead=T.getD s .dead/\a'.tmps.getD s undef=a.tmps.getD s undef)
  (Jn:∀s r,X s->(T'.getD s .dead).on r=true->r∈vs)
  (hX:∀s,X s->aB (aS f w L nl) T' a'.tmps s (T'.getD s .dead) w' (a'.tmps.getD s undef)):Inv w0 L0 N vs T' a' w' (aS f w L nl):=by
 refine Inv.upd X hI bp hlen IZ ?_ ?_ ?_ ?_ ?_ fJ ?_ ?_ hX
 ·refine⟨hw.os.trans hI.fr.os,hw.tape.trans hI.fr.tape,hw.output.trans hI.fr.output,Nat.le_trans hI.fr.size hw.size,Nat.le_trans hI.fr.drawn hw.drawn,λk hk h0=>?_,hI.fr.hG⟩;have h1:=hI.fr.aR k hk h0;have ax:k<w.heap.size:=Nat.lt_of_lt_of_le hk hI.fr.size;constructor
  ·unfold aS;rw[if_pos ax,h1.1];rcases h0 with h0|h0<;>rw[h0]<;>rfl
  ·rw[hw.old k ax,h1.2];intro s q hq;rw[h1.1]at hq;rcases h0 with h0|h0<;>rw[h0]at hq<;>cases hq
 ·intro k hk;unfold aS;rw[if_neg (by have:=hw.size;omega)];exact hw.free k hk
 ·intro k k' s q h h';by_cases hk:k<w.heap.size
  ·by_cases aI:k'<w.heap.size
   ·unfold aS at h h';rw[if_pos hk]at h;rw[if_pos aI]at h';obtain⟨s0,q0,e0,f0⟩:=eV h;obtain⟨s1,q1,e1,f1⟩:=eV h';obtain⟨rfl,rfl⟩:=hf.inj _ _ _ _ _ _ f0 f1;exact hI.inj k k' _ _ e0 e1
   ·have h2:nl k' = .own s q:=by unfold aS at h';rwa [if_neg aI]at h'
    exact (gj k' k s q (by omega) h2 h).symm
  ·have h2:nl k = .own s q:=by unfold aS at h;rwa [if_neg hk]at h
   exact gj k k' s q (by omega) h2 h'
 ·intro k s q h;by_cases hs:X s
  ·exact bw k s q hs h
  ·rw[(fJ s hs).1];unfold aS at h;split at h
   ·obtain⟨s0,q0,e0,f0⟩:=eV h;by_cases h0:X s0
    ·exact absurd (hf.to _ _ _ _ h0 f0) hs
    ·rw[hf.id s0 q0 h0]at f0;injection f0 with f0 f1;subst f0 f1;exact hI.owner k _ _ e0
   ·exact absurd (hw.new k s q (by omega) h) hs
 ·intro s hs k hk;have ax:k<w.heap.size:=hI.lt (by rcases hk with hk|⟨r,q,hk,_⟩<;>rw[hk]<;>simp);rcases hk with hk|⟨r,q,hk,hr⟩
  ·refine⟨by rw[ez hI hk,hk],hw.old k ax λs q h=>?_⟩;rw[hk]at h;cases h
  ·have B3:¬X r:=by
    rcases hr with rfl|hr
    ·exact hs
    ·intro hx;have h1:=ag s r hs hr hx;rw[hI.owner k r q hk]at h1;cases h1
   refine⟨by rw[w7 hI hf hk B3,hk],hw.old k ax λs q h=>?_⟩;rw[hk]at h;injection h with h _;subst h;exact B3
 ·intro s r h;by_cases hs:X s
  ·exact Jn s r hs h
  ·rw[(fJ s hs).1]at h;exact hI.roots s r h
 ·intro s r hs hr ho;have B3:¬X r:=λhx=>by
   rw[ag s r hs hr hx]at ho;cases ho
  exact fJ r B3
def cut:List Nat->List Nat->Option (List Nat)
 | [],z=>some z
 | x::q,y::z=>if x=y then cut q z else none
 | _::_,[]=>none
theorem nh(q z:List Nat):cut q (q++z)=some z:=by
 induction q with
 | nil=>rfl
 | cons x q ih=>simp[cut,ih]
theorem ow{z y:List Nat}(h:cut q z=some y):z=q++y:=by
 induction q generalizing z with
 | nil=>simp only[cut,Option.some.injEq]at h;rw[h];rfl
 | cons x q ih =>
  cases z with
  | nil=>simp[cut]at h
  | cons y' z =>
   simp only[cut]at h;split at h
   ·rename_i he;rw[he,ih h];rfl
   ·cases h
def iq(r:Nat)(q:List Nat)(o sz m d:Nat):Nat->List Nat->aj:=λs z =>
 if s=r then match cut q z with
  | some (y::rest)=>if o<=y/\y<o+sz then (if rest.length<m then .own d ((y - o)::rest)else .aq)else .other
  | _=>.other
 else if s=d then .other else .own s z
theorem qu[af]{o sz:Nat}{s:Nat}{z:List Nat}{s':Nat}{z':List Nat}(hh:iq r q o sz m d s z = .own s' z'):
  (s=r/\∃i rest,z=q++(o+i)::rest/\s'=d/\z'=i::rest)\/(s≠d/\s≠r/\s'=s/\z'=z):=by
 unfold iq at hh;split at hh
 ·rename_i hs;subst hs;split at hh
  ·rename_i y0 rest hc;split at hh
   ·rename_i hb;split at hh
    ·injection hh with h1 h2;refine .inl ⟨rfl,y0 - o,rest,?_,h1.symm,h2.symm⟩;rw[ow hc];congr 2;omega
    ·cases hh
   ·cases hh
  ·cases hh
 ·split at hh
  ·cases hh
  ·rename_i lb ed;injection hh with h1 h2;exact .inr ⟨ed,lb,h1.symm,h2.symm⟩
theorem Yt[af]{o sz:Nat}(h:r≠d):fF (iq r q o sz m d) (λs=>s=r\/s=d):=by
 refine⟨λs q hs=>?_,λs q s' q' hs h=>?_,λs z s2 z2 s' z' h1 h2=>?_,λs z=>?_⟩
 ·have:=not_or.1 hs;simp[iq,this]
 ·rcases qu h with⟨_,_,_,_,rfl,_⟩|⟨h1,h2,_⟩
  ·exact .inr rfl
  ·exact absurd hs (not_or.2 ⟨h2,h1⟩)
 ·rcases qu h1 with⟨rfl,i,rest,rfl,rfl,rfl⟩|⟨hs,hr,rfl,rfl⟩
  ·rcases qu h2 with⟨rfl,i2,KL,rfl,_,h4⟩|⟨ed,mi,h3,_⟩
   ·injection h4 with h4 h5;subst h4 h5;exact⟨rfl,rfl⟩
   ·exact absurd h3.symm ed
  ·rcases qu h2 with⟨rfl,i2,KL,rfl,h3,_⟩|⟨ed,mi,h3,h4⟩
   ·exact absurd h3 hs
   ·exact⟨h3,h4⟩
 ·unfold iq
  repeat' split
  all_goals simp
theorem amj[af]{o sz:Nat}{rest:List Nat}(h:i<sz):iq r q o sz m d r (q++(o+i)::rest)=if rest.length<m then .own d (i::rest)else .aq:=by
 unfold iq;rw[if_pos rfl,nh];simp only;rw[if_pos ⟨by omega,by omega⟩,show o+i - o=i by omega]
theorem Own.taken[af]{o:Nat}{x:t.den}{nl:Nat->aj}{S:Nat->Prop}(hm:m<=n)(hI:Inv w0 L0 N vs T a w L)
  (hS:∀k,S k->L k = .aq) (h:Own w L S r n t x q o cs):Own w (aS (iq r q o t.sz m d) w L nl) (SL (aS (iq r q o t.sz m d) w L nl) none) d m t x [] 0 cs :=
 Own.fi hm (λk hk=>⟨.inl (ez hI (hS k hk)),rfl⟩) (λk i rest hi hk=>by
  have:aS (iq r q o t.sz m d) w L nl k=if rest.length<m then .own d (i::rest)else .aq:=(cX hI (by rw[hk];simp)).trans (by rw[hk];exact amj hi)
  refine⟨rfl,λh=>?_,λh=>.inl ?_⟩
  ·rw[this,if_pos h];simp
  ·rw[this,if_neg (by omega)]) h
end
def kE(r d:Nat):Nat->List Nat->aj:=λs z=>if s=r then .own d z else if s=d then .other else .own s z
def ko(kp:Nat->V->Bool)(T:List V):List V:=T.mapIdx λs v=>if kp s v then .dead else v
def XN(kp:Nat->V->Bool)(T:List V):Bool :=
 (T.mapIdx λs v=>kp s v||((match v.root with
  | none=>true
  | some r => !(kp r (T.getD r .dead)&&(T.getD r .dead).aL)))).all id
def nT(r s:Nat)(T:List V):Bool:=(T.mapIdx λs' v=>s'==s||v.root != some r).all id
section
variable{P:Program}{C:Ctx}{w w' w0:World}{S S':Nat->Prop}{L L' L0:Nat->aj}{s N:Nat}{vs:List Nat}{T T':List V}{tm tm':Array Value}{a:Act}
theorem air(g:Nat->V->V)(hg:∀s,g s .dead = .dead)(T:List V)(s:Nat):(T.mapIdx g).getD s .dead=g s (T.getD s .dead):=by
 simp only[List.getD_eq_getElem?_getD,List.getElem?_mapIdx];cases T[s]?<;>simp[hg]
theorem Vb[af](kp:Nat->V->Bool)(T:List V)(s:Nat):(ko kp T).getD s .dead=if kp s (T.getD s .dead)=true then .dead else T.getD s .dead:=by
 unfold ko;rw[air _ (by intro s;split<;>rfl)]
theorem TI{g:Nat->V->Bool}{T:List V}(h:(T.mapIdx g).all id=true)(s:Nat)(hs:s<T.length):g s (T.getD s .dead)=true:=by
 rw[List.all_eq_true]at h;have:g s (T.getD s .dead)∈T.mapIdx g:=by
  rw[List.mem_iff_getElem?];refine⟨s,?_⟩;simp[List.getElem?_mapIdx,List.getElem?_eq_getElem hs]
 exact h _ this
theorem eF{T:List V}{s:Nat}(h:T.length<=s):T.getD s .dead = .dead:=by
 simp[List.getD_eq_getElem?_getD,List.getElem?_eq_none h]
theorem Inv.alW[af](hI:Inv w0 L0 N vs T a w L){kp:Nat->V->Bool}(h:XN kp T=true):∃L',Inv w0 L0 N vs (ko kp T) a w L':=by
 refine⟨_,Inv.kill hI (λs=>kp s (T.getD s .dead)) (by simp[ko,hI.len]) (λs=>Vb kp T s) (λs r hs mf kg=>?_)⟩;by_cases ax:s<T.length
 ·have h1:=TI h s ax;rw[hs,Bool.false_or]at h1;have hr:(T.getD s .dead).root=some r:=by simpa[V.on]using mf
  rw[hr]at h1;simp only[kg,Bool.and_true,Bool.not_eq_true']at h1;exact h1
 ·rw[eF (by omega)]at mf;simp[V.on,V.root]at mf
theorem Yw[af]{s:Nat}(h:nT r s T=true):∀s',s'≠s->(T.getD s' .dead).on r=false:=by
 intro s' hs;by_cases ax:s'<T.length
 ·have h1:=TI h s' ax;simp only[Bool.or_eq_true,beq_iff_eq,hs,false_or,bne_iff_ne]at h1;simpa[V.on]using h1
 ·rw[eF (by omega)];rfl
theorem Inv.take[af](hI:Inv w0 L0 N vs T a w L){s r n:Nat}{p:List St}{t:Ty}{x:t.den}{log:List Nat}(hs:T.getD s .dead = .view r p t)(b9:s<N)(hv:(qO p (T.getD r .dead)).ai T (none,⟨n,t,x⟩) log)
  (hn:n≠0) (hd:t.depth≠0) (cA:nT r s T=true):∃L',Inv w0 L0 N vs ((T.set r .dead).set s (.d none n t x)) a w L':=by
 have bt:=hI.aV s;rw[hs]at bt;obtain⟨cs,hf,bw,_,cD⟩:=Dq hI bt hv;have Wo:=V.fj cD;have iN:r≠s:=by
  rintro rfl
  rw[hs]at Wo;cases Wo
 have bI:((T.set r .dead).set s (.d none n t x)).getD s .dead = .d none n t x:=by
  rw[aH,if_pos ⟨rfl,by simp[hI.len,b9]⟩]
 have bE:((T.set r .dead).set s (.d none n t x)).getD r .dead = .dead:=by
  rw[aH,if_neg (λh=>iN h.1),aH];split
  ·rfl
  ·rename_i h;exact eF (Nat.le_of_not_lt λhl=>h ⟨rfl,hl⟩)
 refine⟨_,Inv.gP (f:=iq r (node [] 0 p).1 (node [] 0 p).2 t.sz n s) (X:=λz=>z=r\/z=s) (nl:=λ_=>.free) hI (Yt iN) (Wd.refl hI _) (λ_ _ _ _ _ h=>by cases h) hI.size (by simp[hI.len]) hI.dP ?_ ?_ ?_ ?_ ?_⟩
 ·intro k z q hz h;rcases hz with rfl|rfl
  ·unfold aS at h;split at h
   ·obtain⟨s0,q0,e0,f0⟩:=eV h;exfalso;rcases qu f0 with⟨_,_,_,_,h1,_⟩|⟨_,h1,h2,_⟩
    ·exact iN h1
    ·exact h1 h2.symm
   ·cases h
  ·rw[bI];simp[V.aL,hn,hd]
 ·intro z r' hz ag aW;rcases aW with rfl|rfl
  ·exact absurd ag (by rw[Yw cA z (λh=>hz (.inr h))];simp)
  ·rw[hs];rfl
 ·intro z hz;have bW:=not_or.1 hz;rw[aH,if_neg (λh=>bW.2 h.1),aH,if_neg (λh=>bW.1 h.1)];exact⟨rfl,rfl⟩
 ·intro z r' hz ag;rcases hz with rfl|rfl
  ·rw[bE]at ag;simp[V.on,V.root]at ag
  ·rw[bI]at ag;simp[V.on,V.root]at ag
 ·intro z hz;rcases hz with rfl|rfl
  ·rw[bE];trivial
  ·rw[bI];exact⟨by simp,cs,hf,Own.taken (Nat.le_refl _) hI (λk hk=>by
    rcases hk with hk|⟨_,_,hk,_⟩
    ·exact hk
    ·cases hk) bw⟩
theorem xk{s s':Nat}{z z':List Nat}(hh:kE r d s z = .own s' z'):(s=r/\s'=d/\z'=z)\/(s≠d/\s≠r/\s'=s/\z'=z):=by
 unfold kE at hh;split at hh
 ·injection hh with h1 h2;exact .inl ⟨by assumption,h1.symm,h2.symm⟩
 ·split at hh
  ·cases hh
  ·injection hh with h1 h2;exact .inr ⟨by assumption,by assumption,h1.symm,h2.symm⟩
theorem Y5[af](h:r≠d):fF (kE r d) (λs=>s=r\/s=d):=by
 refine⟨λs q hs=>?_,λs q s' q' hs h=>?_,λs z s2 z2 s' z' h1 h2=>?_,λs z=>?_⟩
 ·have:=not_or.1 hs;simp[kE,this]
 ·rcases xk h with⟨_,rfl,_⟩|⟨h1,h2,_⟩
  ·exact .inr rfl
  ·exact absurd hs (not_or.2 ⟨h2,h1⟩)
 ·rcases xk h1 with⟨rfl,rfl,rfl⟩|⟨hs,hr,rfl,rfl⟩
  ·rcases xk h2 with⟨rfl,_,h4⟩|⟨ed,mi,h3,_⟩
   ·exact⟨rfl,h4⟩
   ·exact absurd h3.symm ed
  ·rcases xk h2 with⟨rfl,h3,_⟩|⟨ed,mi,h3,h4⟩
   ·exact absurd h3 hs
   ·exact⟨h3,h4⟩
 ·unfold kE
  repeat' split
  all_goals simp
theorem nY[af]{nl:Nat->aj}(hI:Inv w0 L0 N vs T a w L)(h:L k = .own r q):aS (kE r d) w L nl k = .own d q:=by
 rw[cX hI (by rw[h];simp),h];simp[eN,kE]
theorem SL.rn[af]{nl:Nat->aj}(hI:Inv w0 L0 N vs T a w L)(bC:r≠d)(hr:l≠some r)(hd:l≠some d):∀k,SL L l k->SL (aS (kE r d) w L nl) l k/\w.heap[k]?=w.heap[k]?:=by
 rintro k (h|⟨s,q,rfl,h⟩)
 ·exact⟨.inl (ez hI h),rfl⟩
 ·refine⟨.inr ⟨s,q,rfl,w7 hI (Y5 bC) h (not_or.2 ⟨λe=>hr (by rw[e]),λe=>hd (by rw[e])⟩)⟩,rfl⟩
theorem eZ.rn[af]{nl:Nat->aj}(hI:Inv w0 L0 N vs T a w L)(bC:r≠d):{l:List (Nat×Option (Nat×(t:Ty)×t.den))}->{o:Nat}->{vs:List Value}->eZ w L r o l vs->eZ w (aS (kE r d) w L nl) d o l vs
 | [],_,_,h=>h
 | (sz,c)::l,o,vs,⟨v,jb,h1,h2,h3⟩=>⟨v,jb,h1,λn t x hc=>by
   obtain⟨h4,cs,h5,h6⟩:=h2 n t x hc;exact⟨h4,cs,h5,Own.move (SL.rn hI bC (by simp) (by simp)) (λk d rest _ hk=>⟨nY hI hk,rfl⟩) h6⟩,eZ.rn hI bC h3⟩
theorem cd.rn[af]{nl:Nat->aj}(hI:Inv w0 L0 N vs T a w L)(bC:r≠d):{t:Ty}->{m:Nat}->{x:t.den}->{o:Nat}->{cs:List Value}->cd w L r m t x o cs->cd w (aS (kE r d) w L nl) d m t x o cs:=by
 intro t;induction t with
 | pair a b _ ih =>
  intro m x o cs h;obtain⟨c0,c1,h1,h2,h3⟩:=h;exact⟨c0,c1,h1,Own.move (SL.rn hI bC (by simp) (by simp)) (λk d rest _ hk=>⟨nY hI hk,rfl⟩) h2,ih h3⟩
 | _=>intro m x o cs h;simp only[cd]at h ⊢;exact Own.move (SL.rn hI bC (by simp) (by simp)) (λk d rest _ hk=>⟨nY hI hk,rfl⟩) h
theorem fG.rn[af]{nl:Nat->aj}(hI:Inv w0 L0 N vs T a w L)(bC:r≠d){k0:Nat}{x:t.den}(h:fG w L r k0 n t x c):fG w (aS (kE r d) w L nl) d k0 n t x c:=by
 unfold fG at h ⊢;split at h
 ·rcases h with h|⟨g,cap,cur,h1,h2,h3,h4,h5,h6,h7⟩
  ·exact .inl h
  ·exact .inr ⟨g,cap,cur,h1,nY hI h2,h3,h4,h5,h6,λj hj hx=>Own.move (SL.rn hI bC (by simp) (by simp)) (λk d rest _ hk=>⟨nY hI hk,rfl⟩) (h7 j hj hx)⟩
 ·obtain⟨g,cur,e,h1,h2,h3,h4,h5⟩:=h;exact⟨g,cur,e,h1,nY hI h2,h3,h4,cd.rn hI bC h5⟩
 ·exact h.elim
theorem Inv.amg[af](hI:Inv w0 L0 N vs T a w L){t d:Nat}{v:V}(ht:T.getD t .dead=v)(hv:v.aL=true)(a7:∀u p,v ≠ .hole u p)(hpt:∀r i n t x,v ≠ .part r i n t x)(hd:d<N)(hid:(T.getD d .dead).idle=true)
  (cA:nT t t T=true) (mj:v.root≠some t) (bC:v.root≠some d):∃L',Inv w0 L0 N vs ((T.set t .dead).set d v) (a.put (some d) (a.tmps.getD t undef)) w L':=by
 have lf:t≠d:=df hid (by rw[ht];exact hv);have bT:((T.set t .dead).set d v).getD d .dead=v:=by rw[aH,if_pos ⟨rfl,by simp[hI.len,hd]⟩]
 have Vp:((T.set t .dead).set d v).getD t .dead = .dead:=by
  rw[aH,if_neg (λh=>lf h.1),aH];split
  ·rfl
  ·rename_i h;exact eF (Nat.le_of_not_lt λhl=>h ⟨rfl,hl⟩)
 refine⟨_,Inv.gP (f:=kE t d) (X:=λz=>z=t\/z=d) (nl:=λ_=>.free) hI (Y5 lf) (Wd.refl hI _) (λ_ _ _ _ _ h=>by cases h) (by simp[Act.put,hI.size]) (by simp[hI.len]) hI.dP ?_ ?_ ?_ ?_ ?_⟩
 ·intro k z q hz h;rcases hz with rfl|rfl
  ·unfold aS at h;split at h
   ·obtain⟨s0,q0,e0,f0⟩:=eV h;exfalso;rcases xk f0 with⟨_,h1,_⟩|⟨_,h1,h2,_⟩
    ·exact lf h1
    ·exact h1 h2.symm
   ·cases h
  ·rw[bT];exact hv
 ·intro z r' hz ag aW;rcases aW with rfl|rfl
  ·exact absurd ag (by rw[Yw cA z (λh=>hz (.inl h))];simp)
  ·exact V.kA hid
 ·intro z hz;have bW:=not_or.1 hz;rw[aH,if_neg (λh=>bW.2 h.1),aH,if_neg (λh=>bW.1 h.1)];refine⟨rfl,?_⟩;show (a.tmps.setIfInBounds d _).getD z undef=_;rw[dY,if_neg (λh=>bW.2 h.1)]
 ·intro z r' hz ag;rcases hz with rfl|rfl
  ·rw[Vp]at ag;simp[V.on,V.root]at ag
  ·rw[bT]at ag;exact hI.roots t r' (by rw[ht];exact ag)
 ·intro z hz;rcases hz with rfl|rfl
  ·rw[Vp];trivial
  ·rw[bT];show aB _ _ (a.tmps.setIfInBounds z (a.tmps.getD t undef)) z v w ((a.tmps.setIfInBounds z (a.tmps.getD t undef)).getD z undef);rw[dY,if_pos ⟨rfl,by rw[hI.size];exact hd⟩];have hs:=hI.aV t;rw[ht]at hs;have jW:∀r',v.root=some r'->(T.getD r' .dead).deep=true->(((T.set t .dead).set z v).getD r' .dead).deep=true:=by
    intro r' aW h;have h1:r'≠z:=df hid (V.fj h);have h2:r'≠t:=λe=>mj (by rw[aW,e]);rw[aH,if_neg (λh=>h1 h.1),aH,if_neg (λh=>h2 h.1)];exact h
   cases v with
   | d l n t' x =>
    obtain⟨h0,cs,hf,ho⟩:=hs;exact⟨λr hr=>jW r hr (h0 r hr),cs,hf,Own.move (SL.rn hI lf mj bC) (λk i rest _ hk=>⟨nY hI hk,rfl⟩) ho⟩
   | box l n t' x =>
    obtain⟨h0,g,cur,e,h1,h2,h3,h4,h5⟩:=hs;exact⟨λr hr=>jW r hr (h0 r hr),g,cur,e,h1,nY hI h2,h3,h4,Own.move (SL.rn hI lf mj bC) (λk i rest _ hk=>⟨nY hI hk,rfl⟩) h5⟩
   | bF l =>
    obtain⟨us,h1,h2⟩:=hs;exact⟨us,h1,eZ.rn hI lf h2⟩
   | hole u p=>exact absurd rfl (a7 u p)
   | part r i n t x=>exact absurd rfl (hpt r i n t x)
   | bO k n t' x=>exact fG.rn hI lf hs
   | same r t'=>cases hv
   | dead=>cases hv
   | rp _ _ _=>cases hv
   | ptr _ _ _=>cases hv
   | view _ _ _=>cases hv
end
structure Bd (t:Ty) where
 x:t.den
 n:Option Nat
 ms:List (Nat×Nat×Nat)
def th:Option Nat->Option Nat->Option Nat
 | none,y=>y
 | x,none=>x
 | some a,some b=>some (min a b)
def Kz(C:Ctx)(t:Ty)(o:Nat)(x:Operand):M (Bd t):=
 (cI C 0 x).bind λv=>match v with
 | .d none n t' y=>if h:t'=t then
   if t.depth=0 then .ret ⟨h▸y,none,[]⟩
   else if n=0 then .ret ⟨h▸y,some 0,[]⟩
   else match x with
    | .tmp s=>.ret ⟨h▸y,if t.depth<=n then none else some n,[(s,o,t.sz)]⟩
    | _=>.fail
  else .fail
 | _=>.fail
def pL(C:Ctx)(i o:Nat)(t:Ty)(parts:List (Nat×Operand)):M (Bd t×List (Nat×Operand)):=
 match parts with
 | (j,x)::rest=>if j=i then (Kz C t o x).bind λb=>.ret (b,rest)else .ret (⟨t.zero,none,[]⟩,parts)
 | []=>.ret (⟨t.zero,none,[]⟩,[])
def ou(C:Ctx):(i o:Nat)->(t:Ty)->List (Nat×Operand)->M (Bd t)
 | i,o,.pair a b,parts=>(pL C i o a parts).bind λp=>(ou C (i+1) (o+a.sz) b p.2).bind λr=>.ret ⟨(p.1.x,r.x),th p.1.n r.n,p.1.ms++r.ms⟩
 | i,o,t,parts=>(pL C i o t parts).bind λp=>if p.2.isEmpty then .ret p.1 else .fail
section
variable{P:Program}{C:Ctx}{w w' w0:World}{S S':Nat->Prop}{L L' L0:Nat->aj}{s N:Nat}{vs:List Nat}{T T':List V}{tm tm':Array Value}{a:Act}
def lK(L L':Nat->aj)(d:Nat)(q:List Nat)(o0 m:Nat)(ms:List (Nat×Nat×Nat)):Prop :=
 ∀src o sz,(src,o,sz)∈ms->∀k y rest,y<sz->L k = .own src (y::rest)->(rest.length<m->L' k = .own d (q++(o0+o+y)::rest))/\(m<=rest.length->L' k = .aq)
theorem amD[af](hI:Inv w0 L0 N vs T a w L){o:Nat}{x:Operand}{b:Bd t}(h:(Kz C t o x).ai T b log):
  ∃cs,Form t cs (a.eval x)/\(∀v∈cs,v.oneCell'=true)/\cs.length=t.sz/\(∀s o' sz,(s,o',sz)∈b.ms->o'=o/\sz=t.sz/\∃n,T.getD s .dead = .d none n t b.x/\n≠0/\t.depth≠0)/\b.ms.length<=1 /\
   ∀(L':Nat->aj) (w':World) d q o0 m,(∀n,b.n=some n->m<=n)->(∀k,L k = .aq->L' k = .aq)->(∀k,L k ≠ .free->w'.heap[k]?=w.heap[k]?)->lK L L' d q o0 m b.ms ->
    Own w' L' (SL L' none) d m t b.x q (o0+o) cs:=by
 obtain⟨v,l1,l2,rfl,h1,h2⟩:=M.an h;have wG:∀{L':Nat->aj} {w':World},(∀k,L k = .aq->L' k = .aq)->(∀k,L k ≠ .free->w'.heap[k]?=w.heap[k]?)->∀k,SL L none k->SL L' none k/\w'.heap[k]?=w.heap[k]?:=by
  intro L' w' hs hw k hk;rcases hk with hk|⟨_,_,hk,_⟩
  ·exact⟨.inl (hs k hk),hw k (by rw[hk];simp)⟩
  ·cases hk
 split at h2
 ·rename_i n t' y;split at h2
  ·rename_i ht;subst ht;have dK:∃s0,aB L T a.tmps s0 (.d none n t' y) w (a.eval x)/\(∀s,x = .tmp s->s0=s/\T.getD s .dead = .d none n t' y):=by
    have hc:∀{x:Operand},(cI C 0 x).ai T (.d none n t' y) l1->(∀s,x ≠ .tmp s)->∃s0,aB L T a.tmps s0 (.d none n t' y) w (a.eval x)/\(∀s,x = .tmp s->s0=s/\T.getD s .dead = .d none n t' y):=by
     intro x h1 hx;rcases kB hI h1 with⟨s,rfl,hv,hs⟩|⟨_,hs⟩
     ·exact absurd rfl (hx s)
     ·exact⟨0,hs _ _ _ _ _,λs he=>absurd he (hx s)⟩
    cases x with
    | tmp s =>
     obtain⟨_,_,hv,_⟩:=h1;refine⟨s,?_,λs' he=>by cases he;exact⟨rfl,hv.symm⟩⟩;rw[hv];exact hI.aV s
    | const c=>exact hc h1 (by simp)
    | func f=>exact hc h1 (by simp)
    | global g=>exact hc h1 (by simp)
   obtain⟨s0,⟨_,cs,hf,ho⟩,hx⟩:=dK;refine⟨cs,hf,Own.one ho,Own.len ho,?_⟩;split at h2
   ·rename_i hd;obtain⟨rfl,_⟩:=h2;refine⟨by simp,by simp,λL' w' d q o0 m _ hs hw _=>?_⟩;exact Own.flat hd ho
   ·rename_i hd;split at h2
    ·rename_i hn;subst hn;obtain⟨rfl,_⟩:=h2;refine⟨by simp,by simp,λL' w' d q o0 m hm hs hw _=>?_⟩;obtain rfl:m=0:=by have:=hm 0 rfl;omega
     exact Own.dN (Rd.move (wG hs hw) (Own.eM ho))
    ·rename_i hn;split at h2
     ·rename_i s;obtain⟨rfl,_⟩:=h2;obtain⟨rfl,hT⟩:=hx s rfl;refine⟨λs o' sz hm=>?_,by simp,λL' w' d q o0 m hm hs hw aj7=>?_⟩
      ·simp only[List.mem_singleton,Prod.mk.injEq]at hm;obtain⟨rfl,rfl,rfl⟩:=hm;exact⟨rfl,rfl,n,hT,hn,hd⟩
      ·have hmn:m<=n\/t'.depth<=n:=by
        by_cases VJ:t'.depth<=n
        ·exact .inr VJ
        ·exact .inl (hm n (by simp[VJ]))
       obtain⟨k9,c9,ho9⟩:=Own.HM hmn ho;refine Own.fi c9 (wG hs hw) (λk i rest hi hk=>?_) ho9;have aI:L k = .own s0 (i::rest):=by simpa using hk
       have:=aj7 s0 o t'.sz (by simp) k i rest hi aI;exact⟨hw k (by rw[hk];simp),this.1,λh=>.inl (this.2 h)⟩
     ·exact h2.elim
  ·exact h2.elim
 ·exact h2.elim
theorem ah3{place:Nat->Option (Nat×Nat)}{cells:Array Value}{i size:Nat}{v:Value}{rest:List (Nat×Value)}(hp:place i=some (off,size))(hs:v.cells.size=size)(hb:off+size<=cells.size):
  ∃cu,Instr.fill place cells ((i,v)::rest)=Instr.fill place cu rest/\cu.size=cells.size/\(cu.toList.drop off).take size=v.cells.toList /\
   ∀j,(j<off\/off+size<=j)->cu[j]?=cells[j]?:=by
 let cu:Array Value:=v.cells.zipIdx.foldl (λcs (c,j)=>cs.setIfInBounds (off+j) c) cells;have key:∀(l:List (Value×Nat)) (cs:Array Value),(l.foldl (λcs (c,j)=>cs.setIfInBounds (off+j) c) cs).size=cs.size:=by
  intro l;induction l with
  | nil=>intro cs;rfl
  | cons c l ih=>intro cs;simp only[List.foldl_cons];rw[ih];simp
 have out:∀(l:List (Value×Nat)) (cs:Array Value) (j:Nat),(∀c∈l,off+c.2≠j)->(l.foldl (λcs (c,j)=>cs.setIfInBounds (off+j) c) cs)[j]?=cs[j]?:=by
  intro l;induction l with
  | nil=>intro cs j _;rfl
  | cons c l ih =>
   intro cs j h;simp only[List.foldl_cons];rw[ih _ _ (λc' hc=>h c' (by simp[hc])),Array.getElem?_setIfInBounds,if_neg (h c (by simp))]
 have inn:∀(l:List Value) (b:Nat) (cs:Array Value),off+b+l.length<=cs.size->∀i,i<l.length->((l.zipIdx b).foldl (λcs (c,j)=>cs.setIfInBounds (off+j) c) cs)[off+b+i]?=l[i]?:=by
  intro l;induction l with
  | nil=>intro b cs _ i hi;simp at hi
  | cons c l ih =>
   intro b cs hb i hi;simp only[List.zipIdx_cons,List.foldl_cons];cases i with
   | zero =>
    rw[out]
    ·simp only[List.length_cons]at hb;simp[Array.getElem?_setIfInBounds];omega
    ·intro c' hc;have:=List.le_snd_of_mem_zipIdx hc;omega
   | succ i =>
    simp only[List.length_cons]at hb hi;have:=ih (b+1) (cs.setIfInBounds (off+b) c) (by simp;omega) i (by omega);rw[show off+(b+1)+i=off+b+(i+1)by omega]at this;rw[this];simp
 refine⟨cu,?_,?_,?_,?_⟩
 ·simp only[Instr.fill,hp];rw[if_neg (by simp only[Bool.or_eq_true,decide_eq_true_eq,ne_eq];omega)]
 ·show (v.cells.zipIdx.foldl _ cells).size=_;rw[<-Array.foldl_toList];exact key _ _
 ·apply List.ext_getElem?;intro j;rw[List.getElem?_take];split
  ·rename_i hj;rw[List.getElem?_drop];have:=inn v.cells.toList 0 cells (by simp;omega) j (by simp;omega);simp only[Nat.add_zero]at this;rw[<-this];show cu.toList[off+j]?=_;rw[Array.getElem?_toList];show (v.cells.zipIdx.foldl _ cells)[off+j]?=_;rw[<-Array.foldl_toList];congr 2;simp
  ·rw[List.getElem?_eq_none (by simp;omega)]
 ·intro j hj;show (v.cells.zipIdx.foldl _ cells)[j]?=_;rw[<-Array.foldl_toList];refine out _ _ _ (λc hc=>?_);have h2:c.2<v.cells.size:=by
   rw[Array.toList_zipIdx]at hc;have:=List.snd_lt_of_mem_zipIdx hc;simpa using this
  omega
end
def eY:Nat->List (Nat×Nat×Nat)->Prop
 | _,[]=>True
 | b,(_,o,sz)::ms=>b<=o/\eY (o+sz) ms
section
variable{P:Program}{C:Ctx}{w w' w0:World}{S S':Nat->Prop}{L L' L0:Nat->aj}{s N:Nat}{vs:List Nat}{T T':List V}{tm tm':Array Value}{a:Act}
def rK(T:List V)(lo hi:Nat)(n:Option Nat)(ms:List (Nat×Nat×Nat)):Prop :=
 ∀s o sz,(s,o,sz)∈ms->lo<=o/\o+sz<=hi/\∃m t x,T.getD s .dead = .d none m t x/\m≠0/\t.depth≠0/\t.sz=sz/\n=n
structure DJ (T:List V) (a:Act) (w:World) (L:Nat->aj) (place:Nat->Option (Nat×Nat)) (cells:Array Value) (du:List (Nat×Value)) (o:Nat) (t:Ty) (b:Bd t) (cu:Array Value) (atY:List (Nat×Value)):Prop where
 fill:Instr.fill place cells du=Instr.fill place cu atY
 size:cu.size=cells.size
 out:∀j,(j<o\/o+t.sz<=j)->cu[j]?=cells[j]?
 src:rK T o (o+t.sz) b.n b.ms
 qH:eY o b.ms
 own:∀(L':Nat->aj) (w':World) d q o0 m,(∀n,b.n=some n->m<=n)->(∀k,L k = .aq->L' k = .aq)->(∀k,L k ≠ .free->w'.heap[k]?=w.heap[k]?)->lK L L' d q o0 m b.ms ->
  Own w' L' (SL L' none) d m t b.x q (o0+o) ((cu.toList.drop o).take t.sz)
theorem Iv[af](hI:Inv w0 L0 N vs T a w L){o:Nat}{parts xg:List (Nat×Operand)}{b:Bd t}(h:(pL C i o t parts).ai T (b,xg) log)
  {place:Nat->Option (Nat×Nat)} {cells:Array Value} (hp:place i=some (o,t.sz)) (hz:(cells.toList.drop o).take t.sz=t.ct) (hb:o+t.sz<=cells.size) :
  ∃cu,DJ T a w L place cells (parts.map λp=>(p.1,a.eval p.2)) o t b cu (xg.map λp=>(p.1,a.eval p.2)):=by
 have hzero:∀{parts:List (Nat×Operand)},b=⟨t.zero,none,[]⟩->∃cu,DJ T a w L place cells (parts.map λp=>(p.1,a.eval p.2)) o t b cu (parts.map λp=>(p.1,a.eval p.2)):=by
  rintro parts rfl
  refine⟨cells,rfl,rfl,λ_ _=>rfl,?_,trivial,λL' w' d q o0 m _ _ _ _=>?_⟩
  ·intro s o sz h;cases h
  ·rw[hz];exact Own.zero
 unfold pL at h;split at h
 ·rename_i j x rest;split at h
  ·rename_i hj;subst hj;obtain⟨b1,l1,l2,rfl,h1,h2⟩:=M.an h;obtain⟨h2,_⟩:=h2;injection h2 with h2 h3;subst h2 h3;obtain⟨cs,hf,dZ,hlen,cW,nD,bw⟩:=amD hI h1;have hc:=Form.cells hf dZ;obtain⟨cu,k1,k2,k3,k4⟩:=ah3 (rest:=xg.map λp=>(p.1,a.eval p.2)) hp (by rw[<-Array.length_toList,hc];exact hlen) hb;refine⟨cu,k1,k2,k4,λs o' sz hm=>?_,?_,λL' w' d q o0 m e1 e2 e3 e4=>?_⟩
   ·obtain⟨rfl,rfl,n,hT,hn,hd⟩:=cW s o' sz hm;exact⟨Nat.le_refl _,Nat.le_refl _,n,t,_,hT,hn,hd,rfl,rfl⟩
   ·match hms:b.ms,nD with
    | [],_=>trivial
    | [(s,o',sz)],_ =>
     obtain⟨rfl,_⟩:=cW s o' sz (by rw[hms];simp);exact⟨Nat.le_refl _,trivial⟩
   ·rw[k3,hc];exact bw L' w' d q o0 m e1 e2 e3 e4
  ·obtain⟨h,_⟩:=h;injection h with h1 h2;subst h2;exact hzero h1
 ·obtain⟨h,_⟩:=h;injection h with h1 h2;subst h2;exact hzero h1
theorem X8{x y:Option Nat}(h:∀n,th x y=some n->m<=n)(hx:x=some n):m<=n:=by
 subst hx;cases y with
 | none=>exact h n rfl
 | some k=>have:=h _ rfl;omega
theorem X9{x y:Option Nat}(h:∀n,th x y=some n->m<=n)(hy:y=some n):m<=n:=by
 subst hy;cases x with
 | none=>exact h n rfl
 | some k=>have:=h _ rfl;omega
theorem eY.append{oW:List (Nat×Nat×Nat)}{b c:Nat}(h:eY b ms)(hc:b<=c)(h1:∀s o sz,(s,o,sz)∈ms->o+sz<=c)(h2:eY c oW):eY b (ms++oW):=by
 induction ms generalizing b with
 | nil =>
  cases oW with
  | nil=>trivial
  | cons x l =>
   obtain⟨s,o,sz⟩:=x;exact⟨Nat.le_trans hc h2.1,h2.2⟩
 | cons x l ih =>
  obtain⟨s,o,sz⟩:=x;refine⟨h.1,ih h.2 (h1 s o sz (by simp)) (λs o sz hm=>h1 s o sz (by simp[hm]))⟩
theorem rK.mono{lo hi mw sJ:Nat}{n n':Option Nat}(h:rK T lo hi n ms)(h1:mw<=lo)(h2:hi<=sJ)(h3:∀k,n=some k->∃k',n'=some k'/\k'<=k):rK T mw sJ n' ms:=by
 intro s o sz hm;obtain⟨e1,e2,m,t,x,e3,e4,e5,e6,_⟩:=h s o sz hm;exact⟨by omega,by omega,m,t,x,e3,e4,e5,e6,rfl⟩
theorem Ya{x y:Option Nat}(h:x=some k):∃k',th x y=some k'/\k'<=k:=by
 subst h;cases y with
 | none=>exact⟨k,rfl,Nat.le_refl _⟩
 | some j=>exact⟨min k j,rfl,by omega⟩
theorem Yb{x y:Option Nat}(h:y=some k):∃k',th x y=some k'/\k'<=k:=by
 subst h;cases x with
 | none=>exact⟨k,rfl,Nat.le_refl _⟩
 | some j=>exact⟨min j k,rfl,by omega⟩
theorem lK.left{o0:Nat}{oW:List (Nat×Nat×Nat)}(h:lK L L' d q o0 m (ms++oW)):lK L L' d q o0 m ms:=λs o sz hm=>h s o sz (List.mem_append_left _ hm)
theorem lK.right{o0:Nat}{oW:List (Nat×Nat×Nat)}(h:lK L L' d q o0 m (ms++oW)):lK L L' d q o0 m oW:=λs o sz hm=>h s o sz (List.mem_append_right _ hm)
theorem T5[af](hI:Inv w0 L0 N vs T a w L){place:Nat->Option (Nat×Nat)}:{t:Ty}->{i o:Nat}->{parts:List (Nat×Operand)}->{b:Bd t}->{log:List Nat}->{cells:Array Value} ->
  (ou C i o t parts).ai T b log->(∀j r,bB j t=some r->place (i+j)=some (o+r.1,r.2.sz))->(cells.toList.drop o).take t.sz=t.ct->o+t.sz<=cells.size ->
  ∃cu,DJ T a w L place cells (parts.map λp=>(p.1,a.eval p.2)) o t b cu []
 | .pair ta tb,i,o,parts,b,log,cells,h,hp,hz,hb=>by
  simp only[ou]at h;obtain⟨⟨b1,xh⟩,l1,l2,rfl,h1,h2⟩:=M.an h;obtain⟨r,l3,l4,rfl,h3,h4⟩:=M.an h2;obtain⟨rfl,_⟩:=h4;simp only[Ty.sz,Ty.ct]at hb hz;have hza:(cells.toList.drop o).take ta.sz=ta.ct:=by
   have:=congrArg (List.take ta.sz) hz;rw[List.take_take,Nat.min_eq_left (by omega),List.take_left' (Ty.jI ta)]at this;exact this
  have hzb:(cells.toList.drop (o+ta.sz)).take tb.sz=tb.ct:=by
   have:=congrArg (List.drop ta.sz) hz;rw[List.drop_take,List.drop_drop,List.drop_left' (Ty.jI ta)]at this;rw[<-this];congr 1;omega
  obtain⟨c1,f1⟩:=Iv hI h1 (place:=place) (cells:=cells) (by have:=hp 0 _ rfl;simpa using this) hza (by omega);obtain⟨c2,f2⟩:=T5 hI (place:=place) (cells:=c1) h3 (λj r hr=>by
   have:=hp (j+1) (ta.sz+r.1,r.2) (by simp[bB,hr]);rw[show i+1+j=i+(j+1)by omega,this];simp only[Option.some.injEq,Prod.mk.injEq,and_true];omega) (by
    rw[tJ (cur:=cells) (cur':=c1) (λi h1 h2=>f1.out i (by omega))];exact hzb) (by rw[f1.size];omega)
  refine⟨c2,f1.fill.trans f2.fill,f2.size.trans f1.size,λj hj=>?_,?_,?_,λL' w' d q o0 m e1 e2 e3 e4=>?_⟩
  ·simp only[Ty.sz]at hj;rw[f2.out j (by omega),f1.out j (by omega)]
  ·intro s o' sz hm;rcases List.mem_append.1 hm with hm|hm
   ·exact (f1.src.mono (Nat.le_refl _) (by simp only[Ty.sz];omega) (λk hk=>Ya hk)) s o' sz hm
   ·exact (f2.src.mono (by omega) (by simp only[Ty.sz];omega) (λk hk=>Yb hk)) s o' sz hm
  ·exact f1.qH.append (by omega) (λs o' sz hm=>(f1.src s o' sz hm).2.1) f2.qH
  ·simp only[Own,Ty.sz];refine⟨(c2.toList.drop o).take ta.sz,(c2.toList.drop (o+ta.sz)).take tb.sz,?_,?_,?_⟩
   ·rw[<-List.drop_drop,<-List.take_add]
   ·rw[tJ (cur:=c1) (cur':=c2) (λi h1 h2=>f2.out i (by omega))];exact f1.own L' w' d q o0 m (λn hn=>X8 e1 hn) e2 e3 e4.left
   ·rw[Nat.add_assoc];exact f2.own L' w' d q o0 m (λn hn=>X9 e1 hn) e2 e3 e4.right
 | .int _,i,o,parts,b,log,cells,h,hp,hz,hb | .bool,i,o,parts,b,log,cells,h,hp,hz,hb | .str,i,o,parts,b,log,cells,h,hp,hz,hb | .raw _,i,o,parts,b,log,cells,h,hp,hz,hb | .cap _ _,i,o,parts,b,log,cells,h,hp,hz,hb | .unit,i,o,parts,b,log,cells,h,hp,hz,hb | .agg _,i,o,parts,b,log,cells,h,hp,hz,hb | .slice _ _,i,o,parts,b,log,cells,h,hp,hz,hb=>by
  simp only[ou]at h;obtain⟨⟨b1,xh⟩,l1,l2,rfl,h1,h2⟩:=M.an h;simp only at h2;split at h2
  ·rename_i he;obtain⟨rfl,_⟩:=h2;have:xh=[]:=by simpa using he
   subst this;exact Iv hI h1 (place:=place) (cells:=cells) (by have:=hp 0 _ rfl;simpa using this) hz hb
  ·exact h2.elim
end
end Go.Proofs.YtbhogmdpmkpinaaGreat.P.Am
