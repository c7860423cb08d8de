/- A part of the proof: Am8,Am9,Am10,Am11,Am12,Am13,Am14,Am15,Am16,Am17. No conditions. -/
import Derived.Test.YtbhogmdpmkpinaaGreatPG1
import Derived.IntWalk
import Derived.Laws.StructEq
import Derived.Laws.BytesString
set_option linter.unusedVariables false
set_option linter.unusedSimpArgs false
namespace Go.Proofs.YtbhogmdpmkpinaaGreat.P.Am
variable{d g i k m n off r:Nat}{log q:List Nat}{X:TypeId}{v:V}{o:Oper}{t:Ty}{x y:Operand}{p:List St}{c:Value}{l:Option Nat}{cs:List Value}{ms:List (Nat×Nat×Nat)}
def qM:List St->Nat->Nat->(t:Ty)->t.den->M (Option Nat×D)
 | .idx sz i::p,0,n,.pair (.int _) (.slice _ te),x=>if sz=te.sz then .bn (decide (x.1<=i)) (.cM te (ae x.2 i) λy=>(aR p n te y).bind λr=>.ret (none,r))else .fail
 | .a7 i off::p,1,m,.agg t,x=>match comp i t x with
  | some (o,⟨t',x'⟩)=>if o=off then (aR p (cond (m.testBit i) t'.depth 0) t' x').bind λr=>.ret (none,r)else .fail
  | none=>.fail
 | _,_,_,_,_=>.fail
def dI(p:List St):V->M (Option Nat×D)
 | .box l n t x=>(aR p n t x).bind λr=>.ret (l,r)
 | .d l n t x=>match p with
  | .idx sz i::p'=>(aR (.idx sz i::p') n t x).bind λr=>.ret (l,r)
  | _=>.fail
 | .bP k n t x=>qM p k n t x
 | _=>.fail
def rb(p:List St):V->M (Option Nat×D)
 | .d l n t x=>match p with
  | []=>.ret (l,⟨n,t,x⟩)
  | .idx sz i::p'=>(aR (.idx sz i::p') n t x).bind λr=>.ret (l,r)
  | _=>.fail
 | u=>dI p u
def La(C:Ctx)(X:TypeId)(r:Nat)(p:List St):M V :=
 .get r λu=>(dI p u).bind λz =>
  if C.ty X=some z.2.t then
   if z.2.t.depth=0 then .ret (.d none 0 z.2.t z.2.x)else if z.2.n=0 then .ret (.d z.1 0 z.2.t z.2.x)else .ret (.view r p z.2.t)
  else .fail
def Lb(C:Ctx)(X:TypeId)(t:Nat):V->M V
 | .rp l t' x=>if C.ty X=some t' then .ret (.d l 0 t' x)else .fail
 | .ptr r p _=>La C X r p
 | .box _ _ _ _=>La C X t []
 | _=>.fail
def mN(t:Nat):V->M (Option Nat×(t:Ty)×t.den)
 | .d l n t' x=>if n=0\/t'.depth=0 then .ret (l,⟨t',x⟩)else match l with
  | none=>.ret (some t,⟨t',x⟩)
  | some _=>.fail
 | .view r p t'=>.get r λu=>(rb p u).bind λz=>match z.1 with
  | none=>if z.2.t=t' then .ret (some r,⟨z.2.t,z.2.x⟩)else .fail
  | some _=>.fail
 | _=>.fail
section
variable{P:Program}{C:Ctx}{w w' w0:World}{S S':Nat->Prop}{L L' L0:Nat->aj}{s N:Nat}{vs:List Nat}{T T':List V}{tm tm':Array Value}{a:Act}
theorem Lw(q:List Nat)(o:Nat)(p p':List St):node q o (p++p')=node (node q o p).1 (node q o p).2 p':=by
 induction p generalizing q o with
 | nil=>rfl
 | cons st p ih=>cases st<;>simp only[List.cons_append,node]<;>exact ih _ _
theorem Own.elem{e:TypeId}{xs:List t.den}{q:List Nat}{o:Nat}(h:Own w L S s (n+1) (.slice e t) xs q o cs)(hi:i<xs.length):
  mX w L S s n t (xs[i]) (q++[o]) (i*t.sz):=by
 simp only[Own]at h;rcases h with⟨_,rfl⟩|⟨g2,cap,ff,dh,hL,hg,h5,h6,h7,h8⟩
 ·exact absurd hi (by simp)
 ·refine⟨g2,ff,e,hL,hg,?_,h8 _ hi⟩;rw[h7]
  calc i*t.sz+t.sz=(i+1)*t.sz:=by rw[Nat.add_mul,Nat.one_mul]
   _<=cap*t.sz:=Nat.mul_le_mul_right _ (by omega)
theorem CM:{p:List St}->{n:Nat}->{t:Ty}->{x:t.den}->{n':Nat}->{t':Ty}->{x':t'.den}->{log:List Nat} ->
  (aR p n t x).ai T ⟨n',t',x'⟩ log->n'<=n/\t'.depth<=t.depth
 | [],n,t,x,n',t',x',log,hr=>by
  obtain⟨he,_⟩:=hr;cases he;exact⟨Nat.le_refl _,Nat.le_refl _⟩
 | .a7 i off::p,n,.agg t,x,n',t',x',log,hr=>by
  simp only[aR]at hr;split at hr
  ·rename_i o1 t1 x1 hc;split at hr
   ·have h1:=CM hr;have h2:=Wr hc;simp only[Ty.depth];omega
   ·exact hr.elim
  ·exact hr.elim
 | .idx sz i::p,n+1,.slice e t,xs,n',t',x',log,hr=>by
  simp only[aR]at hr;split at hr
  ·obtain⟨y,hy,hr⟩:=hr;have h1:=CM hr;simp only[Ty.depth];omega
  ·exact hr.elim
 | .idx _ _::p,0,.slice _ _,_,_,_,_,_,hr=>by simp only[aR]at hr;exact hr.elim
 | .a7 _ _::p,_,.int _,_,_,_,_,_,hr=>by simp only[aR]at hr;exact hr.elim
 | .a7 _ _::p,_,.bool,_,_,_,_,_,hr=>by simp only[aR]at hr;exact hr.elim
 | .a7 _ _::p,_,.str,_,_,_,_,_,hr=>by simp only[aR]at hr;exact hr.elim
 | .a7 _ _::p,_,.raw _,_,_,_,_,_,hr=>by simp only[aR]at hr;exact hr.elim
 | .a7 _ _::p,_,.cap _ _,_,_,_,_,_,hr=>by simp only[aR]at hr;exact hr.elim
 | .a7 _ _::p,_,.unit,_,_,_,_,_,hr=>by simp only[aR]at hr;exact hr.elim
 | .a7 _ _::p,_,.pair _ _,_,_,_,_,_,hr=>by simp only[aR]at hr;exact hr.elim
 | .a7 _ _::p,_,.slice _ _,_,_,_,_,_,hr=>by simp only[aR]at hr;exact hr.elim
 | .idx _ _::p,_,.int _,_,_,_,_,_,hr=>by simp only[aR]at hr;exact hr.elim
 | .idx _ _::p,_,.bool,_,_,_,_,_,hr=>by simp only[aR]at hr;exact hr.elim
 | .idx _ _::p,_,.str,_,_,_,_,_,hr=>by simp only[aR]at hr;exact hr.elim
 | .idx _ _::p,_,.raw _,_,_,_,_,_,hr=>by simp only[aR]at hr;exact hr.elim
 | .idx _ _::p,_,.cap _ _,_,_,_,_,_,hr=>by simp only[aR]at hr;exact hr.elim
 | .idx _ _::p,_,.unit,_,_,_,_,_,hr=>by simp only[aR]at hr;exact hr.elim
 | .idx _ _::p,_,.pair _ _,_,_,_,_,_,hr=>by simp only[aR]at hr;exact hr.elim
 | .idx _ _::p,_,.agg _,_,_,_,_,_,hr=>by simp only[aR]at hr;exact hr.elim
 where
 Wr:{i:Nat}->{t:Ty}->{x:t.den}->{o1:Nat}->{t1:Ty}->{x1:t1.den}->comp i t x=some (o1,⟨t1,x1⟩)->t1.depth<=t.depth
 | 0,.pair a b,x,o1,t1,x1,hc=>by
  simp only[comp,Option.some.injEq,Prod.mk.injEq]at hc;obtain⟨rfl,hc⟩:=hc;cases hc;simp only[Ty.depth];omega
 | i+1,.pair a b,x,o1,t1,x1,hc=>by
  simp only[comp,Option.map_eq_some_iff]at hc;obtain⟨⟨o2,t2,x2⟩,hc,he⟩:=hc;simp only[Prod.mk.injEq]at he;obtain⟨rfl,he⟩:=he;cases he;have:=Wr hc;simp only[Ty.depth];omega
 | 0,.int _,_,_,_,_,hc=>by simp only[comp,Option.some.injEq,Prod.mk.injEq]at hc;obtain⟨rfl,hc⟩:=hc;cases hc;simp
 | 0,.bool,_,_,_,_,hc=>by simp only[comp,Option.some.injEq,Prod.mk.injEq]at hc;obtain⟨rfl,hc⟩:=hc;cases hc;simp
 | 0,.str,_,_,_,_,hc=>by simp only[comp,Option.some.injEq,Prod.mk.injEq]at hc;obtain⟨rfl,hc⟩:=hc;cases hc;simp
 | 0,.raw _,_,_,_,_,hc=>by simp only[comp,Option.some.injEq,Prod.mk.injEq]at hc;obtain⟨rfl,hc⟩:=hc;cases hc;simp
 | 0,.cap _ _,_,_,_,_,hc=>by simp only[comp,Option.some.injEq,Prod.mk.injEq]at hc;obtain⟨rfl,hc⟩:=hc;cases hc;simp
 | 0,.unit,_,_,_,_,hc=>by simp only[comp,Option.some.injEq,Prod.mk.injEq]at hc;obtain⟨rfl,hc⟩:=hc;cases hc;simp
 | 0,.agg _,_,_,_,_,hc=>by simp only[comp,Option.some.injEq,Prod.mk.injEq]at hc;obtain⟨rfl,hc⟩:=hc;cases hc;simp
 | 0,.slice _ _,_,_,_,_,hc=>by simp only[comp,Option.some.injEq,Prod.mk.injEq]at hc;obtain⟨rfl,hc⟩:=hc;cases hc;simp
theorem cd.len:{t:Ty}->{m:Nat}->{x:t.den}->{o:Nat}->{cs:List Value}->cd w L s m t x o cs->cs.length=t.sz:=by
 intro t;induction t with
 | pair a b _ ih =>
  intro m x o cs h;obtain⟨c0,c1,rfl,h2,h3⟩:=h;rw[List.length_append,Own.len h2,ih h3];rfl
 | _=>intro m x o cs h;simp only[cd]at h;exact Own.len h
theorem cd.Ws:{t:Ty}->{m:Nat}->{x:t.den}->{o:Nat}->{cs:List Value}->{i o1:Nat}->{t1:Ty}->{x1:t1.den}->cd w L s m t x o cs->comp i t x=some (o1,⟨t1,x1⟩) ->
  o1+t1.sz<=t.sz/\Own w L (SL L none) s (cond (m.testBit i) t1.depth 0) t1 x1 [] (o+o1) ((cs.drop o1).take t1.sz):=by
 intro t;induction t with
 | pair a b _ ih =>
  intro m x o cs i o1 t1 x1 h hc;obtain⟨c0,c1,rfl,h2,h3⟩:=h;have hl:=Own.len h2;cases i with
  | zero =>
   simp only[comp,Option.some.injEq,Prod.mk.injEq]at hc;obtain⟨rfl,hc⟩:=hc;cases hc;refine⟨by simp only[Ty.sz];omega,?_⟩;rw[List.drop_zero,<-hl,List.take_left];exact h2
  | succ i =>
   simp only[comp,Option.map_eq_some_iff]at hc;obtain⟨⟨o2,t2,x2⟩,hc,he⟩:=hc;simp only[Prod.mk.injEq]at he;obtain⟨rfl,he⟩:=he;cases he;obtain⟨k1,k3⟩:=ih h3 hc;refine⟨by simp only[Ty.sz];omega,?_⟩;have e:(c0++c1).drop (a.sz+o2)=c1.drop o2:=by
    rw[<-hl,<-List.drop_drop,List.drop_left]
   rw[e,<-Nat.add_assoc,Nat.testBit_succ];exact k3
 | _ =>
  intro m x o cs i o1 t1 x1 h hc;cases i with
  | zero =>
   simp only[comp,Option.some.injEq,Prod.mk.injEq]at hc;obtain⟨rfl,hc⟩:=hc;cases hc;simp only[cd]at h;refine⟨by simp,?_⟩;rw[List.drop_zero,List.take_of_length_le (Nat.le_of_eq (Own.len h))];exact h
  | succ i=>simp[comp]at hc
theorem Lz[af]{x:t.den}{n':Nat}{t':Ty}{x':t'.den}(hr:(qM p k n t x).ai T (l,⟨n',t',x'⟩) log)(hs:fM w L s k n t x c):
  mX w L (SL L l) s n' t' x' (node [] 0 p).1 (node [] 0 p).2/\l=none/\p≠[]:=by
 unfold qM at hr;split at hr
 ·split at hr
  ·rename_i bq;subst bq;obtain⟨hle,y,hy,hr⟩:=hr;obtain⟨z,l1,K7,rfl,h1,h2⟩:=M.aq hr;obtain⟨h2,_⟩:=h2;cases h2;obtain⟨hi,h0,rfl⟩:=ma hy;simp only[fM]at hs;rcases hs with⟨_,hs⟩|⟨g,cap,cur,k1,k2,k3,k4,k5,k6,k7⟩
   ·rw[hs]at hi;exact absurd hi (by simp)
   ·refine⟨sN (q:=[]++[0]) h1 ⟨g,cur,_,k2,k3,?_,k7 _ hi ?_⟩,rfl,by simp⟩
    ·rw[k6,<-Nat.succ_mul];exact Nat.mul_le_mul_right _ (Nat.lt_of_lt_of_le hi k4)
    ·exact Int.le_trans (of_decide_eq_true hle) (Int.le_of_eq (Int.toNat_of_nonneg h0).symm)
  ·exact hr.elim
 ·split at hr
  ·rename_i o _ _ hc;split at hr
   ·rename_i ho;subst ho;obtain⟨z,l1,K7,rfl,h1,h2⟩:=M.aq hr;obtain⟨h2,_⟩:=h2;cases h2;simp only[fM]at hs;obtain⟨g,cur,e,k1,k2,k3,k4,k5⟩:=hs;obtain⟨j1,j2⟩:=cd.Ws k5 hc;rw[Nat.zero_add]at j2;have key:=sN (L:=L) (s:=s) (S:=SL L none) (w:=w) (q:=[]) (o:=o) h1 ⟨g,cur,e,k2,k3,by rw[k4];exact j1,j2⟩;refine⟨?_,rfl,by simp⟩;simp only[node,Nat.zero_add];exact key
   ·exact hr.elim
  ·exact hr.elim
 ·exact hr.elim
theorem lC[af]{u:V}{n':Nat}{t':Ty}{x':t'.den}(hr:(dI p u).ai T (l,⟨n',t',x'⟩) log)(hs:aD L T tm s u w c):
  mX w L (SL L l) s n' t' x' (node [] 0 p).1 (node [] 0 p).2/\(∀r,l=some r->(T.getD r .dead).deep=true)/\(n'≠0->t'.depth≠0->u.deep=true)/\u.aM=true/\(u.dG=false\/p≠[]):=by
 cases u with
 | box l2 n t x =>
  obtain⟨z,l1,K7,rfl,h1,h2⟩:=M.aq hr;obtain⟨h2,_⟩:=h2;cases h2;obtain⟨h0,g,cur,e,h3,h4,h5,h6,h7⟩:=hs;refine⟨sN h1 ⟨g,cur,e,h4,h5,by omega,?_⟩,h0,λhn hd=>?_,rfl,.inl rfl⟩
  ·rw[List.drop_zero,List.take_of_length_le (by rw[<-h6];simp)];exact h7
  ·have:=CM h1;simp only[V.deep,Bool.and_eq_true,bne_iff_ne];omega
 | d l2 n t x =>
  simp only[dI]at hr;split at hr
  ·rename_i sz i p';obtain⟨z,l1,K7,rfl,h1,h2⟩:=M.aq hr;obtain⟨h2,_⟩:=h2;cases h2;obtain⟨h0,cs,h3,h4⟩:=hs;have hle:=CM h1;have ke:n'≠0->t'.depth≠0->(V.d l n t x).deep=true:=λhn hd=>by
    simp only[V.deep,Bool.and_eq_true,bne_iff_ne];omega
   cases t<;>cases n<;>simp only[aR]at h1<;>try exact h1.elim
   rename_i e t n;split at h1
   ·rename_i bq;subst bq;obtain⟨y,hy,h1⟩:=h1;obtain⟨hi,kg,rfl⟩:=ma hy;refine⟨sN (q:=[]++[0]) h1 (Own.elem h4 hi),h0,ke,?_,.inr (by simp)⟩;simp[V.aM,Ty.depth]
   ·exact h1.elim
  ·exact hr.elim
 | bP k2 n t x =>
  obtain⟨h1,h2,h3⟩:=Lz hr hs;exact⟨h1,by simp[h2],λ_ _=>rfl,rfl,.inl rfl⟩
 | dead=>exact hr.elim
 | bF _=>exact hr.elim
 | rp _ _ _=>exact hr.elim
 | ptr _ _ _=>exact hr.elim
 | view _ _ _=>exact hr.elim
 | hole _ _=>exact hr.elim
 | part _ _ _ _ _=>exact hr.elim
 | same _ _=>exact hr.elim
theorem YH[af](hI:Inv w0 L0 N vs T a w L)(hC:bD P C){x:t.den}{o g:Nat}
  (hT:C.ty X=some t) (h:mX w L (SL L l) r n t x q o) (hg:L g = .own r q) :
  ∃c cur e,(loadVar X ⟨g,o,none⟩).run P w = .ok c w/\w.heap[g]?=some (.cells cur e (0,0))/\o+t.sz<=cur.size/\Form t ((cur.toList.drop o).take t.sz) c /\
   Own w L (SL L l) r n t x q o ((cur.toList.drop o).take t.sz):=by
 obtain⟨g',cur,e,h1,h2,h3,h4⟩:=h;obtain rfl:=hI.inj g g' r q hg h1;obtain⟨c,hc,hf⟩:=(hC X t hT).L5 (w:=w) (g:=g) (o:=o) (Own.len h4) (mX.cell h2);exact⟨c,cur,e,hc,h2,h3,hf,h4⟩
theorem abb[af](hI:Inv w0 L0 N vs T a w L)(hC:bD P C){r:Nat}{p:List St}(ho:o.op = .load X x)
  (hid:(T.getD d .dead).idle=true) (hx:∃g,a.eval x = .pointer (some ⟨g,(node [] 0 p).2,none⟩)/\L g = .own r (node [] 0 p).1)
  (h:(La C X r p).ai T v log) (bf:∀r,v.on r=true->r∈vs):aL P o vs T a w L d v:=by
 obtain⟨g,hx,hg⟩:=hx;obtain⟨aG,rfl,h⟩:=h;obtain⟨⟨l,n',t',x'⟩,l1,l2,rfl,h1,h2⟩:=M.aq h;obtain⟨hb,hl,cF,bz,mh⟩:=lC h1 (hI.aY r);have bC:r≠d:=di hid bz;split at h2
 ·rename_i hT;obtain⟨c,cur,e,aP,hh,bq,hf,mq⟩:=YH hI hC hT hb hg;have Kw:(execOp a.eval o).run P w = .ok (.value c) w:=by simp[execOp,ho,hx,Instr.loadAt,Instr.sureAddr,aP]
  refine⟨c,w,L,Kw,ew.refl hI d,λk q hk h=>(by rw[hI.free k hk]at h;cases h),bf,?_⟩;have tf:∀r',(T.getD r' .dead).aM=true->r'≠d:=λr' h1=>di hid h1;split at h2
  ·rename_i oZ;obtain⟨rfl,_⟩:=h2;exact⟨by simp,_,hf,Own.flat oZ mq⟩
  ·rename_i oZ;split at h2
   ·rename_i iS;obtain⟨rfl,_⟩:=h2;refine⟨λr' aZ=>?_,_,hf,Own.bA (.inl iS) mq (.inl rfl)⟩;have:=hl r' aZ;rw[aH,if_neg (λh=>tf r' (V.fq this) h.1)];exact this
   ·rename_i iS;obtain⟨rfl,_⟩:=h2;refine⟨?_,.inr ⟨g,cur,e,?_,hg,hh,bq,hf⟩⟩
    ·rw[aH,if_neg (λh=>bC h.1)];exact cF iS oZ
    ·rw[aH,if_neg (λh=>bC h.1)];exact mh
 ·exact h2.elim
theorem aqb[af](hI:Inv w0 L0 N vs T a w L)(hC:bD P C){o:Oper}{t:Nat}(ho:o.op = .load X (.tmp t))
  (hid:(T.getD d .dead).idle=true) (h:(M.get t (Lb C X t)).ai T v log) (bf:∀r,v.on r=true->r∈vs):aL P o vs T a w L d v:=by
 obtain⟨aG,rfl,h⟩:=h;have hs:=hI.aY t;generalize hv:T.getD t .dead=u at h hs;cases u with
 | rp l t' x =>
  simp only[Lb]at h;split at h
  ·rename_i hT;obtain⟨rfl,_⟩:=h;obtain⟨h0,g,o',cs,h1,h2,h3,h4⟩:=hs;obtain⟨c,hc,hf⟩:=(hC X t' hT).L5 (w:=w) (g:=g) (o:=o') (Rd.len h3) h4;have fh:a.eval (.tmp t)=_:=h1;refine⟨c,w,L,by simp[execOp,ho,fh,Instr.loadAt,Instr.sureAddr,hc],ew.refl hI d,λk q hk h=>(by rw[hI.free k hk]at h;cases h),bf,?_⟩;refine⟨λr hr=>?_,cs,hf,Own.dP h3⟩;have:=h0 r hr;rw[aH,if_neg (λh=>di hid (V.fq this) h.1)];exact this
  ·exact h.elim
 | ptr r p t' =>
  obtain⟨g,h1,h2⟩:=hs;exact abb hI hC ho hid ⟨g,h1,h2⟩ h bf
 | box l n t' x =>
  obtain⟨_,g,cur,e,h1,h2,_⟩:=hs;exact abb hI hC ho hid (r:=t) (p:=[]) ⟨g,h1,h2⟩ h bf
 | dead=>exact h.elim
 | bF _=>exact h.elim
 | d _ _ _ _=>exact h.elim
 | view _ _ _=>exact h.elim
 | hole _ _=>exact h.elim
 | part _ _ _ _ _=>exact h.elim
 | bP _ _ _ _=>exact h.elim
 | same _ _=>exact h.elim
theorem Eh[af](hI:Inv w0 L0 N vs T a w L){n':Nat}{x':t.den} 
  (hv:aD L T a.tmps s (.view r p t) w c) (hr:(rb p (T.getD r .dead)).ai T (l,⟨n',t,x'⟩) log) :
  ∃cs,Form t cs c/\Own w L (SL L l) r n' t x' (node [] 0 p).1 (node [] 0 p).2 cs/\(∀r,l=some r->(T.getD r .dead).deep=true)/\(T.getD r .dead).deep=true:=by
 obtain⟨cF,hv⟩:=hv;have hs:=hI.aY r;rcases hv with⟨rfl,hc,l0,n0,x0,hd,bz⟩|⟨g,cur,e,hp,h1,h2,h3,h4⟩
 ·rw[hd]at hr hs;obtain⟨hr,_⟩:=hr;cases hr;obtain⟨h0,cs,hf,ho⟩:=hs;exact⟨cs,by rw[hc];exact hf,ho,h0,cF⟩
 ·have key:∀{log:List Nat},(dI p (T.getD r .dead)).ai T (l,⟨n',t,x'⟩) log->_:=λhr=>lC hr hs;have cq:(∃log,(dI p (T.getD r .dead)).ai T (l,⟨n',t,x'⟩) log)\/p=[]:=by
   generalize T.getD r .dead=u at hr;cases u with
   | d l0 n0 t0 x0 =>
    simp only[rb]at hr;split at hr
    ·exact .inr rfl
    ·exact .inl ⟨_,hr⟩
    ·exact hr.elim
   | box l0 n0 t0 x0=>exact .inl ⟨_,hr⟩
   | dead=>exact .inl ⟨_,hr⟩
   | bF _=>exact .inl ⟨_,hr⟩
   | rp _ _ _=>exact .inl ⟨_,hr⟩
   | ptr _ _ _=>exact .inl ⟨_,hr⟩
   | view _ _ _=>exact .inl ⟨_,hr⟩
   | hole _ _=>exact .inl ⟨_,hr⟩
   | part _ _ _ _ _=>exact .inl ⟨_,hr⟩
   | bP _ _ _ _=>exact .inl ⟨_,hr⟩
   | same _ _=>exact .inl ⟨_,hr⟩
  rcases cq with⟨log,cq⟩|rfl
  ·obtain⟨⟨g',cur',e',k1,k2,k3,k4⟩,hl,_,_,_⟩:=key cq;obtain rfl:=hI.inj g g' r _ h1 k1;rw[h2]at k2;injection k2 with k2;injection k2 with k2 _ _;subst k2;exact⟨_,h4,k4,hl,cF⟩
  ·
   generalize hu:T.getD r .dead=u at hr hs cF hp;cases u with
   | box l0 n0 t0 x0 =>
    have cq:(dI [] (.box l0 n0 t0 x0)).ai T (l,⟨n',t,x'⟩) log:=hr;obtain⟨⟨g',cur',e',k1,k2,k3,k4⟩,hl,_,_,_⟩:=lC cq hs;obtain rfl:=hI.inj g g' r _ h1 k1;rw[h2]at k2;injection k2 with k2;injection k2 with k2 _ _;subst k2;exact⟨_,h4,k4,hl,cF⟩
   | d l0 n0 t0 x0=>rcases hp with hp|hp<;>simp[V.dG]at hp
   | dead=>exact hr.elim
   | bF _=>exact hr.elim
   | rp _ _ _=>exact hr.elim
   | ptr _ _ _=>exact hr.elim
   | view _ _ _=>exact hr.elim
   | hole _ _=>exact hr.elim
   | part _ _ _ _ _=>exact hr.elim
   | bP k0 n0 t0 x0 =>
    have cq:(dI [] (.bP k0 n0 t0 x0)).ai T (l,⟨n',t,x'⟩) log:=hr;exact absurd rfl (Lz cq hs).2.2
   | same _ _=>exact hr.elim
end
def pP(C:Ctx)(X:TypeId):Option Ty:=match C.ty X with
 | some (.agg t)=>cond t.eN none (some t)
 | _=>none
def pR(C:Ctx)(X:TypeId):Option Ty:=match C.ty X with
 | some (.agg t)=>cond t.eN (some t) none
 | _=>none
def vP(r:Nat)(p:List St)(t:Ty)(i:Int):Nat->Nat->M V
 | 0,_=>.fail
 | m+1,k=>match bB (k+1) t with
  | some (off,t1)=>.ite (decide (i=(k:Int))) (.ret (.ptr r (p++[.a7 (k+1) off]) t1)) (vP r p t i m (k+1))
  | none=>.fail
def sE:Ty->Ty
 | .pair a _=>a
 | t=>t
def nz(te:Ty):(t:Ty)->t.den->List te.den
 | .pair a b,z=>if h:a=te then (h▸z.1)::nz te b z.2 else []
 | .int k,z=>if h:Ty.int k=te then [h▸z]else []
 | .bool,z=>if h:Ty.bool=te then [h▸z]else []
 | .str,z=>if h:Ty.str=te then [h▸z]else []
 | _,_=>[]
theorem WI{te:Ty}:{t:Ty}->{z:t.den}->{j:Nat}->{y:te.den}->(nz te t z)[j]?=some y->∃off,comp j t z=some (off,⟨te,y⟩)
 | .pair a b,z,j,y,h=>by
  simp only[nz]at h;split at h
  ·rename_i ht;subst ht;cases j with
   | zero =>
    simp only[List.getElem?_cons_zero,Option.some.injEq]at h;subst h;exact⟨0,rfl⟩
   | succ j =>
    obtain⟨off,h⟩:=WI (t:=b) (by simpa using h);exact⟨a.sz+off,by simp[comp,h]⟩
  ·simp at h
 | .int k,z,j,y,h=>by
  simp only[nz]at h;split at h
  ·rename_i ht;subst ht;cases j with
   | zero=>simp only[List.getElem?_cons_zero,Option.some.injEq]at h;subst h;exact⟨0,rfl⟩
   | succ j=>simp at h
  ·simp at h
 | .bool,z,j,y,h=>by
  simp only[nz]at h;split at h
  ·rename_i ht;subst ht;cases j with
   | zero=>simp only[List.getElem?_cons_zero,Option.some.injEq]at h;subst h;exact⟨0,rfl⟩
   | succ j=>simp at h
  ·simp at h
 | .str,z,j,y,h=>by
  simp only[nz]at h;split at h
  ·rename_i ht;subst ht;cases j with
   | zero=>simp only[List.getElem?_cons_zero,Option.some.injEq]at h;subst h;exact⟨0,rfl⟩
   | succ j=>simp at h
  ·simp at h
 | .raw _,_,_,_,h | .cap _ _,_,_,_,h | .unit,_,_,_,h | .agg _,_,_,_,h | .slice _ _,_,_,_,h=>by simp[nz]at h
def pv(C:Ctx)(X:TypeId):Option Ty:=match C.ty X with
 | some (.slice _ t)=>some t
 | _=>none
def v7(C:Ctx)(X:TypeId)(f:Nat)(t:Nat):V->M V
 | .ptr r p _=>match pP C X with
  | some ta=>match bB f ta with
   | some (off,t1)=>.ret (.ptr r (p++[.a7 f off]) t1)
   | none=>.fail
  | none=>.fail
 | .box _ _ _ _=>match pP C X with
  | some ta=>match bB f ta with
   | some (off,t1)=>.ret (.ptr t [.a7 f off] t1)
   | none=>.fail
  | none=>.fail
 | .rp l t' x=>match t',x with
  | .agg ta,x=>if pP C X=some ta then match comp f ta x with
    | some (_,⟨t1,x1⟩)=>.ret (.rp l t1 x1)
    | none=>.fail
   else .fail
  | _,_=>.fail
 | _=>.fail
def aaJ(t:Nat):V->M V
 | .ptr r p t'=>.ret (.ptr r p t')
 | .rp l t' x=>.ret (.rp l t' x)
 | .box _ _ t' _=>.ret (.ptr t [] t')
 | _=>.fail
def xh(C:Ctx)(X:TypeId)(t:Nat)(i:Int):V->M V
 | .d l n t' x=>match t',x with
  | .slice _ te,xs=>if pv C X=some te then .cM te (ae xs i) λy=>if n=0 then .ret (.rp l te y)else .ret (.ptr t [.idx te.sz i] te)
   else .fail
  | _,_=>.fail
 | .view r p t'=>.get r λu=>(rb p u).bind λz=>match z.2 with
  | ⟨n,.slice e te,xs⟩=>if .slice e te=t'/\pv C X=some te/\n≠0 then .cM te (ae xs i) λ_=>.ret (.ptr r (p++[.idx te.sz i]) te)else .fail
  | _=>.fail
 | .ptr r p _=>match pR C X with
  | some ta=>vP r p ta i 8 0
  | none=>.fail
 | .box _ _ _ _=>match pR C X with
  | some ta=>vP t [] ta i 8 0
  | none=>.fail
 | _=>.fail
def nE(s:ByteArray)(i:Int):Option Int:=if 0<=i then (s[i.toNat]?).map λb=>(b.toNat:Int)else none
def K9(tx:Ty)(t:Nat)(v:V):M V :=
 match tx with
 | .slice _ _=>(mN t v).bind λz=>match z.2 with
  | ⟨.slice _ _,xs⟩=>.ret (.d none 0 (.int .i64) (xs.length:Int))
  | _=>.fail
 | .str=>match v with
  | .d _ _ .str s=>.ret (.d none 0 (.int .i64) (s.size:Int))
  | _=>.fail
 | _=>.fail
section
variable{P:Program}{C:Ctx}{w w' w0:World}{S S':Nat->Prop}{L L' L0:Nat->aj}{s N:Nat}{vs:List Nat}{T T':List V}{tm tm':Array Value}{a:Act}
theorem aL.ptr[af](hI:Inv w0 L0 N vs T a w L){g:Nat}{p:List St}(aP:(execOp a.eval o).run P w = .ok (.value (.pointer (some ⟨g,(node [] 0 p).2,none⟩))) w)
  (hg:L g = .own r (node [] 0 p).1) (bf:∀r',(V.ptr r p t).on r'=true->r'∈vs):aL P o vs T a w L d (.ptr r p t):=
 ⟨_,w,L,aP,ew.refl hI d,λk q hk h=>(by rw[hI.free k hk]at h;cases h),bf,g,rfl,hg⟩
theorem abo[af](hC:bD P C){f o:Nat}{ta t1:Ty}(h1:pP C X=some ta)(h2:bB f ta=some (off,t1)):
  (Instr.fieldAt X (.pointer (some ⟨g,o,none⟩)) f).run P w = .ok (.pointer (some ⟨g,o+off,none⟩)) w:=by
 unfold pP at h1;split at h1
 ·rename_i t' ht;cases cT:t'.eN with
  | true=>rw[cT]at h1;cases h1
  | false =>
  rw[cT]at h1;injection h1 with h1;subst h1;obtain⟨⟨fs,hu,hf,hn⟩,_⟩:=(hC X _ ht).str cT;have ax:=hn f _ h2;have C3:fs[f]?=some fs[f]:=Array.getElem?_eq_getElem ax;obtain⟨t2,h3,h4,h5,_⟩:=hf f _ C3;rw[h2]at h3;simp only[Option.some.injEq,Prod.mk.injEq]at h3;obtain⟨rfl,rfl⟩:=h3;have hs:=(hC _ _ h4).run_sizeOf (w:=w);simp[Instr.fieldAt,run_underlying hu,ax,Instr.sureAddr,fieldPlace,hs,h5,Addr.add_lit]
 ·cases h1
theorem xz[af](q:List Nat)(o:Nat)(p:List St)(f off:Nat):node q o (p++[.a7 f off])=((node q o p).1,(node q o p).2+off):=by
 rw[Lw];rfl
theorem aba[af](hI:Inv w0 L0 N vs T a w L)(hC:bD P C){o:Oper}{t f:Nat}(ho:o.op = .fieldAddr X (.tmp t) f)
  (hid:(T.getD d .dead).idle=true) (h:(M.get t (v7 C X f t)).ai T v log) (bf:∀r,v.on r=true->r∈vs):aL P o vs T a w L d v:=by
 obtain⟨aG,rfl,h⟩:=h;have hs:=hI.aY t;generalize hv:T.getD t .dead=u at h hs;have key:∀{g o' off:Nat} {ta t1:Ty},a.tmps.getD t undef = .pointer (some ⟨g,o',none⟩)->pP C X=some ta->bB f ta=some (off,t1) ->
   (execOp a.eval o).run P w = .ok (.value (.pointer (some ⟨g,o'+off,none⟩))) w:=by
  intro g o' off ta t1 h1 h2 h3;have fh:a.eval (.tmp t)=_:=h1;simp[execOp,ho,fh,abo hC h2 h3]
 cases u with
 | ptr r p t' =>
  simp only[v7]at h;obtain⟨g,h1,h2⟩:=hs;split at h
  ·rename_i ta kr;split at h
   ·rename_i off t1 hc;obtain⟨rfl,_⟩:=h;refine aL.ptr hI (g:=g) ?_ ?_ bf
    ·rw[key h1 kr hc,xz]
    ·rw[xz];exact h2
   ·exact h.elim
  ·exact h.elim
 | box l n t' x =>
  simp only[v7]at h;obtain⟨_,g,cur,e,h1,h2,_⟩:=hs;split at h
  ·rename_i ta kr;split at h
   ·rename_i off t1 hc;obtain⟨rfl,_⟩:=h;refine aL.ptr hI (g:=g) ?_ ?_ bf
    ·rw[key h1 kr hc];rfl
    ·exact h2
   ·exact h.elim
  ·exact h.elim
 | rp l t' x =>
  simp only[v7]at h;cases t'<;>try exact h.elim
  rename_i ta;simp only at h;split at h
  ·rename_i kr;split at h
   ·rename_i off t1 x1 hc;obtain⟨rfl,_⟩:=h;obtain⟨h0,g,o',cs,h1,h2,h3,h4⟩:=hs;simp only[Rd]at h3;have sX:bB f ta=some (off,t1):=Wq hc;obtain⟨h5,h6⟩:=vV (n:=0) (q:=[]) (o:=0) (L:=L) (s:=0) hc (Own.dP h3);refine⟨_,w,L,key h1 kr sX,ew.refl hI d,λk q hk h=>(by rw[hI.free k hk]at h;cases h),bf,?_⟩;refine⟨λr hr=>?_,g,o'+off,_,rfl,h2,Own.eQ h6,λi v hv=>?_⟩
    ·have:=h0 r hr;rw[aH,if_neg (λh=>di hid (V.fq this) h.1)];exact this
    ·rw[List.getElem?_take]at hv;split at hv
     ·rw[List.getElem?_drop]at hv;rw[Nat.add_assoc];exact h4 _ _ hv
     ·cases hv
   ·exact h.elim
  ·exact h.elim
 | dead=>exact h.elim
 | bF _=>exact h.elim
 | d _ _ _ _=>exact h.elim
 | view _ _ _=>exact h.elim
 | hole _ _=>exact h.elim
 | part _ _ _ _ _=>exact h.elim
 | bP _ _ _ _=>exact h.elim
 | same _ _=>exact h.elim
 where
 Wq:{i:Nat}->{t:Ty}->{x:t.den}->{o1:Nat}->{t1:Ty}->{x1:t1.den}->comp i t x=some (o1,⟨t1,x1⟩)->bB i t=some (o1,t1):=by
  intro i t x o1 t1 x1 h;have bo:∃r,bB i t=some r:=by
   clear hC;revert x;induction t generalizing i o1 with
   | pair a b YG KP =>
    intro x h;cases i with
    | zero=>exact⟨_,rfl⟩
    | succ i =>
     simp only[comp,Option.map_eq_some_iff]at h;obtain⟨⟨o2,t2,x2⟩,h,he⟩:=h;simp only[Prod.mk.injEq]at he;obtain⟨rfl,he⟩:=he;cases he;obtain⟨r,hr⟩:=KP h;exact⟨(a.sz+r.1,r.2),by simp[bB,hr]⟩
   | _=>intro x h;cases i<;>simp_all [comp,bB]
  obtain⟨⟨o2,t2⟩,hr⟩:=bo;obtain⟨x2,lq⟩:=Jn (x:=x) hr;rw[h]at lq;simp only[Option.some.injEq,Prod.mk.injEq]at lq;obtain⟨rfl,lq⟩:=lq;cases lq;exact hr
theorem aqd[af](hI:Inv w0 L0 N vs T a w L){t:Nat}(ho:o.op = .nilCheck (.tmp t))
  (hid:(T.getD d .dead).idle=true) (h:(M.get t (aaJ t)).ai T v log) (bf:∀r,v.on r=true->r∈vs):aL P o vs T a w L d v:=by
 obtain⟨aG,rfl,h⟩:=h;have hs:=hI.aY t;generalize hv:T.getD t .dead=u at h hs;have key:∀{g o':Nat},a.tmps.getD t undef = .pointer (some ⟨g,o',none⟩)->(execOp a.eval o).run P w = .ok (.value (.pointer (some ⟨g,o',none⟩))) w:=by
  intro g o' h1;have fh:a.eval (.tmp t)=_:=h1;simp[execOp,ho,fh]
 cases u with
 | ptr r p t' =>
  obtain⟨rfl,_⟩:=h;obtain⟨g,h1,h2⟩:=hs;exact aL.ptr hI (g:=g) (key h1) h2 bf
 | rp l t' x =>
  obtain⟨rfl,_⟩:=h;obtain⟨h0,g,o',cs,h1,h2,h3,h4⟩:=hs;refine⟨_,w,L,key h1,ew.refl hI d,λk q hk h=>(by rw[hI.free k hk]at h;cases h),bf,λr hr=>?_,g,o',cs,rfl,h2,h3,h4⟩;have:=h0 r hr;rw[aH,if_neg (λh=>di hid (V.fq this) h.1)];exact this
 | box l n t' x =>
  obtain⟨rfl,_⟩:=h;obtain⟨_,g,cur,e,h1,h2,_⟩:=hs;exact aL.ptr hI (g:=g) (p:=[]) (key h1) h2 bf
 | dead=>exact h.elim
 | bF _=>exact h.elim
 | d _ _ _ _=>exact h.elim
 | view _ _ _=>exact h.elim
 | hole _ _=>exact h.elim
 | part _ _ _ _ _=>exact h.elim
 | bP _ _ _ _=>exact h.elim
 | same _ _=>exact h.elim
theorem abq[af](hC:bD P C){te:Ty}{o len cap:Nat}{i:Int}{k:IntKind}(h1:pv C X=some te)(h0:0<=i)(hi:i.toNat<len):
  (Instr.indexAt X (.slice (some ⟨g,o,none⟩) len cap) (.int k i)).run P w = .ok (.pointer (some ⟨g,o+i.toNat*te.sz,none⟩)) w:=by
 unfold pv at h1;split at h1
 ·rename_i e D9 ht;injection h1 with h1;subst h1;obtain⟨hu,he⟩:=(hC X _ ht).b7;have hs:=(hC _ _ he).run_sizeOf (w:=w);simp[Instr.indexAt,run_underlying hu,asIntOf,hs,Addr.add_lit];intro hle;exact absurd (hle h0) (by omega)
 ·cases h1
theorem abp[af](hC:bD P C){ta t1:Ty}{o j:Nat}{k:IntKind}(h1:pR C X=some ta)(h2:bB (j+1) ta=some (off,t1)):
  (Instr.indexAt X (.pointer (some ⟨g,o,none⟩)) (.int k (j:Int))).run P w = .ok (.pointer (some ⟨g,o+off,none⟩)) w:=by
 unfold pR at h1;split at h1
 ·rename_i t' ht;cases cT:t'.eN with
  | false=>rw[cT]at h1;cases h1
  | true =>
  rw[cT]at h1;injection h1 with h1;subst h1;obtain⟨n,e,te,hu,he,J1,hn,hc,hb⟩:=((hC X _ ht).b7).resolve_left (λh=>by rw[cT]at h;cases h.1) |>.2;have ax:=hb j _ h2;rw[hc j ax]at h2;simp only[Option.some.injEq,Prod.mk.injEq]at h2;obtain⟨rfl,rfl⟩:=h2;have hs:=(hC _ _ he).run_sizeOf (w:=w);simp[Instr.indexAt,run_underlying hu,asIntOf,hs,Addr.add_lit,Instr.sureAddr,ax]
 ·cases h1
theorem I2{i:Int}:∀(m k:Nat),(vP r p t i m k).ai T v log->∃(j:Nat) (off:Nat) (t1:Ty),i=(j:Int)/\bB (j+1) t=some (off,t1)/\v = .ptr r (p++[.a7 (j+1) off]) t1
 | 0,_,h=>h.elim
 | m+1,k,h=>by
  simp only[vP]at h;split at h
  ·rename_i off t1 hc;rcases h with⟨h1,h,_⟩|⟨_,h⟩
   ·exact⟨k,off,t1,of_decide_eq_true h1,hc,h⟩
   ·exact I2 m (k+1) h
  ·exact h.elim
theorem ap7[af](hI:Inv w0 L0 N vs T a w L)(hC:bD P C){Y:TypeId}{t:Nat}{k:IntKind}{i:Int}(ho:o.op = .indexAddr X (.tmp t) y)
  (hy:a.eval y = .int k i) (hid:(T.getD d .dead).idle=true) (h:(M.get t (xh C X t i)).ai T v log) (bf:∀r,v.on r=true->r∈vs):aL P o vs T a w L d v:=by
 obtain⟨aG,rfl,h⟩:=h;have hs:=hI.aY t;generalize hv:T.getD t .dead=u at h hs;have key:∀{g o' len cap:Nat} {te:Ty},a.tmps.getD t undef = .slice (some ⟨g,o',none⟩) len cap->pv C X=some te->0<=i->i.toNat<len ->
   (execOp a.eval o).run P w = .ok (.value (.pointer (some ⟨g,o'+i.toNat*te.sz,none⟩))) w:=by
  intro g o' len cap te h1 h2 h3 h4;have fh:a.eval (.tmp t)=_:=h1;simp[execOp,ho,fh,hy,abq hC h2 h3 h4]
 cases u with
 | d l n t' x =>
  simp only[xh]at h;cases t'<;>try exact h.elim
  rename_i e te;simp only at h;split at h
  ·rename_i gx;obtain⟨y0,jB,h⟩:=h;obtain⟨hi,kg,rfl⟩:=ma jB;obtain⟨h0,cs,hf,bz⟩:=hs;split at h
   ·rename_i hn;subst hn;obtain⟨rfl,_⟩:=h;simp only[Own,Rd]at bz;obtain⟨A,c,rfl,h1,h2,h3⟩:=bz;obtain⟨g,o',rfl,hS,nI⟩:=h3 (by rintro rfl;simp at hi);have hc:a.tmps.getD t undef=_:=((List.cons.inj hf).1).symm;obtain⟨es,nH,me⟩:=nI _ hi;refine⟨_,w,L,key hc gx kg hi,ew.refl hI d,λk q hk h=>(by rw[hI.free k hk]at h;cases h),bf,λr hr=>?_,g,_,es,rfl,hS,nH,λi v hv=>?_⟩
    ·have:=h0 r hr;rw[aH,if_neg (λh=>di hid (V.fq this) h.1)];exact this
    ·rw[Nat.add_assoc];exact me i v hv
   ·rename_i hn;obtain⟨rfl,_⟩:=h;obtain⟨m,rfl⟩:∃m,n=m+1:=⟨n - 1,by omega⟩;simp only[Own]at bz;rcases bz with⟨_,rfl⟩|⟨g,cap,cur,rfl,hL,_⟩
    ·simp at hi
    ·have hc:a.tmps.getD t undef=_:=((List.cons.inj hf).1).symm;refine aL.ptr hI (g:=g) ?_ hL bf;rw[key hc gx kg hi];simp[node]
  ·exact h.elim
 | view r p t' =>
  obtain⟨log2,rfl,h⟩:=h;obtain⟨⟨l,n,t2,xs⟩,l1,l2,rfl,h1,h2⟩:=M.aq h;cases t2<;>try exact h2.elim
  rename_i e te;simp only at h2;split at h2
  ·rename_i gx;obtain⟨rfl,gx,hn⟩:=gx;obtain⟨y0,jB,h2⟩:=h2;obtain⟨hi,kg,rfl⟩:=ma jB;obtain⟨rfl,_⟩:=h2;obtain⟨cs,hf,bz,_⟩:=Eh hI hs h1;obtain⟨m,rfl⟩:∃m,n=m+1:=⟨n - 1,by omega⟩;simp only[Own]at bz;rcases bz with⟨_,rfl⟩|⟨g,cap,cur,rfl,hL,_⟩
   ·simp at hi
   ·have hc:a.tmps.getD t undef=_:=((List.cons.inj hf).1).symm;refine aL.ptr hI (g:=g) ?_ ?_ bf
    ·rw[key hc gx kg hi,Lw];simp[node]
    ·rw[Lw];exact hL
  ·exact h2.elim
 | dead=>exact h.elim
 | bF _=>exact h.elim
 | rp _ _ _=>exact h.elim
 | ptr r p t' =>
  simp only[xh]at h;split at h
  ·rename_i ta kr;obtain⟨j,off,t1,rfl,hc,rfl⟩:=I2 8 0 h;obtain⟨g,h1,h2⟩:=hs;refine aL.ptr hI (g:=g) ?_ ?_ bf
   ·have fh:a.eval (.tmp t)=_:=h1;rw[xz];simp[execOp,ho,fh,hy,abp hC kr hc]
   ·rw[xz];exact h2
  ·exact h.elim
 | box l n t' x =>
  simp only[xh]at h;split at h
  ·rename_i ta kr;obtain⟨j,off,t1,rfl,hc,rfl⟩:=I2 8 0 h;obtain⟨_,g,cur,e,h1,h2,_⟩:=hs;refine aL.ptr hI (g:=g) ?_ ?_ bf
   ·have fh:a.eval (.tmp t)=_:=h1;rw[List.nil_append,show [St.a7 (j+1) off]=[]++[St.a7 (j+1) off]from rfl,xz];simp[execOp,ho,fh,hy,abp hC kr hc,node]
   ·exact h2
  ·exact h.elim
 | hole _ _=>exact h.elim
 | part _ _ _ _ _=>exact h.elim
 | bP _ _ _ _=>exact h.elim
 | same _ _=>exact h.elim
end
def tY(C:Ctx)(X:TypeId)(t:Nat)(lo:Int)(hi:Option Int)(v:V):M V :=
 match v with
 | .d _ _ .str s=>if C.ty X=some .str then .bn (decide (0<=lo)&&decide (lo<=hi.getD s.size)&&decide (hi.getD s.size<=s.size)) (.ret (.d none 0 .str (s.extract lo.toNat (hi.getD s.size).toNat)))else .fail
 | v=>(mN t v).bind λz=>match z with
  | (l,⟨.slice e te,xs⟩)=>if pv C X=some te then
    .bn (decide (0<=lo)&&decide (lo<=hi.getD (xs.length:Int))&&decide (hi.getD (xs.length:Int)<=(xs.length:Int)))
     (.ret (.d l 0 (.slice e te) ((xs.take (hi.getD (xs.length:Int)).toNat).drop lo.toNat)))
   else .fail
  | _=>.fail
def Lh(C:Ctx)(X:TypeId)(n c:Int):M V :=
 match C.ty X with
 | some (.slice e te)=>.bn (decide (0<=n)&&decide (n<=c)&&decide (c*C.bytes e<=140737488355328)&&decide (c<=9223372036854775807)) (.ret (.d none (te.depth+1) (.slice e te) (List.replicate n.toNat te.zero)))
 | _=>.fail
def IP(C:Ctx)(X:TypeId):M V :=
 match C.ty X with
 | some t=>.ret (.box none t.depth t t.zero)
 | none=>.fail
section
variable{P:Program}{C:Ctx}{w w' w0:World}{S S':Nat->Prop}{L L' L0:Nat->aj}{s N:Nat}{vs:List Nat}{T T':List V}{tm tm':Array Value}{a:Act}
theorem qR[af](hI:Inv w0 L0 N vs T a w L){t:Nat}{t':Ty}{x:t'.den}{v:V}  
  (h:(mN t v).ai T (l,⟨t',x⟩) log) (hs:aD L T a.tmps t v w c) (hv:v.aM=true->v=T.getD t .dead) :
  ∃cs,Form t' cs c/\Rd w (SL L l) t' x cs/\∀r,l=some r->(T.getD r .dead).deep=true:=by
 cases v with
 | d l0 n0 t0 x0 =>
  simp only[mN]at h;obtain⟨h0,cs,hf,bz⟩:=hs;split at h
  ·rename_i hn;obtain⟨h,_⟩:=h;cases h;exact⟨cs,hf,Own.eQ (Own.bA (s':=0) (q':=[]) (o':=0) (n':=0) hn bz (.inl rfl)),h0⟩
  ·rename_i hn;have wS:=not_or.1 hn;split at h
   ·obtain⟨h,_⟩:=h;cases h;refine⟨cs,hf,Own.rd (λk q hk=>.inr ⟨t,q,rfl,hk⟩) (λk hk=>?_) bz,λr hr=>?_⟩
    ·rcases hk with hk|⟨_,_,hk,_⟩
     ·exact .inl hk
     ·cases hk
    ·cases hr;rw[<-hv (by simp[V.aM,wS])];simp[V.deep,wS]
   ·exact h.elim
 | view r p t2 =>
  obtain⟨aG,rfl,h⟩:=h;obtain⟨⟨l0,n0,t0,x0⟩,l1,l2,rfl,h1,h2⟩:=M.aq h;simp only at h2;split at h2
  ·split at h2
   ·rename_i ht;subst ht;obtain⟨h2,_⟩:=h2;cases h2;obtain⟨cs,hf,bz,_,cF⟩:=Eh hI hs h1;refine⟨cs,hf,Own.rd (λk q hk=>.inr ⟨r,q,rfl,hk⟩) (λk hk=>?_) bz,λr' hr=>?_⟩
    ·rcases hk with hk|⟨_,_,hk,_⟩
     ·exact .inl hk
     ·cases hk
    ·cases hr;exact cF
   ·exact h2.elim
  ·exact h2.elim
 | dead=>exact h.elim
 | bF _=>exact h.elim
 | rp _ _ _=>exact h.elim
 | ptr _ _ _=>exact h.elim
 | box _ _ _ _=>exact h.elim
 | hole _ _=>exact h.elim
 | part _ _ _ _ _=>exact h.elim
 | bP _ _ _ _=>exact h.elim
 | same _ _=>exact h.elim
theorem aqa[af](hI:Inv w0 L0 N vs T a w L)(hC:bD P C){t:Nat}{tx:Ty}(ho:o.op = .call { callee:=.builtin .len,args:=#[.tmp t],argTypes:=#[X] })
  (hX:C.ty X=some tx) (h:(M.get t (K9 tx t)).ai T v log):aL P o vs T a w L d v:=by
 obtain⟨aG,rfl,h⟩:=h;have hs:=hI.aY t;have key:∀c,(Builtin.len_ #[X] o.type #[a.eval (.tmp t)]).run P w = .ok c w->(execOp a.eval o).run P w = .ok (.value c) w:=by
  intro c hc;simp[execOp,ho,resolve,invoke,builtin,hc]
 unfold K9 at h;split at h
 ·obtain⟨⟨l,t2,x2⟩,l1,l2,rfl,h1,h2⟩:=M.aq h;cases t2<;>try exact h2.elim
  obtain⟨rfl,_⟩:=h2;obtain⟨cs,hf,hr,_⟩:=qR hI h1 hs (λ_=>rfl);simp only[Rd]at hr;obtain⟨A,c,rfl,_⟩:=hr;have hc:a.eval (.tmp t)=_:=((List.cons.inj hf).1).symm;refine aL.still hI (key _ ?_) (λ_=>rfl) aD.mkInt;rw[hc];have hu:=(hC X _ hX).b7;simp[Builtin.len_,run_underlying hu.1,goInt]
 ·split at h
  ·rename_i l n sx hv;obtain⟨rfl,_⟩:=h;rw[hv]at hs;have hc:a.eval (.tmp t)=_:=hs.str;refine aL.still hI (key _ ?_) (λ_=>rfl) aD.mkInt;rw[hc];have hu:=(hC X _ hX).b7;simp[Builtin.len_,run_underlying hu,goInt]
  ·exact h.elim
 ·exact h.elim
theorem ew.alloc[af](hI:Inv w0 L0 N vs T a w L)(d:Nat)(q:List Nat)(ob:Obj):ew w (w.alloc ob) L (λk=>if k=w.heap.size then .own d q else L k) d:=by
 refine⟨rfl,rfl,rfl,by simp,Nat.le_refl _,λk hk=>?_,λk s q' hk h=>?_,λk k' q' hk aI h h'=>?_,λk hk=>?_⟩
 ·rw[if_neg (by omega)];exact⟨rfl,Go.RowKit.Below.heap_alloc w ob k hk⟩
 ·split at h
  ·injection h with h _;exact h.symm
  ·rw[hI.free k hk]at h;cases h
 ·split at h
  ·split at h'
   ·omega
   ·rw[hI.free k' aI]at h';cases h'
  ·rw[hI.free k hk]at h;cases h
 ·simp at hk;rw[if_neg (by omega)];exact hI.free k (by omega)
theorem Form.cells{t:Ty}{c:Value}(h:Form t cs c)(h1:∀v∈cs,v.oneCell'=true):c.cells.toList=cs:=by
 have key:cs=[c]->c.cells.toList=cs:=λh=>by
  subst h;have:=h1 c (by simp);cases c<;>simp_all [Value.cells,Value.oneCell']
 cases t<;>first|exact key h|(simp only[Form]at h;subst h;rfl)
theorem o3(w:World)(ob:Obj):(w.alloc ob).heap[w.heap.size]?=some ob:=by
 show (w.heap.push ob)[w.heap.size]?=_;simp
theorem ap1[af](hI:Inv w0 L0 N vs T a w L)(hC:bD P C){o:Oper}(ho:o.op = .alloc X)
  (h:(IP C X).ai T v log):aL P o vs T a w L d v:=by
 unfold IP at h;split at h
 ·rename_i t hX;obtain⟨rfl,_⟩:=h;obtain⟨i,z,h1,h2,h3,h4,h5⟩:=(hC X t hX).info;have ee:∀v∈t.cu,v.oneCell'=true:=Own.one (Own.zero (w:=w) (L:=L) (S:=λ_=>True) (s:=0) (n:=0) (t:=t) (q:=[]) (o:=0));have jt:=Form.cells h5 ee;refine⟨.pointer (some ⟨w.heap.size,0,none⟩),w.alloc (.cells z.cells X),_,?_,ew.alloc hI d [] _,λ_ _ _ _=>rfl,λr hr=>(by simp[V.on,V.root]at hr),?_⟩
  ·simp[execOp,ho,Instr.alloc,zeroValue,Go.run_typeInfo w h1,h4,newVar,newRow,newObj,Sem.run]
  ·refine⟨by simp,w.heap.size,z.cells,X,rfl,by simp,o3 _ _,?_,?_⟩
   ·rw[<-Array.length_toList,jt,Ty.jN]
   ·rw[jt];exact Own.zero
 ·exact h.elim
theorem Lg(cz:Array Value)(n:Nat):∀j,j<n->(((Array.range (n*cz.size)).map (cz[· % cz.size]!)).toList.drop (j*cz.size)).take cz.size=cz.toList:=by
 intro j hj;apply List.ext_getElem?;intro i;rw[List.getElem?_take,List.getElem?_drop];have hb:j*cz.size+cz.size<=n*cz.size:=by
  calc j*cz.size+cz.size=(j+1)*cz.size:=by rw[Nat.add_mul,Nat.one_mul]
   _<=n*cz.size:=Nat.mul_le_mul_right _ hj
 split
 ·rename_i hi;have h2:(j*cz.size+i) % cz.size=i:=by rw[Nat.add_comm,Nat.add_mul_mod_self_right,Nat.mod_eq_of_lt hi]
  simp only[Array.toList_map,Array.toList_range,List.getElem?_map,List.getElem?_range (show j*cz.size+i<n*cz.size by omega),Option.map_some,h2,Array.getElem?_toList];rw[Array.getElem?_eq_getElem hi];simp[hi]
 ·rename_i hi;rw[List.getElem?_eq_none (by simpa using hi)]
theorem aqc[af](hI:Inv w0 L0 N vs T a w L)(hC:bD P C){o:Oper}{n c:Int}{k1 k2:IntKind}(ho:o.op = .makeSlice X x y)
  (hx:a.eval x = .int k1 n) (hy:a.eval y = .int k2 c) (h:(Lh C X n c).ai T v log):aL P o vs T a w L d v:=by
 unfold Lh at h;split at h
 ·rename_i e te hX;obtain⟨hc,rfl,_⟩:=h;simp only[Bool.and_eq_true,decide_eq_true_eq]at hc;obtain⟨⟨⟨iS,hnc⟩,hb⟩,hm⟩:=hc;obtain⟨hu,he⟩:=(hC X _ hX).b7;obtain⟨i,z,h1,h2,h3,h4,h5⟩:=(hC e te he).info;have ee:∀v∈te.cu,v.oneCell'=true:=Own.one (Own.zero (w:=w) (L:=L) (S:=λ_=>True) (s:=0) (n:=0) (t:=te) (q:=[]) (o:=0));have jt:=Form.cells h5 ee;have bq:z.cells.size=te.sz:=by rw[<-Array.length_toList,jt,Ty.jN]
  have wn:IntKind.i64.wrap n=n:=IntWalk.i64_in _ (by omega);have wc:IntKind.i64.wrap c=c:=IntWalk.i64_in _ (by omega);let cur:Array Value:=(Array.range (c.toNat*te.sz)).map (z.cells[· % z.cells.size]!);refine⟨.slice (some ⟨w.heap.size,0,none⟩) n.toNat c.toNat,w.alloc (.cells cur e),_,?_,ew.alloc hI d [0] _,λ_ _ _ _=>(by simp[V.aM,Ty.depth]),λr hr=>(by simp[V.on,V.root]at hr),?_⟩
  ·have tl:¬(c.toNat*i.bytes>roomBytes):=by
    rw[h3];unfold roomBytes;have:((c.toNat*C.bytes e:Nat):Int)<=140737488355328:=by
     rw[Int.natCast_mul,Int.toNat_of_nonneg (by omega)];exact hb
    omega
   have axE:¬(c<0\/(i.bytes:Int)*c>2 ^ 48):=by
    rw[h3,Int.mul_comm];omega
   have XM:¬((decide (c<0)||decide ((i.bytes:Int)*c>2 ^ 48))=true\/n<0\/n>c):=by
    simp only[Bool.or_eq_true,decide_eq_true_eq];omega
   by_cases hz:c.toNat*te.sz=0
   ·have oX:cur=#[]:=by
     show (Array.range (c.toNat*te.sz)).map (z.cells[· % z.cells.size]!)=#[];rw[hz];simp
    rw[oX];simp only[execOp,ho,Instr.makeSlice,hx,hy,asInt,asIntOf,Sem.run_bind,run_underlying hu,Result.andThen_ok,Sem.run_pure,Go.run_typeInfo w h1,wn,wc,Sem.run_ite];rw[if_neg (by simp only[Bool.or_eq_true,decide_eq_true_eq]at XM ⊢;omega)];simp[askRoom,tl,(hC e te he).run_sizeOf,hz,newRow,newObj,Sem.run,Array.range_zero']
   ·simp only[execOp,ho,Instr.makeSlice,hx,hy,asInt,asIntOf,Sem.run_bind,run_underlying hu,Result.andThen_ok,Sem.run_pure,Go.run_typeInfo w h1,wn,wc,Sem.run_ite];rw[if_neg (by simp only[Bool.or_eq_true,decide_eq_true_eq]at XM ⊢;omega)];simp[askRoom,tl,(hC e te he).run_sizeOf,hz,newRow,newObj,Sem.run,zeroValue,Go.run_typeInfo w h1,h4,cur]
  ·refine⟨by simp,_,rfl,?_⟩;simp only[Own];refine .inr ⟨w.heap.size,c.toNat,cur,by simp,by simp,o3 _ _,by simp;omega,by unfold maxLen;omega,by simp[cur],λj hj=>?_⟩;simp only[List.length_replicate]at hj;have qe:((cur.toList.drop (j*te.sz)).take te.sz)=te.cu:=by
    have:=Lg z.cells c.toNat j (by omega);rw[bq]at this;rw[<-jt];show (((Array.range (c.toNat*te.sz)).map (z.cells[· % z.cells.size]!)).toList.drop (j*te.sz)).take te.sz=_;rw[bq];exact this
   rw[qe,List.getElem_replicate];exact Own.zero
 ·exact h.elim
end
def Ty.la:Ty->Nat
 | .pair a b=>max a.la b.la
 | .agg t=>t.la+1
 | .slice _ t=>t.la+1
 | _=>0
def dC:(t:Ty)->t.den->t.den->Option Bool
 | .int _,x,y=>some (x==y)
 | .bool,x,y=>some (x==y)
 | .str,x,y=>some (x.toList==y.toList)
 | .agg t,x,y=>dC t x y
 | .pair a b,x,y=>match dC a x.1 y.1,dC b x.2 y.2 with
  | some p,some q=>some (p&&q)
  | _,_=>none
 | _,_,_=>none
section
variable{P:Program}{C:Ctx}{w w' w0:World}{S S':Nat->Prop}{L L' L0:Nat->aj}{s N:Nat}{vs:List Nat}{T T':List V}{tm tm':Array Value}{a:Act}
def FT(C:Ctx):Nat->Ty->List Field->Prop
 | off, .pair a b, fl => ∃ f oQ, fl = f :: oQ /\ f.offset = off /\ C.ty f.type = some a /\ f.name ≠ "_" /\ FT C (off + a.sz) b oQ
 | off, t, fl => ∃ f, fl = [f] /\ f.offset = off /\ C.ty f.type = some t /\ f.name ≠ "_"
theorem FT.of:{t : Ty} -> {off : Nat} -> {fl : List Field} -> (∀ (j : Nat) (f : Field), fl[j]? = some f -> ∃ o1 t1, bB j t = some (o1, t1) /\ f.offset = off + o1 /\ C.ty f.type = some t1 /\ f.name ≠ "_") ->
  (∀j r,bB j t=some r->j<fl.length)->FT C off t fl
 | .pair a b,off,fl,h1,h2=>by
  have:=h2 0 _ rfl
  match fl,this with
  | f::oQ,_ =>
   obtain⟨o1,t1,h3,h4,h5,h6⟩:=h1 0 f rfl;simp only[bB,Option.some.injEq,Prod.mk.injEq]at h3;obtain⟨rfl,rfl⟩:=h3;refine⟨f,oQ,rfl,by simpa using h4,h5,h6,FT.of (λj g hg=>?_) (λj r hr=>?_)⟩
   ·obtain⟨o1,t1,h3,h4,h5⟩:=h1 (j+1) g hg;simp only[bB,Option.map_eq_some_iff]at h3;obtain⟨⟨o2,t2⟩,h3,he⟩:=h3;simp only[Prod.mk.injEq]at he;obtain⟨rfl,rfl⟩:=he;exact⟨o2,t2,h3,by omega,h5⟩
   ·have:=h2 (j+1) (a.sz+r.1,r.2) (by simp[bB,hr]);simp at this;omega
 | .int _,off,fl,h1,h2 | .bool,off,fl,h1,h2 | .str,off,fl,h1,h2 | .raw _,off,fl,h1,h2 | .cap _ _,off,fl,h1,h2 | .unit,off,fl,h1,h2 | .agg _,off,fl,h1,h2 | .slice _ _,off,fl,h1,h2=>by
  have:=h2 0 _ rfl
  match fl,this with
  | f::oQ,_ =>
   obtain⟨o1,t1,h3,h4,h5,h6⟩:=h1 0 f rfl;simp only[bB,Option.some.injEq,Prod.mk.injEq]at h3;obtain⟨rfl,rfl⟩:=h3
   match oQ with
   | []=>exact⟨f,rfl,by simpa using h4,h5,h6⟩
   | g::_ =>
    obtain⟨_,_,h3,_⟩:=h1 1 g rfl;simp[bB]at h3
theorem xN[af](hC:bD P C){t:Ty}{x:t.den}{xs:Array Value}{off:Nat}(hX:C.ty X=some t)(hb:off+t.sz<=xs.size)
  (h:Rd w S t x ((xs.toList.drop off).take t.sz)):∃c,(part X xs off).run P w = .ok c w/\Form t ((xs.toList.drop off).take t.sz) c:=by
 have qt:=hC X t hX;cases ha:t.isAgg with
 | true =>
  refine⟨.agg (xs.extract off (off+t.sz)),?_,?_⟩
  ·unfold part;simp[qt.DZ,ha,qt.run_sizeOf]
  ·cases t<;>simp[Ty.isAgg]at ha;simp only[Form,Ty.sz];congr 1;apply Array.ext';simp[List.take_drop]
 | false =>
  have bq:=qt.oq ha;obtain⟨c,hc,hf⟩:=Form.aaQ bq ha (Rd.len h);refine⟨c,?_,by rw[hc]at hf ⊢;exact hf⟩;unfold part;have:xs[off]?=some c:=by
   have h0:((xs.toList.drop off).take t.sz)[0]?=some c:=by rw[hc];rfl
   rw[List.getElem?_take,if_pos (by omega),List.getElem?_drop]at h0;simpa using h0
  simp[qt.DZ,ha,this]
theorem Form.agg{t:Ty}{c:Value}(h:Form (.agg t) cs c):c = .agg cs.toArray:=h
theorem ak4[af](hC:bD P C):(t:Ty) ->
  (∀(X:TypeId) (d:Nat) (x y:t.den) (jn cN:List Value) (c1 c2:Value) (b:Bool) (S:Nat->Prop) (S2:Nat->Prop),C.ty X=some t->t.la<d->Form t jn c1->Form t cN c2->Rd w S t x jn->Rd w S2 t y cN->dC t x y=some b ->
   (Op.equalIn d X c1 c2).run P w = .ok b w) /\
  (∀(off:Nat) (fl:List Field) (d:Nat) (x y:t.den) (xs ys:Array Value) (b:Bool) (S:Nat->Prop) (S2:Nat->Prop),FT C off t fl->t.la<d->off+t.sz<=xs.size->off+t.sz<=ys.size ->
   Rd w S t x ((xs.toList.drop off).take t.sz)->Rd w S2 t y ((ys.toList.drop off).take t.sz)->dC t x y=some b->(Op.eqFields d xs ys fl).run P w = .ok b w):=by
 have o8:∀t:Ty,(∀a b,t ≠ .pair a b)->(∀(X:TypeId) (d:Nat) (x y:t.den) (jn cN:List Value) (c1 c2:Value) (b:Bool) (S:Nat->Prop) (S2:Nat->Prop),C.ty X=some t->t.la<d->Form t jn c1->Form t cN c2->Rd w S t x jn->Rd w S2 t y cN->dC t x y=some b ->
   (Op.equalIn d X c1 c2).run P w = .ok b w) ->
  (∀(off:Nat) (fl:List Field) (d:Nat) (x y:t.den) (xs ys:Array Value) (b:Bool) (S:Nat->Prop) (S2:Nat->Prop),FT C off t fl->t.la<d->off+t.sz<=xs.size->off+t.sz<=ys.size ->
   Rd w S t x ((xs.toList.drop off).take t.sz)->Rd w S2 t y ((ys.toList.drop off).take t.sz)->dC t x y=some b->(Op.eqFields d xs ys fl).run P w = .ok b w):=by
  intro t ht ih off fl d x y xs ys b S S2 hf hd qd J2 h1 h2 he;have wC : ∃ f, fl = [f] /\ f.offset = off /\ C.ty f.type = some t /\ f.name ≠ "_" := by
   cases t<;>first|exact hf|exact absurd rfl (ht _ _)
  obtain⟨f,rfl,rfl,hX,gq⟩:=wC;obtain⟨c1,p1,f1⟩:=xN (w:=w) hC hX qd h1;obtain⟨c2,p2,f2⟩:=xN (w:=w) hC hX J2 h2;have:=ih f.type d x y _ _ c1 c2 b S S2 hX hd f1 f2 h1 h2 he;simp only[Op.eqFields,if_pos gq,Sem.run_bind,p1,p2,Result.andThen_ok,this,Sem.run_ite,Sem.run_pure];cases b<;>simp
 intro t;induction t with
 | int k =>
  refine (λh=>⟨h,o8 _ (by simp) h⟩) ?_;intro X d x y jn cN c1 c2 b S S2 hX hd f1 f2 h1 h2 he;obtain⟨d,rfl⟩:∃m,d=m+1:=⟨d - 1,by omega⟩;simp only[Rd]at h1 h2;subst h1 h2;obtain rfl:=(List.cons.inj f1).1;obtain rfl:=(List.cons.inj f2).1;simp only[dC,Option.some.injEq]at he;subst he;exact run_equalIn_int w d X k k _ _ (hC X _ hX).b7
 | bool =>
  refine (λh=>⟨h,o8 _ (by simp) h⟩) ?_;intro X d x y jn cN c1 c2 b S S2 hX hd f1 f2 h1 h2 he;obtain⟨d,rfl⟩:∃m,d=m+1:=⟨d - 1,by omega⟩;simp only[Rd]at h1 h2;subst h1 h2;obtain rfl:=(List.cons.inj f1).1;obtain rfl:=(List.cons.inj f2).1;simp only[dC,Option.some.injEq]at he;subst he;exact run_equalIn_bool' w d X _ _ (hC X _ hX).b7
 | str =>
  refine (λh=>⟨h,o8 _ (by simp) h⟩) ?_;intro X d x y jn cN c1 c2 b S S2 hX hd f1 f2 h1 h2 he;obtain⟨d,rfl⟩:∃m,d=m+1:=⟨d - 1,by omega⟩;simp only[Rd]at h1 h2;subst h1 h2;obtain rfl:=(List.cons.inj f1).1;obtain rfl:=(List.cons.inj f2).1;simp only[dC,Option.some.injEq]at he;subst he;exact run_equalIn_string w d X _ _ (hC X _ hX).b7
 | raw z=>exact (λh=>⟨h,o8 _ (by simp) h⟩) (by intro _ _ _ _ _ _ _ _ _ _ _ _ _ _ _ _ _ he;simp[dC]at he)
 | cap k0 t0=>exact (λh=>⟨h,o8 _ (by simp) h⟩) (by intro _ _ _ _ _ _ _ _ _ _ _ _ _ _ _ _ _ he;simp[dC]at he)
 | unit=>exact (λh=>⟨h,o8 _ (by simp) h⟩) (by intro _ _ _ _ _ _ _ _ _ _ _ _ _ _ _ _ _ he;simp[dC]at he)
 | slice e t=>exact (λh=>⟨h,o8 _ (by simp) h⟩) (by intro _ _ _ _ _ _ _ _ _ _ _ _ _ _ _ _ _ he;simp[dC]at he)
 | agg t ih =>
  refine (λh=>⟨h,o8 _ (by simp) h⟩) ?_;intro X d x y jn cN c1 c2 b S S2 hX hd f1 f2 h1 h2 he;obtain⟨d,rfl⟩:∃m,d=m+1:=⟨d - 1,by omega⟩;obtain rfl:=f1.agg;obtain rfl:=f2.agg;have cT:t.eN=false:=by
   cases cT:t.eN with
   | false=>rfl
   | true =>
    unfold Ty.eN at cT;split at cT
    ·simp[dC]at he
    ·cases cT
  obtain⟨⟨fs,hu,nK⟩,ba,_⟩:=(hC X _ hX).str cT;have C3:P.fieldsOf X=fs:=by simp[Program.fieldsOf,hu]
  rw[run_equalIn_struct w d X _ _ (by rw[C3];exact hu) ba,C3];simp only[Ty.la]at hd;simp only[Rd]at h1 h2;refine ih.2 0 fs.toList d x y _ _ b S S2 ?_ (by omega) (by simp[Rd.len h1]) (by simp[Rd.len h2]) ?_ ?_ he
  ·refine FT.of (λj f hj=>?_) (λj r hr=>by simpa using nK.2 j r hr);obtain⟨t1,h3,h4,_,h5⟩:=nK.1 j f (by simpa using hj);exact⟨f.offset,t1,h3,by omega,h4,h5⟩
  ·simpa[List.take_of_length_le (Nat.le_of_eq (Rd.len h1))]using h1
  ·simpa[List.take_of_length_le (Nat.le_of_eq (Rd.len h2))]using h2
 | pair a b YG KP =>
  refine⟨λX d x y jn cN c1 c2 b S S2 hX=>((hC X _ hX).b7).elim,?_⟩;intro off fl d x y xs ys r S S2 hf hd qd J2 h1 h2 he;simp only[FT]at hf;obtain⟨f,oQ,rfl,rfl,hX,gq,hf⟩:=hf;simp only[Ty.la]at hd;simp only[Ty.sz]at qd J2 h1 h2;simp only[Rd]at h1 h2;obtain⟨c0,c1,e1,mb,JU⟩:=h1;obtain⟨d0,d1,e2,CQ,JV⟩:=h2;have abF:∀{zs:Array Value} {u0 u1:List Value},(zs.toList.drop f.offset).take (a.sz+b.sz)=u0++u1->u0.length=a.sz->u1.length=b.sz ->
    (zs.toList.drop f.offset).take a.sz=u0/\(zs.toList.drop (f.offset+a.sz)).take b.sz=u1:=by
   intro zs u0 u1 he kl X1;constructor
   ·have:=congrArg (List.take a.sz) he;rw[List.take_take,Nat.min_eq_left (by omega),List.take_left' kl]at this;exact this
   ·have:=congrArg (List.drop a.sz) he;rw[List.drop_take,List.drop_drop,List.drop_left' kl]at this;rw[<-this];congr 1;omega
  obtain⟨s1,s2⟩:=abF e1 (Rd.len mb) (Rd.len JU);obtain⟨t1,t2⟩:=abF e2 (Rd.len CQ) (Rd.len JV);rw[<-s1]at mb;rw[<-s2]at JU;rw[<-t1]at CQ;rw[<-t2]at JV;obtain⟨p1,q1,f1⟩:=xN (w:=w) hC hX (by omega) mb;obtain⟨p2,q2,f2⟩:=xN (w:=w) hC hX (by omega) CQ;simp only[dC]at he;split at he
  ·rename_i u v hu hv;simp only[Option.some.injEq]at he;subst he;have k1:=YG.1 f.type d x.1 y.1 _ _ p1 p2 u S S2 hX (by omega) f1 f2 mb CQ hu;have k2:=KP.2 (f.offset+a.sz) oQ d x.2 y.2 xs ys v S S2 hf (by omega) (by omega) (by omega) JU JV hv;simp only[Op.eqFields,if_pos gq,Sem.run_bind,q1,q2,Result.andThen_ok,k1,Sem.run_ite,Sem.run_pure,k2];cases u<;>simp
  ·cases he
end
def V6(op:BinOp)(b:Bool):M V :=
 match op with
 | .eql=>.ret (.d none 0 .bool b)
 | .neq=>.ret (.d none 0 .bool (!b))
 | _=>.fail
def I7(C:Ctx)(op:BinOp)(X:TypeId):V->V->M V
 | .d l n (.int k) x,.d l' n' (.int k') y=>if YJ op=true then Ma op k x y else if k=k' then KQ op k x y else .fail
 | .d l n .str x,.d l' n' .str y=>Mp op x y
 | .d none n t x,.d none n' t' y=>if h:t'=t then if C.ty X=some t/\t.la<10000/\t.depth=0 then match dC t x (h▸y)with
   | some b=>V6 op b
   | none=>.fail
  else .fail else .fail
 | _,_=>.fail
def jG(C:Ctx):Option Operand->M (Option Int)
 | none=>.ret none
 | some x=>(cK C 0 x).bind λv=>match v with
  | .d _ _ (.int _) i=>.ret (some i)
  | _=>.fail
def Jq(C:Ctx)(src dst:TypeId)(v:V):M V :=
 match C.ty src,C.ty dst,v with
 | some (.int _),some (.int k),.d _ _ (.int _) n=>.ret (.d none 0 (.int k) (k.wrap n))
 | some .str,some .str,.d _ _ .str s=>.ret (.d none 0 .str s)
 | _,_,_=>.fail
def fH(vs:List Nat):V->Bool
 | .d (some r) _ _ _=>vs.contains r
 | .box (some r) _ _ _=>vs.contains r
 | .rp (some r) _ _=>vs.contains r
 | .ptr r _ _=>vs.contains r
 | .view r _ _=>vs.contains r
 | .hole _ _=>false
 | .part _ _ _ _ _=>false
 | .same r _=>vs.contains r
 | _=>true
def strOf(xs:List Int):ByteArray:=xs.foldl (λr n=>r.push (UInt8.ofNat n.toNat)) ByteArray.empty
def LQ(C:Ctx)(o:Oper):M V :=
 match o.op with
 | .move x=>qJ C o.type x
 | .pick c x y=>(cK C o.type c).bind λv=>match v with
  | .d _ _ .bool b=>match b with
   | true=>qJ C o.type x
   | false=>qJ C o.type y
  | _=>.fail
 | .alloc X=>IP C X
 | .load X (.tmp t)=>.get t (Lb C X t)
 | .nilCheck (.tmp t)=>.get t (aaJ t)
 | .fieldAddr X (.tmp t) f=>.get t (v7 C X f t)
 | .indexAddr X (.tmp t) y=>(cK C 0 y).bind λv=>match v with
  | .d _ _ (.int _) i=>.get t (xh C X t i)
  | _=>.fail
 | .index X x y=>(cK C X x).bind λu=>(cK C 0 y).bind λv=>match u,v with
  | .d _ _ .str s,.d _ _ (.int _) i=>if C.ty X=some .str then .cM (.int .u8) (nE s i) λb=>.ret (.d none 0 (.int .u8) b)else .fail
  | .d _ _ (.agg (.pair .unit t)) z,.d _ _ (.int _) i=>if pR C X=some (.pair .unit t)/\(sE t).depth=0 then .cM (sE t) (ae (nz (sE t) t z.2) i) λy=>.ret (.d none 0 (sE t) y)else .fail
  | _,_=>.fail
 | .binOp op X x y _=>(cK C X x).bind λu=>(cK C X y).bind λv=>I7 C op X u v
 | .unOp op X x=>(cK C X x).bind λu=>MB op u
 | .convert src dst x=>match C.ty src,C.ty dst,x with
  | some (.slice _ (.int .u8)),some .str,.tmp t=>.get t λv=>(mN t v).bind λz=>match z.2 with
   | ⟨.slice _ (.int .u8),xs⟩=>.ret (.d none 0 .str (strOf xs))
   | _=>.fail
  | _,_,x=>(cK C src x).bind λu=>Jq C src dst u
 | .makeSlice X x y=>(cK C 0 x).bind λu=>(cK C 0 y).bind λv=>match u,v with
  | .d _ _ (.int _) n,.d _ _ (.int _) c=>Lh C X n c
  | _,_=>.fail
 | .slice X (.tmp t) lo hi none=>(jG C lo).bind λl=>(jG C hi).bind λh=>.get t λv=>tY C X t (l.getD 0) h v
 | .slice X (.const (.string sx)) lo hi none=>(jG C lo).bind λl=>(jG C hi).bind λh=>tY C X 0 (l.getD 0) h (.d none 0 .str sx)
 | .call c=>match c.callee,c.args.toList,c.argTypes.toList with
  | .builtin .len,[.tmp t],[X]=>match C.ty X with
   | some tx=>.get t (K9 tx t)
   | none=>.fail
  | _,_,_=>.fail
 | _=>.fail
section
variable{P:Program}{C:Ctx}{w w' w0:World}{S S':Nat->Prop}{L L' L0:Nat->aj}{s N:Nat}{vs:List Nat}{T T':List V}{tm tm':Array Value}{a:Act}
theorem qN{v:V}(h:fH vs v=true):∀r,v.on r=true->r∈vs:=by
 intro r hr;cases v with
 | d l n t x=>cases l<;>simp_all [V.on,V.root,fH]
 | box l n t x=>cases l<;>simp_all [V.on,V.root,fH]
 | rp l t x=>cases l<;>simp_all [V.on,V.root,fH]
 | ptr r p t=>simp_all [V.on,V.root,fH]
 | view r p t=>simp_all [V.on,V.root,fH]
 | hole v p=>simp[fH]at h
 | part _ _ _ _ _=>simp[fH]at h
 | same r t=>simp_all [V.on,V.root,fH]
 | bP _ _ _ _=>simp[V.on,V.root]at hr
 | dead=>simp[V.on,V.root]at hr
 | bF _=>simp[V.on,V.root]at hr
theorem M.aqz{α:Type}{T:List V}{t:Nat}{k:V->M α}{b:α}(h:(M.get t k).ai T b log):∃aG,(k (T.getD t .dead)).ai T b aG:=by
 obtain⟨l,rfl,h⟩:=h;exact⟨l,h⟩
theorem aaW[af](hI:Inv w0 L0 N vs T a w L){y:t.den}(hd:t.depth=0)(h:(cK C X x).ai T (.d none n t y) log):
  ∃cs,Form t cs (a.eval x)/\Rd w (SL L none) t y cs:=by
 have key:∀{s:Nat},aD L T a.tmps s (.d none n t y) w (a.eval x)->∃cs,Form t cs (a.eval x)/\Rd w (SL L none) t y cs:=by
  rintro s ⟨_,cs,hf,ho⟩
  exact⟨cs,hf,Own.eQ (Own.bA (s':=0) (q':=[]) (o':=0) (n':=0) (.inr hd) ho (.inl rfl))⟩
 rcases kH hI h with⟨t,_,_,h⟩|⟨_,h⟩
 ·exact key h
 ·exact key (h L T a.tmps 0 w)
theorem ap2[af](hI:Inv w0 L0 N vs T a w L)(hC:bD P C){Y:TypeId}{op:BinOp}{u r:V}{eW log2:List Nat}(ho:o.op = .binOp op X x y Y)
  (hx:(cK C X x).ai T u eW) (hy:(cK C X y).ai T v log2) (h:(I7 C op X u v).ai T r log):aL P o vs T a w L d r:=by
 unfold I7 at h;split at h
 ·split at h
  ·exact aqf hI ho (gX hI hx) (gX hI hy) h
  ·split at h
   ·rename_i hk;subst hk;exact ap9 hI ho (gX hI hx) (gX hI hy) h
   ·exact h.elim
 ·exact aqj hI ho (DP hI hx) (DP hI hy) h
 ·rename_i n t x' n' t' y' _ _;split at h
  ·rename_i ht;subst ht;split at h
   ·rename_i hc;obtain⟨hX,hh,hd⟩:=hc;split at h
    ·rename_i b he;obtain⟨jn,f1,r1⟩:=aaW hI hd hx;obtain⟨cN,f2,r2⟩:=aaW hI hd hy;have aP:=(ak4 (w:=w) hC t').1 X Op.maxDepth x' y' jn cN _ _ b _ _ hX hh f1 f2 r1 r2 he;have hg:(eqGuard op X x y (a.eval x) (a.eval y)).run P w = .ok () w:=by
      cases t' with
      | int k =>
       simp only[Rd]at r1;subst r1;obtain xd:=(List.cons.inj f1).1;rw[<-xd,eqGuard_at_int];rfl
      | bool =>
       simp only[Rd]at r1;subst r1;obtain xd:=(List.cons.inj f1).1;rw[<-xd,eqGuard_at_bool];rfl
      | str =>
       simp only[Rd]at r1;subst r1;obtain xd:=(List.cons.inj f1).1;rw[<-xd,eqGuard_at_string];rfl
      | raw z=>simp[dC]at he
      | cap k0 t0=>simp[dC]at he
      | unit=>simp[dC]at he
      | slice e t=>simp[dC]at he
      | pair a b=>exact ((hC X _ hX).b7).elim
      | agg t =>
       rw[f1.agg,f2.agg];have cT:t.eN=false:=by
        cases cT:t.eN with
        | false=>rfl
        | true =>
         unfold Ty.eN at cT;split at cT
         ·simp[dC]at he
         ·cases cT
       have hq:=((hC X _ hX).str cT).2.2;cases op<;>simp[eqGuard,hq]
     have Kk:op = .eql\/op = .neq:=by cases op<;>simp_all [V6,M.ai]
     have XE:∀c,((binOp op X (a.eval x) (a.eval y)).run P w = .ok c w)->(execOp a.eval o).run P w = .ok (.value c) w:=by
      intro c hc;simp[execOp,ho,hg,hc]
     have ek:∀(z1 z2:Value),Form t' jn z1->Form t' cN z2->(Op.equalIn Op.maxDepth X z1 z2).run P w = .ok b w ->
       ((binOp .eql X z1 z2).run P w = .ok (.bool b) w/\(binOp .neq X z1 z2).run P w = .ok (.bool !b) w):=by
      intro z1 z2 g1 g2 hr;cases t' with
      | int k =>
       simp only[Rd]at r1 r2;subst r1 r2;obtain rfl:=(List.cons.inj g1).1;obtain rfl:=(List.cons.inj g2).1;simp only[dC,Option.some.injEq]at he;subst he;constructor<;>simp[binOp,Op.intCmp];rfl
      | bool =>
       simp only[Rd]at r1 r2;subst r1 r2;obtain rfl:=(List.cons.inj g1).1;obtain rfl:=(List.cons.inj g2).1;constructor<;>simp[binOp,Op.equal,hr]
      | str =>
       simp only[Rd]at r1 r2;subst r1 r2;obtain rfl:=(List.cons.inj g1).1;obtain rfl:=(List.cons.inj g2).1;simp only[dC,Option.some.injEq]at he;subst he;constructor<;>simp[binOp,Op.stringOp]
      | raw z=>simp[dC]at he
      | cap k0 t0=>simp[dC]at he
      | unit=>simp[dC]at he
      | slice e t=>simp[dC]at he
      | pair a b=>exact ((hC X _ hX).b7).elim
      | agg t =>
       obtain rfl:=g1.agg;obtain rfl:=g2.agg;constructor<;>simp[binOp,Op.equal,hr]
     obtain⟨e1,e2⟩:=ek _ _ f1 f2 aP;rcases Kk with rfl|rfl
     ·obtain⟨rfl,_⟩:=h;exact aL.still hI (XE _ e1) (λ_=>rfl) aD.gW
     ·obtain⟨rfl,_⟩:=h;exact aL.still hI (XE _ e2) (λ_=>rfl) aD.gW
    ·exact h.elim
   ·exact h.elim
  ·exact h.elim
 ·exact h.elim
end
section
variable{P:Program}{C:Ctx}{w w' w0:World}{S S':Nat->Prop}{L L' L0:Nat->aj}{s N:Nat}{vs:List Nat}{T T':List V}{tm tm':Array Value}{a:Act}
theorem aaC[af](hI:Inv w0 L0 N vs T a w L){o:Oper}{d:Nat}(aP:(execOp a.eval o).run P w = .ok (.value (a.eval x)) w)(hid:(T.getD d .dead).idle=true)
  (h:(qJ C o.type x).ai T v log) (bf:∀r,v.on r=true->r∈vs):aL P o vs T a w L d v:=by
 obtain⟨c,w',L',h1,h2,h3,h4,h5⟩:=abc (P:=P) (o:={ o with op:=.move x }) (d:=d) hI rfl hid h bf;have:(execOp a.eval { o with op:=.move x }).run P w = .ok (.value (a.eval x)) w:=by simp[execOp]
 rw[this]at h1;injection h1 with h1 fh;injection h1 with h1;subst h1 fh;exact⟨_,_,L',aP,h2,h3,h4,h5⟩
theorem abd[af](hI:Inv w0 L0 N vs T a w L){c:Operand}{b:Bool}(ho:o.op = .pick c x y)
  (hc:a.eval c = .bool b) (hid:(T.getD d .dead).idle=true) (h:(qJ C o.type (if b=true then x else y)).ai T v log) (bf:∀r,v.on r=true->r∈vs):aL P o vs T a w L d v :=
 aaC hI (by cases b<;>simp[execOp,ho,hc,asBool]) hid h bf
theorem ap4[af](hI:Inv w0 L0 N vs T a w L)(hC:bD P C){src dst:TypeId}{u:V}{log2:List Nat}(ho:o.op = .convert src dst x)
  (hx:(cK C src x).ai T u log) (h:(Jq C src dst u).ai T v log2):aL P o vs T a w L d v:=by
 unfold Jq at h;split at h
 ·rename_i k0 k l n k' m hs hd;obtain⟨rfl,_⟩:=h;have h1:=(hC _ _ hs).b7;have h2:=(hC _ _ hd).b7;refine aL.still hI ?_ (λ_=>rfl) aD.mkInt;simp[execOp,ho,gX hI hx,convert,run_underlying h1,run_underlying h2,Conv.intToInt]
 ·rename_i l n m hs hd;obtain⟨rfl,_⟩:=h;have h1:=(hC _ _ hs).b7;have h2:=(hC _ _ hd).b7;refine aL.still hI ?_ (λ_=>rfl) aD.mkStr;simp[execOp,ho,DP hI hx,convert,run_underlying h1,run_underlying h2]
 ·exact h.elim
theorem ap3[af](hI:Inv w0 L0 N vs T a w L)(hC:bD P C){src dst e:TypeId}{t:Nat}(ho:o.op = .convert src dst (.tmp t))
  (hs:C.ty src=some (.slice e (.int .u8))) (hd:C.ty dst=some .str)
  (h:(M.get t λv=>(mN t v).bind λz=>match z.2 with
   | ⟨.slice _ (.int .u8),xs⟩=>M.ret (.d none 0 .str (strOf xs))
   | _=>.fail).ai T v log):aL P o vs T a w L d v:=by
 obtain⟨aG,rfl,h⟩:=h;have ba:=hI.aY t;obtain⟨⟨l,t2,x2⟩,l1,l2,rfl,h1,h2⟩:=M.aq h;dsimp only at h2;split at h2
 ·rename_i e2 xs heq;obtain⟨rfl,_⟩:=h2;cases heq;obtain⟨cs,hf,hr,_⟩:=qR hI h1 ba (λ_=>rfl);simp only[Rd]at hr;obtain⟨A,c,rfl,CW,hA,nI⟩:=hr;have hc:a.eval (.tmp t)=_:=((List.cons.inj hf).1).symm;obtain⟨hu,he⟩:=(hC _ _ hs).b7;have hue:=(hC _ _ he).b7;have nW:=(hC _ _ hd).b7;refine aL.still hI (c:=.string (strOf xs)) ?_ (λ_=>rfl) aD.mkStr;have key:(Conv.bytesToString (.slice A xs.length c)).run P w = .ok (.string (strOf xs)) w:=by
   cases A with
   | none =>
    obtain⟨rfl,_⟩:=hA rfl;simp[Conv.bytesToString,Sem.run_pure,strOf]
   | some ad =>
    refine run_bytesToString w ad xs.length c xs ?_;have amv:∀(j:Nat) (v:Value),(xs.map (Value.int .u8))[j]?=some v->w.cell? (ad.add j)=some v:=by
     intro j v hv;rw[List.getElem?_map,Option.map_eq_some_iff]at hv;obtain⟨n,hn,rfl⟩:=hv;obtain⟨hj,hn⟩:=List.getElem?_eq_some_iff.1 hn;obtain⟨g,o,had,_,al2⟩:=nI (by rintro rfl;simp at hj);cases had;obtain⟨es,nH,me⟩:=al2 j hj;subst nH;have:=me 0 _ rfl;rw[Addr.add_lit];simpa[Ty.sz,hn]using this
    have:=run_loadCells_list (P:=P) w ad (xs.map (Value.int .u8)) amv;simpa using this
  simp only[execOp,ho,hc,run_convert_bytes_string w src dst e A xs.length c hu hue nW,Sem.run_bind,key,Result.andThen_ok,Sem.run_pure]
 ·exact h2.elim
theorem ap6[af](hI:Inv w0 L0 N vs T a w L)(hC:bD P C){sx:ByteArray}{k:IntKind}{i b:Int}(ho:o.op = .index X x y)
  (hX:C.ty X=some .str) (hx:a.eval x = .string sx) (hy:a.eval y = .int k i) (h:nE sx i=some b):aL P o vs T a w L d (.d none 0 (.int .u8) b):=by
 unfold nE at h;split at h
 ·rename_i h0;simp only[Option.map_eq_some_iff]at h;obtain⟨b0,hb,rfl⟩:=h;refine aL.still hI (c:=.int .u8 b0.toNat) ?_ (λ_=>rfl) aD.mkInt;have hu:=(hC X _ hX).b7;simp[execOp,ho,Instr.index,hx,hy,asIntOf,run_underlying hu,h0,hb]
 ·cases h
theorem ap8[af](hI:Inv w0 L0 N vs T a w L)(hC:bD P C){j off:Nat}{k:IntKind}{t1:Ty}{z:t.den}{x1:t1.den}(ho:o.op = .index X x y)
  (hX:pR C X=some t) (hx:(cK C X x).ai T (.d l n (.agg t) z) log) (hy:a.eval y = .int k (j:Int)) (hc:comp (j+1) t z=some (off,⟨t1,x1⟩)) (hd:t1.depth=0):aL P o vs T a w L d (.d none 0 t1 x1):=by
 unfold pR at hX;split at hX
 ·rename_i t' ht;cases cT:t'.eN with
  | false=>rw[cT]at hX;cases hX
  | true =>
  rw[cT]at hX;injection hX with hX;subst hX;obtain⟨m,e,te,hu,he,J1,hn,wu,hb⟩:=((hC X _ ht).b7).resolve_left (λh=>by rw[cT]at h;cases h.1) |>.2;have sX:=aba.Wq hc;have ax:=hb j _ sX;rw[wu j ax]at sX;simp only[Option.some.injEq,Prod.mk.injEq]at sX;obtain⟨rfl,rfl⟩:=sX;have dM:∃s0,aD L T a.tmps s0 (.d l n (.agg t') z) w (a.eval x):=by
   rcases kH hI hx with⟨s,_,_,hs⟩|⟨_,hs⟩
   ·exact⟨s,hs⟩
   ·exact⟨0,hs _ _ _ _ _⟩
  obtain⟨s0,_,cs,hf,bQ⟩:=dM;have cZ:=hf.agg;simp only[Own]at bQ;obtain⟨h5,h6⟩:=vV hc bQ;have hlen:=bQ.len;obtain⟨c,eA,dL⟩:=xN (w:=w) (xs:=cs.toArray) (off:=j*te.sz) hC he (by simp[hlen];omega) (Own.eQ (Own.flat (n':=0) (L':=L) (S':=SL L none) (s':=0) (q':=[]) (o':=0) hd h6));refine aL.still hI (c:=c) ?_ (λ_=>rfl) ⟨by simp,_,dL,Own.flat hd h6⟩;have hs:=(hC _ _ he).run_sizeOf (w:=w);simp[execOp,ho,Instr.index,cZ,hy,asIntOf,run_underlying hu,ax,hs,eA]
 ·cases hX
theorem oe[af](hI:Inv w0 L0 N vs T a w L){x:Option Operand}{r:Option Int}(h:(jG C x).ai T r log):
  (x=none/\r=none)\/∃y k i,x=some y/\r=some i/\a.eval y = .int k i:=by
 cases x with
 | none=>obtain⟨rfl,_⟩:=h;exact .inl ⟨rfl,rfl⟩
 | some y =>
  obtain⟨u,l1,l2,rfl,h1,h2⟩:=M.aq h;split at h2
  ·obtain⟨rfl,_⟩:=h2;exact .inr ⟨y,_,_,rfl,rfl,gX hI h1⟩
  ·exact h2.elim
theorem D0{e:TypeId}{te:Ty}(hu:P.underlying X=some (.slice e))(hs:(sizeOf e).run P w = .ok te.sz w){A:Option Addr}{len cap:Nat}{lo hi:Option Value}{l h:Int}
  (hl:(lo=none/\l=0)\/∃k,lo=some (.int k l)) (hh:(hi=none/\h=len)\/∃k,hi=some (.int k h)) (h0:0<=l) (h1:l<=h) (h2:h<=len) (h3:len<=cap) :
  (Instr.sliceAt X (.slice A len cap) lo hi none).run P w = .ok (.slice (if cap=l.toNat then A else A.map (·.add (l.toNat*te.sz))) (h.toNat - l.toNat) (cap - l.toNat)) w:=by
 have hb:(Instr.sliceBounds true len cap lo hi none).run P w = .ok (l.toNat,h.toNat,cap) w:=by
  unfold Instr.sliceBounds;rcases hl with⟨rfl,rfl⟩|⟨k,rfl⟩<;>rcases hh with⟨rfl,rfl⟩|⟨k',rfl⟩
  ·simp
  ·simp only[Instr.sliceBound,asIntOf,Sem.run_bind,Sem.run_pure,Result.andThen_ok,Sem.run_ite];rw[if_pos ⟨by omega,by omega⟩];simp
  ·simp only[Instr.sliceBound,asIntOf,Sem.run_bind,Sem.run_pure,Result.andThen_ok,Sem.run_ite];rw[if_pos ⟨by omega,by omega⟩];simp
  ·simp only[Instr.sliceBound,asIntOf,Sem.run_bind,Sem.run_pure,Result.andThen_ok,Sem.run_ite];rw[if_pos ⟨by omega,by omega⟩];simp only[Result.andThen_ok];rw[if_pos ⟨by omega,by omega⟩];simp
 simp[Instr.sliceAt,Instr.slice,run_underlying hu,hb,hs]
theorem abt(hu:P.underlying X=some .string){sx:ByteArray}{lo hi:Option Value}{l h:Int}
  (hl:(lo=none/\l=0)\/∃k,lo=some (.int k l)) (hh:(hi=none/\h=sx.size)\/∃k,hi=some (.int k h)) (h0:0<=l) (h1:l<=h) (h2:h<=sx.size) :
  (Instr.sliceAt X (.string sx) lo hi none).run P w = .ok (.string (sx.extract l.toNat h.toNat)) w:=by
 have hb:(Instr.sliceBounds false sx.size sx.size lo hi none).run P w = .ok (l.toNat,h.toNat,sx.size) w:=by
  unfold Instr.sliceBounds;rcases hl with⟨rfl,rfl⟩|⟨k,rfl⟩<;>rcases hh with⟨rfl,rfl⟩|⟨k',rfl⟩
  ·simp
  ·simp only[Instr.sliceBound,asIntOf,Sem.run_bind,Sem.run_pure,Result.andThen_ok,Sem.run_ite];rw[if_pos ⟨by omega,by omega⟩];simp
  ·simp only[Instr.sliceBound,asIntOf,Sem.run_bind,Sem.run_pure,Result.andThen_ok,Sem.run_ite];rw[if_pos ⟨by omega,by omega⟩];simp
  ·simp only[Instr.sliceBound,asIntOf,Sem.run_bind,Sem.run_pure,Result.andThen_ok,Sem.run_ite];rw[if_pos ⟨by omega,by omega⟩];simp only[Result.andThen_ok];rw[if_pos ⟨by omega,by omega⟩];simp
 simp[Instr.sliceAt,Instr.slice,run_underlying hu,hb]
theorem og{x:Option Operand}{r:Option Int}{z:Int}(h:(x=none/\r=none)\/∃y k i,x=some y/\r=some i/\a.eval y = .int k i):
  (x.map a.eval=none/\r.getD z=z)\/∃k,x.map a.eval=some (.int k (r.getD z)):=by
 rcases h with⟨rfl,rfl⟩|⟨y,k,i,rfl,rfl,h⟩
 ·exact .inl ⟨rfl,rfl⟩
 ·exact .inr ⟨k,by simp[h]⟩
theorem aqh[af](hI:Inv w0 L0 N vs T a w L)(hC:bD P C){sx:ByteArray}{lo hi:Option Operand}{l h:Option Int}{l1 l2:List Nat}(ho:o.op = .slice X (.const (.string sx)) lo hi none)
  (hl:(jG C lo).ai T l l1) (hh:(jG C hi).ai T h l2)
  (hr:(tY C X 0 (l.getD 0) h (.d none 0 .str sx)).ai T v log):aL P o vs T a w L d v:=by
 have el:=og (z:=0) (oe hI hl);have eh:=λz=>og (z:=z) (oe hI hh);have key:∀c,(Instr.sliceAt X (.string sx) (lo.map a.eval) (hi.map a.eval) none).run P w = .ok c w->(execOp a.eval o).run P w = .ok (.value c) w:=by
  intro c hc;have cZ:a.eval (.const (.string sx)) = .string sx:=rfl;simp[execOp,ho,cZ,hc]
 simp only[tY]at hr;split at hr
 ·rename_i hX;obtain⟨hc,rfl,_⟩:=hr;simp only[Bool.and_eq_true,decide_eq_true_eq]at hc;obtain⟨⟨h0,h1⟩,h2⟩:=hc;have aP:=abt (P:=P) (w:=w) (hC X _ hX).b7 (sx:=sx) el (eh (sx.size:Int)) h0 h1 h2;exact aL.still hI (key _ aP) (λ_=>rfl) aD.mkStr
 ·exact hr.elim
theorem aqg[af](hI:Inv w0 L0 N vs T a w L)(hC:bD P C){t:Nat}{lo hi:Option Operand}{l h:Option Int}{l1 l2:List Nat}(ho:o.op = .slice X (.tmp t) lo hi none)
  (hid:(T.getD d .dead).idle=true) (hl:(jG C lo).ai T l l1) (hh:(jG C hi).ai T h l2)
  (hr:(tY C X t (l.getD 0) h (T.getD t .dead)).ai T v log) (bf:∀r,v.on r=true->r∈vs):aL P o vs T a w L d v:=by
 have hs:=hI.aY t;have el:=og (z:=0) (oe hI hl);have eh:=λz=>og (z:=z) (oe hI hh);have key:∀c,(Instr.sliceAt X (a.eval (.tmp t)) (lo.map a.eval) (hi.map a.eval) none).run P w = .ok c w->(execOp a.eval o).run P w = .ok (.value c) w:=by
  intro c hc;simp[execOp,ho,hc]
 unfold tY at hr;split at hr
 ·rename_i l0 n sx hv;rw[hv]at hs;split at hr
  ·rename_i hX;obtain⟨hc,rfl,_⟩:=hr;simp only[Bool.and_eq_true,decide_eq_true_eq]at hc;obtain⟨⟨h0,h1⟩,h2⟩:=hc;have J6:a.eval (.tmp t)=_:=hs.str;have aP:=abt (P:=P) (w:=w) (hC X _ hX).b7 (sx:=sx) el (eh (sx.size:Int)) h0 h1 h2;rw[<-J6]at aP;exact aL.still hI (key _ aP) (λ_=>rfl) aD.mkStr
  ·exact hr.elim
 ·obtain⟨⟨lr,t2,x2⟩,l3,l4,rfl,h1,h2⟩:=M.aq hr;split at h2
  ·rename_i z l' e te xs he;cases he;split at h2
   ·rename_i gx;obtain⟨hc,rfl,_⟩:=h2;simp only[Bool.and_eq_true,decide_eq_true_eq]at hc;obtain⟨⟨h0,fh⟩,CP⟩:=hc;obtain⟨cs,hf,bC,cF⟩:=qR hI h1 hs (λ_=>rfl);simp only[Rd]at bC;obtain⟨A,cp,rfl,k1,k2,k3⟩:=bC;have J6:a.eval (.tmp t)=_:=((List.cons.inj hf).1).symm;unfold pv at gx;split at gx
    ·rename_i e' D9 hX;injection gx with gx;subst gx;obtain⟨hu,he⟩:=(hC X _ hX).b7;have aP:=D0 (te:=D9) hu ((hC _ _ he).run_sizeOf (w:=w)) (A:=A) (len:=xs.length) (cap:=cp) el (eh (xs.length:Int)) h0 fh CP k1;rw[<-J6]at aP;refine⟨_,w,L,key _ aP,ew.refl hI d,λk q hk h=>(by rw[hI.free k hk]at h;cases h),bf,λr hr=>?_,_,rfl,?_⟩
     ·have:=cF r hr;rw[aH,if_neg (λh=>di hid (V.fq this) h.1)];exact this
     ·simp only[Own,Rd];generalize hlo:(l.getD 0)=mG at *
      generalize hhi:(h.getD (xs.length:Int))=tc at *
      refine⟨if cp=mG.toNat then A else A.map (λx=>x.add (mG.toNat*D9.sz)),cp - mG.toNat,?_,?_,?_,?_⟩
      ·simp only[List.length_drop,List.length_take];rw[Nat.min_eq_left (by omega)]
      ·simp only[List.length_drop,List.length_take];omega
      ·intro hA;have:A=none:=by
        split at hA
        ·exact hA
        ·simpa using hA
       obtain⟨rfl,rfl⟩:=k2 this;simp
      ·intro hx;have jA:xs≠[]:=by rintro rfl;simp at hx
       obtain⟨g,o',rfl,hS,nI⟩:=k3 jA;have hlen:mG.toNat<xs.length:=by
        rcases Nat.lt_or_ge mG.toNat xs.length with h|h
        ·exact h
        ·exact absurd (List.drop_eq_nil_of_le (by simp;omega)) hx
       refine⟨g,o'+mG.toNat*D9.sz,?_,hS,λj hj=>?_⟩
       ·rw[if_neg (by omega)];simp[Addr.add_lit]
       ·simp only[List.length_drop,List.length_take]at hj;obtain⟨es,nH,me⟩:=nI (mG.toNat+j) (by omega);refine⟨es,by simpa using nH,λi v hv=>?_⟩;have:=me i v hv;rw[Nat.add_mul]at this;rw[<-this];congr 2;omega
    ·cases gx
   ·exact h2.elim
  ·exact h2.elim
theorem aqi[af](hI:Inv w0 L0 N vs T a w L)(hC:bD P C)(hid:(T.getD d .dead).idle=true)(bf:∀r,v.on r=true->r∈vs)
  (h:(LQ C o).ai T v log):aL P o vs T a w L d v:=by
 unfold LQ at h;split at h
 ·rename_i x ho;exact abc hI ho hid h bf
 ·rename_i c x y ho;obtain⟨u,l1,l2,rfl,h1,h2⟩:=M.aq h;split at h2
  ·rename_i l n b;split at h2
   ·exact abd hI ho (LH hI h1) hid h2 bf
   ·exact abd hI ho (LH hI h1) hid h2 bf
  ·exact h2.elim
 ·rename_i X ho;exact ap1 hI hC ho h
 ·rename_i X t ho;exact aqb hI hC ho hid h bf
 ·rename_i t ho;exact aqd hI ho hid h bf
 ·rename_i X t f ho;exact aba hI hC ho hid h bf
 ·rename_i X t y ho;obtain⟨u,l1,l2,rfl,h1,h2⟩:=M.aq h;split at h2
  ·exact ap7 (Y:=0) hI hC ho (gX hI h1) hid h2 bf
  ·exact h2.elim
 ·rename_i X x y ho;obtain⟨u,l1,l2,rfl,h1,h2⟩:=M.aq h;obtain⟨u2,l3,l4,rfl,h3,h4⟩:=M.aq h2;split at h4
  ·split at h4
   ·rename_i hX;obtain⟨b,hb,rfl,_⟩:=h4;exact ap6 hI hC ho hX (DP hI h1) (gX hI h3) hb
   ·exact h4.elim
  ·rename_i l n t z l' n' k i;split at h4
   ·rename_i hX;obtain⟨hX,hd⟩:=hX;obtain⟨y0,jB,rfl,_⟩:=h4;obtain⟨hj,kg,rfl⟩:=ma jB;obtain⟨off,hc⟩:=WI (List.getElem?_eq_getElem hj);have dL:comp (i.toNat+1) (.pair .unit t) z=some (0+off,⟨sE t,(nz (sE t) t z.2)[i.toNat]⟩):=by simp[comp,hc,Ty.sz]
    exact ap8 hI hC ho hX h1 (by rw[gX hI h3,Int.toNat_of_nonneg kg]) dL hd
   ·exact h4.elim
  ·exact h4.elim
 ·rename_i op X x y Y ho;obtain⟨u,l1,l2,rfl,h1,h2⟩:=M.aq h;obtain⟨u2,l3,l4,rfl,h3,h4⟩:=M.aq h2;exact ap2 hI hC ho h1 h3 h4
 ·rename_i op X x ho;obtain⟨u,l1,l2,rfl,h1,h2⟩:=M.aq h;exact aqk hI ho h1 h2
 ·rename_i src dst x ho;split at h
  ·rename_i e t hs hd;exact ap3 hI hC ho hs hd h
  ·obtain⟨u,l1,l2,rfl,h1,h2⟩:=M.aq h;exact ap4 hI hC ho h1 h2
 ·rename_i X x y ho;obtain⟨u,l1,l2,rfl,h1,h2⟩:=M.aq h;obtain⟨u2,l3,l4,rfl,h3,h4⟩:=M.aq h2;split at h4
  ·exact aqc hI hC ho (gX hI h1) (gX hI h3) h4
  ·exact h4.elim
 ·rename_i X t lo hi ho;obtain⟨u,l1,l2,rfl,h1,h2⟩:=M.aq h;obtain⟨u2,l3,l4,rfl,h3,h4⟩:=M.aq h2;obtain⟨l5,h5⟩:=M.aqz h4;exact aqg hI hC ho hid h1 h3 h5 bf
 ·rename_i X sx lo hi ho;obtain⟨u,l1,l2,rfl,h1,h2⟩:=M.aq h;obtain⟨u2,l3,l4,rfl,h3,h4⟩:=M.aq h2;exact aqh hI hC ho h1 h3 h4
 ·rename_i c ho;split at h
  ·rename_i t X h1 h2 h3;split at h
   ·rename_i tx hX;have mq:o.op = .call { callee:=.builtin .len,args:=#[.tmp t],argTypes:=#[X] }:=by
     rw[ho];obtain⟨c1,c2,c3⟩:=c;simp only at h1 h2 h3;subst h1;congr 2<;>apply Array.ext'<;>simpa
    exact aqa hI hC mq hX h
   ·exact h.elim
  ·exact h.elim
 ·exact h.elim
end
def eR(f:Nat->List Nat->aj):aj->aj
 | .own s q=>f s q
 | x=>x
def aU(f:Nat->List Nat->aj)(w:World)(L nl:Nat->aj):Nat->aj:=λk=>if k<w.heap.size then eR f (L k)else nl k
section
variable{P:Program}{C:Ctx}{w w' w0:World}{S S':Nat->Prop}{L L' L0:Nat->aj}{s N:Nat}{vs:List Nat}{T T':List V}{tm tm':Array Value}{a:Act}
theorem eZ{f:Nat->List Nat->aj}{l:aj}{s:Nat}(h:eR f l = .own s q):∃s0 q0,l = .own s0 q0/\f s0 q0 = .own s q:=by
 cases l with
 | own s0 q0=>exact⟨s0,q0,rfl,h⟩
 | au=>cases h
 | free=>cases h
 | other=>cases h
structure fL (f:Nat->List Nat->aj) (X:Nat->Prop):Prop where
 id:∀s q,¬X s->f s q = .own s q
 to:∀s q s' q',X s->f s q = .own s' q'->X s'
 inj:∀s q s2 q2 s' q',f s q = .own s' q'->f s2 q2 = .own s' q'->s=s2/\q=q2
 nf:∀s q,f s q ≠ .free
structure Wd (w w':World) (L nl:Nat->aj) (X:Nat->Prop):Prop where
 os:w'.os=w.os
 tape:w'.tape=w.tape
 output:w'.output=w.output
 size:w.heap.size<=w'.heap.size
 drawn:w.drawn<=w'.drawn
 old:∀k,k<w.heap.size->(∀s q,L k = .own s q->¬X s)->w'.heap[k]?=w.heap[k]?
 free:∀k,w'.heap.size<=k->nl k = .free
 new:∀k s q,w.heap.size<=k->nl k = .own s q->X s
theorem Wd.refl[af](hI:Inv w0 L0 N vs T a w L)(X:Nat->Prop):Wd w w L (λ_=>.free) X :=
 ⟨rfl,rfl,rfl,Nat.le_refl _,Nat.le_refl _,λ_ _ _=>rfl,λ_ _=>rfl,λ_ _ _ _ h=>(by cases h)⟩
theorem c8[af]{f:Nat->List Nat->aj}{nl:Nat->aj}(hI:Inv w0 L0 N vs T a w L)(h:L k ≠ .free):aU f w L nl k=eR f (L k):=by
 unfold aU;rw[if_pos (hI.lt h)]
theorem xy[af]{f:Nat->List Nat->aj}{nl:Nat->aj}{X:Nat->Prop}(hI:Inv w0 L0 N vs T a w L)(hf:fL f X){s:Nat}(h:L k = .own s q)(hs:¬X s):
  aU f w L nl k = .own s q:=by
 rw[c8 hI (by rw[h];simp),h];simp[eR,hf.id s q hs]
theorem eD[af]{f:Nat->List Nat->aj}{nl:Nat->aj}(hI:Inv w0 L0 N vs T a w L)(h:L k = .au):aU f w L nl k = .au:=by
 rw[c8 hI (by rw[h];simp),h];rfl
theorem Inv.gY[af]{a':Act}{f:Nat->List Nat->aj}{X:Nat->Prop}{nl:Nat->aj}(hI:Inv w0 L0 N vs T a w L)(hf:fL f X)(hw:Wd w w' L nl X)
  (gu:∀k k' s q,w.heap.size<=k->nl k = .own s q->aU f w L nl k' = .own s q->k=k')
  (bq:a'.tmps.size=N) (hlen:T'.length=N) (J7:a'.defers=[])
  (bz:∀k s q,X s->aU f w L nl k = .own s q->(T'.getD s .dead).aM=true)
  (ag:∀s r,¬X s->(T.getD s .dead).on r=true->X r->(T.getD r .dead).aM=false)
  (fP:∀s,¬X s->T'.getD s .dead=T.getD s .dead/\a'.tmps.getD s undef=a.tmps.getD s undef)
  (Kv:∀s r,X s->(T'.getD s .dead).on r=true->r∈vs)
  (hX:∀s,X s->aD (aU f w L nl) T' a'.tmps s (T'.getD s .dead) w' (a'.tmps.getD s undef)):Inv w0 L0 N vs T' a' w' (aU f w L nl):=by
 refine Inv.upd X hI bq hlen J7 ?_ ?_ ?_ ?_ ?_ fP ?_ ?_ hX
 ·refine⟨hw.os.trans hI.fr.os,hw.tape.trans hI.fr.tape,hw.output.trans hI.fr.output,Nat.le_trans hI.fr.size hw.size,Nat.le_trans hI.fr.drawn hw.drawn,λk hk h0=>?_,hI.fr.ij⟩;have h1:=hI.fr.aT k hk h0;have ax:k<w.heap.size:=Nat.lt_of_lt_of_le hk hI.fr.size;constructor
  ·unfold aU;rw[if_pos ax,h1.1];rcases h0 with h0|h0<;>rw[h0]<;>rfl
  ·rw[hw.old k ax,h1.2];intro s q hq;rw[h1.1]at hq;rcases h0 with h0|h0<;>rw[h0]at hq<;>cases hq
 ·intro k hk;unfold aU;rw[if_neg (by have:=hw.size;omega)];exact hw.free k hk
 ·intro k k' s q h h';by_cases hk:k<w.heap.size
  ·by_cases aI:k'<w.heap.size
   ·unfold aU at h h';rw[if_pos hk]at h;rw[if_pos aI]at h';obtain⟨s0,q0,e0,f0⟩:=eZ h;obtain⟨s1,q1,e1,f1⟩:=eZ h';obtain⟨rfl,rfl⟩:=hf.inj _ _ _ _ _ _ f0 f1;exact hI.inj k k' _ _ e0 e1
   ·have h2:nl k' = .own s q:=by unfold aU at h';rwa [if_neg aI]at h'
    exact (gu k' k s q (by omega) h2 h).symm
  ·have h2:nl k = .own s q:=by unfold aU at h;rwa [if_neg hk]at h
   exact gu k k' s q (by omega) h2 h'
 ·intro k s q h;by_cases hs:X s
  ·exact bz k s q hs h
  ·rw[(fP s hs).1];unfold aU at h;split at h
   ·obtain⟨s0,q0,e0,f0⟩:=eZ h;by_cases h0:X s0
    ·exact absurd (hf.to _ _ _ _ h0 f0) hs
    ·rw[hf.id s0 q0 h0]at f0;injection f0 with f0 f1;subst f0 f1;exact hI.owner k _ _ e0
   ·exact absurd (hw.new k s q (by omega) h) hs
 ·intro s hs k hk;have ax:k<w.heap.size:=hI.lt (by rcases hk with hk|⟨r,q,hk,_⟩<;>rw[hk]<;>simp);rcases hk with hk|⟨r,q,hk,hr⟩
  ·refine⟨by rw[eD hI hk,hk],hw.old k ax λs q h=>?_⟩;rw[hk]at h;cases h
  ·have CU:¬X r:=by
    rcases hr with rfl|hr
    ·exact hs
    ·intro hx;have h1:=ag s r hs hr hx;rw[hI.owner k r q hk]at h1;cases h1
   refine⟨by rw[xy hI hf hk CU,hk],hw.old k ax λs q h=>?_⟩;rw[hk]at h;injection h with h _;subst h;exact CU
 ·intro s r h;by_cases hs:X s
  ·exact Kv s r hs h
  ·rw[(fP s hs).1]at h;exact hI.roots s r h
 ·intro s r hs hr ho;have CU:¬X r:=λhx=>by
   rw[ag s r hs hr hx]at ho;cases ho
  exact fP r CU
def cut:List Nat->List Nat->Option (List Nat)
 | [],z=>some z
 | x::q,y::z=>if x=y then cut q z else none
 | _::_,[]=>none
theorem nw(q z:List Nat):cut q (q++z)=some z:=by
 induction q with
 | nil=>rfl
 | cons x q ih=>simp[cut,ih]
theorem oJ{z y:List Nat}(h:cut q z=some y):z=q++y:=by
 induction q generalizing z with
 | nil=>simp only[cut,Option.some.injEq]at h;rw[h];rfl
 | cons x q ih =>
  cases z with
  | nil=>simp[cut]at h
  | cons y' z =>
   simp only[cut]at h;split at h
   ·rename_i he;rw[he,ih h];rfl
   ·cases h
def iA(r:Nat)(q:List Nat)(o sz m d:Nat):Nat->List Nat->aj:=λs z =>
 if s=r then match cut q z with
  | some (y::rest)=>if o<=y/\y<o+sz then (if rest.length<m then .own d ((y - o)::rest)else .au)else .other
  | _=>.other
 else if s=d then .other else .own s z
theorem qL[af]{o sz:Nat}{s:Nat}{z:List Nat}{s':Nat}{z':List Nat}(hh:iA r q o sz m d s z = .own s' z'):
  (s=r/\∃i rest,z=q++(o+i)::rest/\s'=d/\z'=i::rest)\/(s≠d/\s≠r/\s'=s/\z'=z):=by
 unfold iA at hh;split at hh
 ·rename_i hs;subst hs;split at hh
  ·rename_i y0 rest hc;split at hh
   ·rename_i hb;split at hh
    ·injection hh with h1 h2;refine .inl ⟨rfl,y0 - o,rest,?_,h1.symm,h2.symm⟩;rw[oJ hc];congr 2;omega
    ·cases hh
   ·cases hh
  ·cases hh
 ·split at hh
  ·cases hh
  ·rename_i lk ef;injection hh with h1 h2;exact .inr ⟨ef,lk,h1.symm,h2.symm⟩
theorem aaH[af]{o sz:Nat}(h:r≠d):fL (iA r q o sz m d) (λs=>s=r\/s=d):=by
 refine⟨λs q hs=>?_,λs q s' q' hs h=>?_,λs z s2 z2 s' z' h1 h2=>?_,λs z=>?_⟩
 ·have:=not_or.1 hs;simp[iA,this]
 ·rcases qL h with⟨_,_,_,_,rfl,_⟩|⟨h1,h2,_⟩
  ·exact .inr rfl
  ·exact absurd hs (not_or.2 ⟨h2,h1⟩)
 ·rcases qL h1 with⟨rfl,i,rest,rfl,rfl,rfl⟩|⟨hs,hr,rfl,rfl⟩
  ·rcases qL h2 with⟨rfl,i2,LX,rfl,_,h4⟩|⟨ef,mA,h3,_⟩
   ·injection h4 with h4 h5;subst h4 h5;exact⟨rfl,rfl⟩
   ·exact absurd h3.symm ef
  ·rcases qL h2 with⟨rfl,i2,LX,rfl,h3,_⟩|⟨ef,mA,h3,h4⟩
   ·exact absurd h3 hs
   ·exact⟨h3,h4⟩
 ·unfold iA
  repeat' split
  all_goals simp
theorem apz[af]{o sz:Nat}{rest:List Nat}(h:i<sz):iA r q o sz m d r (q++(o+i)::rest)=if rest.length<m then .own d (i::rest)else .au:=by
 unfold iA;rw[if_pos rfl,nw];simp only;rw[if_pos ⟨by omega,by omega⟩,show o+i - o=i by omega]
theorem Own.taken[af]{o:Nat}{x:t.den}{nl:Nat->aj}{S:Nat->Prop}(hm:m<=n)(hI:Inv w0 L0 N vs T a w L)
  (hS:∀k,S k->L k = .au) (h:Own w L S r n t x q o cs):Own w (aU (iA r q o t.sz m d) w L nl) (SL (aU (iA r q o t.sz m d) w L nl) none) d m t x [] 0 cs :=
 Own.fp hm (λk hk=>⟨.inl (eD hI (hS k hk)),rfl⟩) (λk i rest hi hk=>by
  have:aU (iA r q o t.sz m d) w L nl k=if rest.length<m then .own d (i::rest)else .au:=(c8 hI (by rw[hk];simp)).trans (by rw[hk];exact apz hi)
  refine⟨rfl,λh=>?_,λh=>.inl ?_⟩
  ·rw[this,if_pos h];simp
  ·rw[this,if_neg (by omega)]) h
end
def kK(r d:Nat):Nat->List Nat->aj:=λs z=>if s=r then .own d z else if s=d then .other else .own s z
def kA(kp:Nat->V->Bool)(T:List V):List V:=T.mapIdx λs v=>if kp s v then .dead else v
def Z2(kp:Nat->V->Bool)(T:List V):Bool :=
 (T.mapIdx λs v=>kp s v||((match v.root with
  | none=>true
  | some r => !(kp r (T.getD r .dead)&&(T.getD r .dead).aM)))).all id
def oa(r s:Nat)(T:List V):Bool:=(T.mapIdx λs' v=>s'==s||v.root != some r).all id
section
variable{P:Program}{C:Ctx}{w w' w0:World}{S S':Nat->Prop}{L L' L0:Nat->aj}{s N:Nat}{vs:List Nat}{T T':List V}{tm tm':Array Value}{a:Act}
theorem alu(g:Nat->V->V)(hg:∀s,g s .dead = .dead)(T:List V)(s:Nat):(T.mapIdx g).getD s .dead=g s (T.getD s .dead):=by
 simp only[List.getD_eq_getElem?_getD,List.getElem?_mapIdx];cases T[s]?<;>simp[hg]
theorem Xh[af](kp:Nat->V->Bool)(T:List V)(s:Nat):(kA kp T).getD s .dead=if kp s (T.getD s .dead)=true then .dead else T.getD s .dead:=by
 unfold kA;rw[alu _ (by intro s;split<;>rfl)]
theorem VR{g:Nat->V->Bool}{T:List V}(h:(T.mapIdx g).all id=true)(s:Nat)(hs:s<T.length):g s (T.getD s .dead)=true:=by
 rw[List.all_eq_true]at h;have:g s (T.getD s .dead)∈T.mapIdx g:=by
  rw[List.mem_iff_getElem?];refine⟨s,?_⟩;simp[List.getElem?_mapIdx,List.getElem?_eq_getElem hs]
 exact h _ this
theorem eJ{T:List V}{s:Nat}(h:T.length<=s):T.getD s .dead = .dead:=by
 simp[List.getD_eq_getElem?_getD,List.getElem?_eq_none h]
theorem Inv.apb[af](hI:Inv w0 L0 N vs T a w L){kp:Nat->V->Bool}(h:Z2 kp T=true):∃L',Inv w0 L0 N vs (kA kp T) a w L':=by
 refine⟨_,Inv.kill hI (λs=>kp s (T.getD s .dead)) (by simp[kA,hI.len]) (λs=>Xh kp T s) (λs r hs mv kn=>?_)⟩;by_cases ax:s<T.length
 ·have h1:=VR h s ax;rw[hs,Bool.false_or]at h1;have hr:(T.getD s .dead).root=some r:=by simpa[V.on]using mv
  rw[hr]at h1;simp only[kn,Bool.and_true,Bool.not_eq_true']at h1;exact h1
 ·rw[eJ (by omega)]at mv;simp[V.on,V.root]at mv
theorem aaK[af]{s:Nat}(h:oa r s T=true):∀s',s'≠s->(T.getD s' .dead).on r=false:=by
 intro s' hs;by_cases ax:s'<T.length
 ·have h1:=VR h s' ax;simp only[Bool.or_eq_true,beq_iff_eq,hs,false_or,bne_iff_ne]at h1;simpa[V.on]using h1
 ·rw[eJ (by omega)];rfl
theorem Inv.take[af](hI:Inv w0 L0 N vs T a w L){s r n:Nat}{p:List St}{t:Ty}{x:t.den}{log:List Nat}(hs:T.getD s .dead = .view r p t)(b9:s<N)(hv:(rb p (T.getD r .dead)).ai T (none,⟨n,t,x⟩) log)
  (hn:n≠0) (hd:t.depth≠0) (cB:oa r s T=true):∃L',Inv w0 L0 N vs ((T.set r .dead).set s (.d none n t x)) a w L':=by
 have bu:=hI.aY s;rw[hs]at bu;obtain⟨cs,hf,bz,_,cF⟩:=Eh hI bu hv;have Yv:=V.fq cF;have iT:r≠s:=by
  rintro rfl
  rw[hs]at Yv;cases Yv
 have bI:((T.set r .dead).set s (.d none n t x)).getD s .dead = .d none n t x:=by
  rw[aH,if_pos ⟨rfl,by simp[hI.len,b9]⟩]
 have bE:((T.set r .dead).set s (.d none n t x)).getD r .dead = .dead:=by
  rw[aH,if_neg (λh=>iT h.1),aH];split
  ·rfl
  ·rename_i h;exact eJ (Nat.le_of_not_lt λhl=>h ⟨rfl,hl⟩)
 refine⟨_,Inv.gY (f:=iA r (node [] 0 p).1 (node [] 0 p).2 t.sz n s) (X:=λz=>z=r\/z=s) (nl:=λ_=>.free) hI (aaH iT) (Wd.refl hI _) (λ_ _ _ _ _ h=>by cases h) hI.size (by simp[hI.len]) hI.dR ?_ ?_ ?_ ?_ ?_⟩
 ·intro k z q hz h;rcases hz with rfl|rfl
  ·unfold aU at h;split at h
   ·obtain⟨s0,q0,e0,f0⟩:=eZ h;exfalso;rcases qL f0 with⟨_,_,_,_,h1,_⟩|⟨_,h1,h2,_⟩
    ·exact iT h1
    ·exact h1 h2.symm
   ·cases h
  ·rw[bI];simp[V.aM,hn,hd]
 ·intro z r' hz ag aZ;rcases aZ with rfl|rfl
  ·exact absurd ag (by rw[aaK cB z (λh=>hz (.inr h))];simp)
  ·rw[hs];rfl
 ·intro z hz;have bW:=not_or.1 hz;rw[aH,if_neg (λh=>bW.2 h.1),aH,if_neg (λh=>bW.1 h.1)];exact⟨rfl,rfl⟩
 ·intro z r' hz ag;rcases hz with rfl|rfl
  ·rw[bE]at ag;simp[V.on,V.root]at ag
  ·rw[bI]at ag;simp[V.on,V.root]at ag
 ·intro z hz;rcases hz with rfl|rfl
  ·rw[bE];trivial
  ·rw[bI];exact⟨by simp,cs,hf,Own.taken (Nat.le_refl _) hI (λk hk=>by
    rcases hk with hk|⟨_,_,hk,_⟩
    ·exact hk
    ·cases hk) bz⟩
theorem xK{s s':Nat}{z z':List Nat}(hh:kK r d s z = .own s' z'):(s=r/\s'=d/\z'=z)\/(s≠d/\s≠r/\s'=s/\z'=z):=by
 unfold kK at hh;split at hh
 ·injection hh with h1 h2;exact .inl ⟨by assumption,h1.symm,h2.symm⟩
 ·split at hh
  ·cases hh
  ·injection hh with h1 h2;exact .inr ⟨by assumption,by assumption,h1.symm,h2.symm⟩
theorem abk[af](h:r≠d):fL (kK r d) (λs=>s=r\/s=d):=by
 refine⟨λs q hs=>?_,λs q s' q' hs h=>?_,λs z s2 z2 s' z' h1 h2=>?_,λs z=>?_⟩
 ·have:=not_or.1 hs;simp[kK,this]
 ·rcases xK h with⟨_,rfl,_⟩|⟨h1,h2,_⟩
  ·exact .inr rfl
  ·exact absurd hs (not_or.2 ⟨h2,h1⟩)
 ·rcases xK h1 with⟨rfl,rfl,rfl⟩|⟨hs,hr,rfl,rfl⟩
  ·rcases xK h2 with⟨rfl,_,h4⟩|⟨ef,mA,h3,_⟩
   ·exact⟨rfl,h4⟩
   ·exact absurd h3.symm ef
  ·rcases xK h2 with⟨rfl,h3,_⟩|⟨ef,mA,h3,h4⟩
   ·exact absurd h3 hs
   ·exact⟨h3,h4⟩
 ·unfold kK
  repeat' split
  all_goals simp
theorem oh[af]{nl:Nat->aj}(hI:Inv w0 L0 N vs T a w L)(h:L k = .own r q):aU (kK r d) w L nl k = .own d q:=by
 rw[c8 hI (by rw[h];simp),h];simp[eR,kK]
theorem SL.rn[af]{nl:Nat->aj}(hI:Inv w0 L0 N vs T a w L)(bC:r≠d)(hr:l≠some r)(hd:l≠some d):∀k,SL L l k->SL (aU (kK r d) w L nl) l k/\w.heap[k]?=w.heap[k]?:=by
 rintro k (h|⟨s,q,rfl,h⟩)
 ·exact⟨.inl (eD hI h),rfl⟩
 ·refine⟨.inr ⟨s,q,rfl,xy hI (abk bC) h (not_or.2 ⟨λe=>hr (by rw[e]),λe=>hd (by rw[e])⟩)⟩,rfl⟩
theorem fe.rn[af]{nl:Nat->aj}(hI:Inv w0 L0 N vs T a w L)(bC:r≠d):{l:List (Nat×Option (Nat×(t:Ty)×t.den))}->{o:Nat}->{vs:List Value}->fe w L r o l vs->fe w (aU (kK r d) w L nl) d o l vs
 | [],_,_,h=>h
 | (sz,c)::l,o,vs,⟨v,jg,h1,h2,h3⟩=>⟨v,jg,h1,λn t x hc=>by
   obtain⟨h4,cs,h5,h6⟩:=h2 n t x hc;exact⟨h4,cs,h5,Own.move (SL.rn hI bC (by simp) (by simp)) (λk d rest _ hk=>⟨oh hI hk,rfl⟩) h6⟩,fe.rn hI bC h3⟩
theorem cd.rn[af]{nl:Nat->aj}(hI:Inv w0 L0 N vs T a w L)(bC:r≠d):{t:Ty}->{m:Nat}->{x:t.den}->{o:Nat}->{cs:List Value}->cd w L r m t x o cs->cd w (aU (kK r d) w L nl) d m t x o cs:=by
 intro t;induction t with
 | pair a b _ ih =>
  intro m x o cs h;obtain⟨c0,c1,h1,h2,h3⟩:=h;exact⟨c0,c1,h1,Own.move (SL.rn hI bC (by simp) (by simp)) (λk d rest _ hk=>⟨oh hI hk,rfl⟩) h2,ih h3⟩
 | _=>intro m x o cs h;simp only[cd]at h ⊢;exact Own.move (SL.rn hI bC (by simp) (by simp)) (λk d rest _ hk=>⟨oh hI hk,rfl⟩) h
theorem fM.rn[af]{nl:Nat->aj}(hI:Inv w0 L0 N vs T a w L)(bC:r≠d){k0:Nat}{x:t.den}(h:fM w L r k0 n t x c):fM w (aU (kK r d) w L nl) d k0 n t x c:=by
 unfold fM at h ⊢;split at h
 ·rcases h with h|⟨g,cap,cur,h1,h2,h3,h4,h5,h6,h7⟩
  ·exact .inl h
  ·exact .inr ⟨g,cap,cur,h1,oh hI h2,h3,h4,h5,h6,λj hj hx=>Own.move (SL.rn hI bC (by simp) (by simp)) (λk d rest _ hk=>⟨oh hI hk,rfl⟩) (h7 j hj hx)⟩
 ·obtain⟨g,cur,e,h1,h2,h3,h4,h5⟩:=h;exact⟨g,cur,e,h1,oh hI h2,h3,h4,cd.rn hI bC h5⟩
 ·exact h.elim
theorem Inv.apw[af](hI:Inv w0 L0 N vs T a w L){t d:Nat}{v:V}(ht:T.getD t .dead=v)(hv:v.aM=true)(ba:∀u p,v ≠ .hole u p)(hpt:∀r i n t x,v ≠ .part r i n t x)(hd:d<N)(hid:(T.getD d .dead).idle=true)
  (cB:oa t t T=true) (mB:v.root≠some t) (bC:v.root≠some d):∃L',Inv w0 L0 N vs ((T.set t .dead).set d v) (a.put (some d) (a.tmps.getD t undef)) w L':=by
 have ln:t≠d:=di hid (by rw[ht];exact hv);have bU:((T.set t .dead).set d v).getD d .dead=v:=by rw[aH,if_pos ⟨rfl,by simp[hI.len,hd]⟩]
 have Xx:((T.set t .dead).set d v).getD t .dead = .dead:=by
  rw[aH,if_neg (λh=>ln h.1),aH];split
  ·rfl
  ·rename_i h;exact eJ (Nat.le_of_not_lt λhl=>h ⟨rfl,hl⟩)
 refine⟨_,Inv.gY (f:=kK t d) (X:=λz=>z=t\/z=d) (nl:=λ_=>.free) hI (abk ln) (Wd.refl hI _) (λ_ _ _ _ _ h=>by cases h) (by simp[Act.put,hI.size]) (by simp[hI.len]) hI.dR ?_ ?_ ?_ ?_ ?_⟩
 ·intro k z q hz h;rcases hz with rfl|rfl
  ·unfold aU at h;split at h
   ·obtain⟨s0,q0,e0,f0⟩:=eZ h;exfalso;rcases xK f0 with⟨_,h1,_⟩|⟨_,h1,h2,_⟩
    ·exact ln h1
    ·exact h1 h2.symm
   ·cases h
  ·rw[bU];exact hv
 ·intro z r' hz ag aZ;rcases aZ with rfl|rfl
  ·exact absurd ag (by rw[aaK cB z (λh=>hz (.inl h))];simp)
  ·exact V.kG hid
 ·intro z hz;have bW:=not_or.1 hz;rw[aH,if_neg (λh=>bW.2 h.1),aH,if_neg (λh=>bW.1 h.1)];refine⟨rfl,?_⟩;show (a.tmps.setIfInBounds d _).getD z undef=_;rw[ed,if_neg (λh=>bW.2 h.1)]
 ·intro z r' hz ag;rcases hz with rfl|rfl
  ·rw[Xx]at ag;simp[V.on,V.root]at ag
  ·rw[bU]at ag;exact hI.roots t r' (by rw[ht];exact ag)
 ·intro z hz;rcases hz with rfl|rfl
  ·rw[Xx];trivial
  ·rw[bU];show aD _ _ (a.tmps.setIfInBounds z (a.tmps.getD t undef)) z v w ((a.tmps.setIfInBounds z (a.tmps.getD t undef)).getD z undef);rw[ed,if_pos ⟨rfl,by rw[hI.size];exact hd⟩];have hs:=hI.aY t;rw[ht]at hs;have ke:∀r',v.root=some r'->(T.getD r' .dead).deep=true->(((T.set t .dead).set z v).getD r' .dead).deep=true:=by
    intro r' aZ h;have h1:r'≠z:=di hid (V.fq h);have h2:r'≠t:=λe=>mB (by rw[aZ,e]);rw[aH,if_neg (λh=>h1 h.1),aH,if_neg (λh=>h2 h.1)];exact h
   cases v with
   | d l n t' x =>
    obtain⟨h0,cs,hf,ho⟩:=hs;exact⟨λr hr=>ke r hr (h0 r hr),cs,hf,Own.move (SL.rn hI ln mB bC) (λk i rest _ hk=>⟨oh hI hk,rfl⟩) ho⟩
   | box l n t' x =>
    obtain⟨h0,g,cur,e,h1,h2,h3,h4,h5⟩:=hs;exact⟨λr hr=>ke r hr (h0 r hr),g,cur,e,h1,oh hI h2,h3,h4,Own.move (SL.rn hI ln mB bC) (λk i rest _ hk=>⟨oh hI hk,rfl⟩) h5⟩
   | bF l =>
    obtain⟨us,h1,h2⟩:=hs;exact⟨us,h1,fe.rn hI ln h2⟩
   | hole u p=>exact absurd rfl (ba u p)
   | part r i n t x=>exact absurd rfl (hpt r i n t x)
   | bP k n t' x=>exact fM.rn hI ln hs
   | same r t'=>cases hv
   | dead=>cases hv
   | rp _ _ _=>cases hv
   | ptr _ _ _=>cases hv
   | view _ _ _=>cases hv
end
structure Bd (t:Ty) where
 x:t.den
 n:Option Nat
 ms:List (Nat×Nat×Nat)
def tG:Option Nat->Option Nat->Option Nat
 | none,y=>y
 | x,none=>x
 | some a,some b=>some (min a b)
def LK(C:Ctx)(t:Ty)(o:Nat)(x:Operand):M (Bd t):=
 (cK C 0 x).bind λv=>match v with
 | .d none n t' y=>if h:t'=t then
   if t.depth=0 then .ret ⟨h▸y,none,[]⟩
   else if n=0 then .ret ⟨h▸y,some 0,[]⟩
   else match x with
    | .tmp s=>.ret ⟨h▸y,if t.depth<=n then none else some n,[(s,o,t.sz)]⟩
    | _=>.fail
  else .fail
 | _=>.fail
def p5(C:Ctx)(i o:Nat)(t:Ty)(parts:List (Nat×Operand)):M (Bd t×List (Nat×Operand)):=
 match parts with
 | (j,x)::rest=>if j=i then (LK C t o x).bind λb=>.ret (b,rest)else .ret (⟨t.zero,none,[]⟩,parts)
 | []=>.ret (⟨t.zero,none,[]⟩,[])
def oI(C:Ctx):(i o:Nat)->(t:Ty)->List (Nat×Operand)->M (Bd t)
 | i,o,.pair a b,parts=>(p5 C i o a parts).bind λp=>(oI C (i+1) (o+a.sz) b p.2).bind λr=>.ret ⟨(p.1.x,r.x),tG p.1.n r.n,p.1.ms++r.ms⟩
 | i,o,t,parts=>(p5 C i o t parts).bind λp=>if p.2.isEmpty then .ret p.1 else .fail
section
variable{P:Program}{C:Ctx}{w w' w0:World}{S S':Nat->Prop}{L L' L0:Nat->aj}{s N:Nat}{vs:List Nat}{T T':List V}{tm tm':Array Value}{a:Act}
def lS(L L':Nat->aj)(d:Nat)(q:List Nat)(o0 m:Nat)(ms:List (Nat×Nat×Nat)):Prop :=
 ∀src o sz,(src,o,sz)∈ms->∀k y rest,y<sz->L k = .own src (y::rest)->(rest.length<m->L' k = .own d (q++(o0+o+y)::rest))/\(m<=rest.length->L' k = .au)
theorem apT[af](hI:Inv w0 L0 N vs T a w L){o:Nat}{x:Operand}{b:Bd t}(h:(LK C t o x).ai T b log):
  ∃cs,Form t cs (a.eval x)/\(∀v∈cs,v.oneCell'=true)/\cs.length=t.sz/\(∀s o' sz,(s,o',sz)∈b.ms->o'=o/\sz=t.sz/\∃n,T.getD s .dead = .d none n t b.x/\n≠0/\t.depth≠0)/\b.ms.length<=1 /\
   ∀(L':Nat->aj) (w':World) d q o0 m,(∀n,b.n=some n->m<=n)->(∀k,L k = .au->L' k = .au)->(∀k,L k ≠ .free->w'.heap[k]?=w.heap[k]?)->lS L L' d q o0 m b.ms ->
    Own w' L' (SL L' none) d m t b.x q (o0+o) cs:=by
 obtain⟨v,l1,l2,rfl,h1,h2⟩:=M.aq h;have xa:∀{L':Nat->aj} {w':World},(∀k,L k = .au->L' k = .au)->(∀k,L k ≠ .free->w'.heap[k]?=w.heap[k]?)->∀k,SL L none k->SL L' none k/\w'.heap[k]?=w.heap[k]?:=by
  intro L' w' hs hw k hk;rcases hk with hk|⟨_,_,hk,_⟩
  ·exact⟨.inl (hs k hk),hw k (by rw[hk];simp)⟩
  ·cases hk
 split at h2
 ·rename_i n t' y;split at h2
  ·rename_i ht;subst ht;have dM:∃s0,aD L T a.tmps s0 (.d none n t' y) w (a.eval x)/\(∀s,x = .tmp s->s0=s/\T.getD s .dead = .d none n t' y):=by
    have hc:∀{x:Operand},(cK C 0 x).ai T (.d none n t' y) l1->(∀s,x ≠ .tmp s)->∃s0,aD L T a.tmps s0 (.d none n t' y) w (a.eval x)/\(∀s,x = .tmp s->s0=s/\T.getD s .dead = .d none n t' y):=by
     intro x h1 hx;rcases kH hI h1 with⟨s,rfl,hv,hs⟩|⟨_,hs⟩
     ·exact absurd rfl (hx s)
     ·exact⟨0,hs _ _ _ _ _,λs he=>absurd he (hx s)⟩
    cases x with
    | tmp s =>
     obtain⟨_,_,hv,_⟩:=h1;refine⟨s,?_,λs' he=>by cases he;exact⟨rfl,hv.symm⟩⟩;rw[hv];exact hI.aY s
    | const c=>exact hc h1 (by simp)
    | func f=>exact hc h1 (by simp)
    | global g=>exact hc h1 (by simp)
   obtain⟨s0,⟨_,cs,hf,ho⟩,hx⟩:=dM;refine⟨cs,hf,Own.one ho,Own.len ho,?_⟩;split at h2
   ·rename_i hd;obtain⟨rfl,_⟩:=h2;refine⟨by simp,by simp,λL' w' d q o0 m _ hs hw _=>?_⟩;exact Own.flat hd ho
   ·rename_i hd;split at h2
    ·rename_i hn;subst hn;obtain⟨rfl,_⟩:=h2;refine⟨by simp,by simp,λL' w' d q o0 m hm hs hw _=>?_⟩;obtain rfl:m=0:=by have:=hm 0 rfl;omega
     exact Own.dP (Rd.move (xa hs hw) (Own.eQ ho))
    ·rename_i hn;split at h2
     ·rename_i s;obtain⟨rfl,_⟩:=h2;obtain⟨rfl,hT⟩:=hx s rfl;refine⟨λs o' sz hm=>?_,by simp,λL' w' d q o0 m hm hs hw ana=>?_⟩
      ·simp only[List.mem_singleton,Prod.mk.injEq]at hm;obtain⟨rfl,rfl,rfl⟩:=hm;exact⟨rfl,rfl,n,hT,hn,hd⟩
      ·have hmn:m<=n\/t'.depth<=n:=by
        by_cases XR:t'.depth<=n
        ·exact .inr XR
        ·exact .inl (hm n (by simp[XR]))
       obtain⟨k9,c9,ho9⟩:=Own.I5 hmn ho;refine Own.fp c9 (xa hs hw) (λk i rest hi hk=>?_) ho9;have aI:L k = .own s0 (i::rest):=by simpa using hk
       have:=ana s0 o t'.sz (by simp) k i rest hi aI;exact⟨hw k (by rw[hk];simp),this.1,λh=>.inl (this.2 h)⟩
     ·exact h2.elim
  ·exact h2.elim
 ·exact h2.elim
theorem ak5{place:Nat->Option (Nat×Nat)}{cells:Array Value}{i size:Nat}{v:Value}{rest:List (Nat×Value)}(hp:place i=some (off,size))(hs:v.cells.size=size)(hb:off+size<=cells.size):
  ∃cw,Instr.fill place cells ((i,v)::rest)=Instr.fill place cw rest/\cw.size=cells.size/\(cw.toList.drop off).take size=v.cells.toList /\
   ∀j,(j<off\/off+size<=j)->cw[j]?=cells[j]?:=by
 let cw:Array Value:=v.cells.zipIdx.foldl (λcs (c,j)=>cs.setIfInBounds (off+j) c) cells;have key:∀(l:List (Value×Nat)) (cs:Array Value),(l.foldl (λcs (c,j)=>cs.setIfInBounds (off+j) c) cs).size=cs.size:=by
  intro l;induction l with
  | nil=>intro cs;rfl
  | cons c l ih=>intro cs;simp only[List.foldl_cons];rw[ih];simp
 have out:∀(l:List (Value×Nat)) (cs:Array Value) (j:Nat),(∀c∈l,off+c.2≠j)->(l.foldl (λcs (c,j)=>cs.setIfInBounds (off+j) c) cs)[j]?=cs[j]?:=by
  intro l;induction l with
  | nil=>intro cs j _;rfl
  | cons c l ih =>
   intro cs j h;simp only[List.foldl_cons];rw[ih _ _ (λc' hc=>h c' (by simp[hc])),Array.getElem?_setIfInBounds,if_neg (h c (by simp))]
 have inn:∀(l:List Value) (b:Nat) (cs:Array Value),off+b+l.length<=cs.size->∀i,i<l.length->((l.zipIdx b).foldl (λcs (c,j)=>cs.setIfInBounds (off+j) c) cs)[off+b+i]?=l[i]?:=by
  intro l;induction l with
  | nil=>intro b cs _ i hi;simp at hi
  | cons c l ih =>
   intro b cs hb i hi;simp only[List.zipIdx_cons,List.foldl_cons];cases i with
   | zero =>
    rw[out]
    ·simp only[List.length_cons]at hb;simp[Array.getElem?_setIfInBounds];omega
    ·intro c' hc;have:=List.le_snd_of_mem_zipIdx hc;omega
   | succ i =>
    simp only[List.length_cons]at hb hi;have:=ih (b+1) (cs.setIfInBounds (off+b) c) (by simp;omega) i (by omega);rw[show off+(b+1)+i=off+b+(i+1)by omega]at this;rw[this];simp
 refine⟨cw,?_,?_,?_,?_⟩
 ·simp only[Instr.fill,hp];rw[if_neg (by simp only[Bool.or_eq_true,decide_eq_true_eq,ne_eq];omega)]
 ·show (v.cells.zipIdx.foldl _ cells).size=_;rw[<-Array.foldl_toList];exact key _ _
 ·apply List.ext_getElem?;intro j;rw[List.getElem?_take];split
  ·rename_i hj;rw[List.getElem?_drop];have:=inn v.cells.toList 0 cells (by simp;omega) j (by simp;omega);simp only[Nat.add_zero]at this;rw[<-this];show cw.toList[off+j]?=_;rw[Array.getElem?_toList];show (v.cells.zipIdx.foldl _ cells)[off+j]?=_;rw[<-Array.foldl_toList];congr 2;simp
  ·rw[List.getElem?_eq_none (by simp;omega)]
 ·intro j hj;show (v.cells.zipIdx.foldl _ cells)[j]?=_;rw[<-Array.foldl_toList];refine out _ _ _ (λc hc=>?_);have h2:c.2<v.cells.size:=by
   rw[Array.toList_zipIdx]at hc;have:=List.snd_lt_of_mem_zipIdx hc;simpa using this
  omega
end
def fc:Nat->List (Nat×Nat×Nat)->Prop
 | _,[]=>True
 | b,(_,o,sz)::ms=>b<=o/\fc (o+sz) ms
section
variable{P:Program}{C:Ctx}{w w' w0:World}{S S':Nat->Prop}{L L' L0:Nat->aj}{s N:Nat}{vs:List Nat}{T T':List V}{tm tm':Array Value}{a:Act}
def r5(T:List V)(lo hi:Nat)(n:Option Nat)(ms:List (Nat×Nat×Nat)):Prop :=
 ∀s o sz,(s,o,sz)∈ms->lo<=o/\o+sz<=hi/\∃m t x,T.getD s .dead = .d none m t x/\m≠0/\t.depth≠0/\t.sz=sz/\n=n
structure EB (T:List V) (a:Act) (w:World) (L:Nat->aj) (place:Nat->Option (Nat×Nat)) (cells:Array Value) (dy:List (Nat×Value)) (o:Nat) (t:Ty) (b:Bd t) (cw:Array Value) (axd:List (Nat×Value)):Prop where
 fill:Instr.fill place cells dy=Instr.fill place cw axd
 size:cw.size=cells.size
 out:∀j,(j<o\/o+t.sz<=j)->cw[j]?=cells[j]?
 src:r5 T o (o+t.sz) b.n b.ms
 qX:fc o b.ms
 own:∀(L':Nat->aj) (w':World) d q o0 m,(∀n,b.n=some n->m<=n)->(∀k,L k = .au->L' k = .au)->(∀k,L k ≠ .free->w'.heap[k]?=w.heap[k]?)->lS L L' d q o0 m b.ms ->
  Own w' L' (SL L' none) d m t b.x q (o0+o) ((cw.toList.drop o).take t.sz)
theorem JF[af](hI:Inv w0 L0 N vs T a w L){o:Nat}{parts xG:List (Nat×Operand)}{b:Bd t}(h:(p5 C i o t parts).ai T (b,xG) log)
  {place:Nat->Option (Nat×Nat)} {cells:Array Value} (hp:place i=some (o,t.sz)) (hz:(cells.toList.drop o).take t.sz=t.cu) (hb:o+t.sz<=cells.size) :
  ∃cw,EB T a w L place cells (parts.map λp=>(p.1,a.eval p.2)) o t b cw (xG.map λp=>(p.1,a.eval p.2)):=by
 have hzero:∀{parts:List (Nat×Operand)},b=⟨t.zero,none,[]⟩->∃cw,EB T a w L place cells (parts.map λp=>(p.1,a.eval p.2)) o t b cw (parts.map λp=>(p.1,a.eval p.2)):=by
  rintro parts rfl
  refine⟨cells,rfl,rfl,λ_ _=>rfl,?_,trivial,λL' w' d q o0 m _ _ _ _=>?_⟩
  ·intro s o sz h;cases h
  ·rw[hz];exact Own.zero
 unfold p5 at h;split at h
 ·rename_i j x rest;split at h
  ·rename_i hj;subst hj;obtain⟨b1,l1,l2,rfl,h1,h2⟩:=M.aq h;obtain⟨h2,_⟩:=h2;injection h2 with h2 h3;subst h2 h3;obtain⟨cs,hf,ee,hlen,c7,nO,bz⟩:=apT hI h1;have hc:=Form.cells hf ee;obtain⟨cw,k1,k2,k3,k4⟩:=ak5 (rest:=xG.map λp=>(p.1,a.eval p.2)) hp (by rw[<-Array.length_toList,hc];exact hlen) hb;refine⟨cw,k1,k2,k4,λs o' sz hm=>?_,?_,λL' w' d q o0 m e1 e2 e3 e4=>?_⟩
   ·obtain⟨rfl,rfl,n,hT,hn,hd⟩:=c7 s o' sz hm;exact⟨Nat.le_refl _,Nat.le_refl _,n,t,_,hT,hn,hd,rfl,rfl⟩
   ·match hms:b.ms,nO with
    | [],_=>trivial
    | [(s,o',sz)],_ =>
     obtain⟨rfl,_⟩:=c7 s o' sz (by rw[hms];simp);exact⟨Nat.le_refl _,trivial⟩
   ·rw[k3,hc];exact bz L' w' d q o0 m e1 e2 e3 e4
  ·obtain⟨h,_⟩:=h;injection h with h1 h2;subst h2;exact hzero h1
 ·obtain⟨h,_⟩:=h;injection h with h1 h2;subst h2;exact hzero h1
theorem aam{x y:Option Nat}(h:∀n,tG x y=some n->m<=n)(hx:x=some n):m<=n:=by
 subst hx;cases y with
 | none=>exact h n rfl
 | some k=>have:=h _ rfl;omega
theorem aan{x y:Option Nat}(h:∀n,tG x y=some n->m<=n)(hy:y=some n):m<=n:=by
 subst hy;cases x with
 | none=>exact h n rfl
 | some k=>have:=h _ rfl;omega
theorem fc.append{pg:List (Nat×Nat×Nat)}{b c:Nat}(h:fc b ms)(hc:b<=c)(h1:∀s o sz,(s,o,sz)∈ms->o+sz<=c)(h2:fc c pg):fc b (ms++pg):=by
 induction ms generalizing b with
 | nil =>
  cases pg with
  | nil=>trivial
  | cons x l =>
   obtain⟨s,o,sz⟩:=x;exact⟨Nat.le_trans hc h2.1,h2.2⟩
 | cons x l ih =>
  obtain⟨s,o,sz⟩:=x;refine⟨h.1,ih h.2 (h1 s o sz (by simp)) (λs o sz hm=>h1 s o sz (by simp[hm]))⟩
theorem r5.mono{lo hi mG tc:Nat}{n n':Option Nat}(h:r5 T lo hi n ms)(h1:mG<=lo)(h2:hi<=tc)(h3:∀k,n=some k->∃k',n'=some k'/\k'<=k):r5 T mG tc n' ms:=by
 intro s o sz hm;obtain⟨e1,e2,m,t,x,e3,e4,e5,e6,_⟩:=h s o sz hm;exact⟨by omega,by omega,m,t,x,e3,e4,e5,e6,rfl⟩
theorem aao{x y:Option Nat}(h:x=some k):∃k',tG x y=some k'/\k'<=k:=by
 subst h;cases y with
 | none=>exact⟨k,rfl,Nat.le_refl _⟩
 | some j=>exact⟨min k j,rfl,by omega⟩
theorem aap{x y:Option Nat}(h:y=some k):∃k',tG x y=some k'/\k'<=k:=by
 subst h;cases x with
 | none=>exact⟨k,rfl,Nat.le_refl _⟩
 | some j=>exact⟨min j k,rfl,by omega⟩
theorem lS.left{o0:Nat}{pg:List (Nat×Nat×Nat)}(h:lS L L' d q o0 m (ms++pg)):lS L L' d q o0 m ms:=λs o sz hm=>h s o sz (List.mem_append_left _ hm)
theorem lS.right{o0:Nat}{pg:List (Nat×Nat×Nat)}(h:lS L L' d q o0 m (ms++pg)):lS L L' d q o0 m pg:=λs o sz hm=>h s o sz (List.mem_append_right _ hm)
theorem Wb[af](hI:Inv w0 L0 N vs T a w L){place:Nat->Option (Nat×Nat)}:{t:Ty}->{i o:Nat}->{parts:List (Nat×Operand)}->{b:Bd t}->{log:List Nat}->{cells:Array Value} ->
  (oI C i o t parts).ai T b log->(∀j r,bB j t=some r->place (i+j)=some (o+r.1,r.2.sz))->(cells.toList.drop o).take t.sz=t.cu->o+t.sz<=cells.size ->
  ∃cw,EB T a w L place cells (parts.map λp=>(p.1,a.eval p.2)) o t b cw []
 | .pair ta tb,i,o,parts,b,log,cells,h,hp,hz,hb=>by
  simp only[oI]at h;obtain⟨⟨b1,xH⟩,l1,l2,rfl,h1,h2⟩:=M.aq h;obtain⟨r,l3,l4,rfl,h3,h4⟩:=M.aq h2;obtain⟨rfl,_⟩:=h4;simp only[Ty.sz,Ty.cu]at hb hz;have hza:(cells.toList.drop o).take ta.sz=ta.cu:=by
   have:=congrArg (List.take ta.sz) hz;rw[List.take_take,Nat.min_eq_left (by omega),List.take_left' (Ty.jN ta)]at this;exact this
  have hzb:(cells.toList.drop (o+ta.sz)).take tb.sz=tb.cu:=by
   have:=congrArg (List.drop ta.sz) hz;rw[List.drop_take,List.drop_drop,List.drop_left' (Ty.jN ta)]at this;rw[<-this];congr 1;omega
  obtain⟨c1,f1⟩:=JF hI h1 (place:=place) (cells:=cells) (by have:=hp 0 _ rfl;simpa using this) hza (by omega);obtain⟨c2,f2⟩:=Wb hI (place:=place) (cells:=c1) h3 (λj r hr=>by
   have:=hp (j+1) (ta.sz+r.1,r.2) (by simp[bB,hr]);rw[show i+1+j=i+(j+1)by omega,this];simp only[Option.some.injEq,Prod.mk.injEq,and_true];omega) (by
    rw[uc (cur:=cells) (cur':=c1) (λi h1 h2=>f1.out i (by omega))];exact hzb) (by rw[f1.size];omega)
  refine⟨c2,f1.fill.trans f2.fill,f2.size.trans f1.size,λj hj=>?_,?_,?_,λL' w' d q o0 m e1 e2 e3 e4=>?_⟩
  ·simp only[Ty.sz]at hj;rw[f2.out j (by omega),f1.out j (by omega)]
  ·intro s o' sz hm;rcases List.mem_append.1 hm with hm|hm
   ·exact (f1.src.mono (Nat.le_refl _) (by simp only[Ty.sz];omega) (λk hk=>aao hk)) s o' sz hm
   ·exact (f2.src.mono (by omega) (by simp only[Ty.sz];omega) (λk hk=>aap hk)) s o' sz hm
  ·exact f1.qX.append (by omega) (λs o' sz hm=>(f1.src s o' sz hm).2.1) f2.qX
  ·simp only[Own,Ty.sz];refine⟨(c2.toList.drop o).take ta.sz,(c2.toList.drop (o+ta.sz)).take tb.sz,?_,?_,?_⟩
   ·rw[<-List.drop_drop,<-List.take_add]
   ·rw[uc (cur:=c1) (cur':=c2) (λi h1 h2=>f2.out i (by omega))];exact f1.own L' w' d q o0 m (λn hn=>aam e1 hn) e2 e3 e4.left
   ·rw[Nat.add_assoc];exact f2.own L' w' d q o0 m (λn hn=>aan e1 hn) e2 e3 e4.right
 | .int _,i,o,parts,b,log,cells,h,hp,hz,hb | .bool,i,o,parts,b,log,cells,h,hp,hz,hb | .str,i,o,parts,b,log,cells,h,hp,hz,hb | .raw _,i,o,parts,b,log,cells,h,hp,hz,hb | .cap _ _,i,o,parts,b,log,cells,h,hp,hz,hb | .unit,i,o,parts,b,log,cells,h,hp,hz,hb | .agg _,i,o,parts,b,log,cells,h,hp,hz,hb | .slice _ _,i,o,parts,b,log,cells,h,hp,hz,hb=>by
  simp only[oI]at h;obtain⟨⟨b1,xH⟩,l1,l2,rfl,h1,h2⟩:=M.aq h;simp only at h2;split at h2
  ·rename_i he;obtain⟨rfl,_⟩:=h2;have:xH=[]:=by simpa using he
   subst this;exact JF hI h1 (place:=place) (cells:=cells) (by have:=hp 0 _ rfl;simpa using this) hz hb
  ·exact h2.elim
end
end Go.Proofs.YtbhogmdpmkpinaaGreat.P.Am
