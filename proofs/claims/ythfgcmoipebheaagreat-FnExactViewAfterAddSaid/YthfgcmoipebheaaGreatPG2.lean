/- A part of the proof: Am8,Am9,Am10,Am11,Am12,Am13,Am14,Am15,Am16,Am17. No conditions. -/
import Derived.Test.YthfgcmoipebheaaGreatPG1
import Derived.IntWalk
import Derived.Laws.StructEq
import Derived.Laws.BytesString
set_option linter.unusedVariables false
set_option linter.unusedSimpArgs false
namespace Go.Proofs.YthfgcmoipebheaaGreat.P.Am
variable{d g i k m n off r:Nat}{log q:List Nat}{X:TypeId}{v:V}{o:Oper}{t:Ty}{x y:Operand}{p:List St}{c:Value}{l:Option Nat}{cs:List Value}{ms:List (Nat×Nat×Nat)}
def qv:List St->Nat->Nat->(t:Ty)->t.den->M (Option Nat×D)
 | .idx sz i::p,0,n,.pair (.int _) (.slice _ te),x=>if sz=te.sz then .bn (decide (x.1<=i)) (.cL te (ab x.2 i) λy=>(aU p n te y).bind λr=>.ret (none,r))else .fail
 | .a7 i off::p,1,m,.agg t,x=>match comp i t x with
  | some (o,⟨t',x'⟩)=>if o=off then (aU p (cond (m.testBit i) t'.depth 0) t' x').bind λr=>.ret (none,r)else .fail
  | none=>.fail
 | _,_,_,_,_=>.fail
def dG(p:List St):V->M (Option Nat×D)
 | .box l n t x=>(aU p n t x).bind λr=>.ret (l,r)
 | .d l n t x=>match p with
  | .idx sz i::p'=>(aU (.idx sz i::p') n t x).bind λr=>.ret (l,r)
  | _=>.fail
 | .bQ k n t x=>qv p k n t x
 | _=>.fail
def qS(p:List St):V->M (Option Nat×D)
 | .d l n t x=>match p with
  | []=>.ret (l,⟨n,t,x⟩)
  | .idx sz i::p'=>(aU (.idx sz i::p') n t x).bind λr=>.ret (l,r)
  | _=>.fail
 | u=>dG p u
def LP(C:Ctx)(X:TypeId)(r:Nat)(p:List St):M V :=
 .get r λu=>(dG p u).bind λz =>
  if C.ty X=some z.2.t then
   if z.2.t.depth=0 then .ret (.d none 0 z.2.t z.2.x)else if z.2.n=0 then .ret (.d z.1 0 z.2.t z.2.x)else .ret (.view r p z.2.t)
  else .fail
def LQ(C:Ctx)(X:TypeId)(t:Nat):V->M V
 | .rp l t' x=>if C.ty X=some t' then .ret (.d l 0 t' x)else .fail
 | .ptr r p _=>LP C X r p
 | .box _ _ _ _=>LP C X t []
 | _=>.fail
def mf(t:Nat):V->M (Option Nat×(t:Ty)×t.den)
 | .d l n t' x=>if n=0\/t'.depth=0 then .ret (l,⟨t',x⟩)else match l with
  | none=>.ret (some t,⟨t',x⟩)
  | some _=>.fail
 | .view r p t'=>.get r λu=>(qS p u).bind λz=>match z.1 with
  | none=>if z.2.t=t' then .ret (some r,⟨z.2.t,z.2.x⟩)else .fail
  | some _=>.fail
 | _=>.fail
section
variable{P:Program}{C:Ctx}{w w' w0:World}{S S':Nat->Prop}{L L' L0:Nat->ak}{s N:Nat}{vs:List Nat}{T T':List V}{tm tm':Array Value}{a:Act}
theorem Mk(q:List Nat)(o:Nat)(p p':List St):node q o (p++p')=node (node q o p).1 (node q o p).2 p':=by
 induction p generalizing q o with
 | nil=>rfl
 | cons st p ih=>cases st<;>simp only[List.cons_append,node]<;>exact ih _ _
theorem Own.elem{e:TypeId}{xs:List t.den}{q:List Nat}{o:Nat}(h:Own w L S s (n+1) (.slice e t) xs q o cs)(hi:i<xs.length):
  my w L S s n t (xs[i]) (q++[o]) (i*t.sz):=by
 simp only[Own]at h;rcases h with⟨_,rfl⟩|⟨g2,cap,eW,dj,hL,hg,h5,h6,h7,h8⟩
 ·exact absurd hi (by simp)
 ·refine⟨g2,eW,e,hL,hg,?_,h8 _ hi⟩;rw[h7]
  calc i*t.sz+t.sz=(i+1)*t.sz:=by rw[Nat.add_mul,Nat.one_mul]
   _<=cap*t.sz:=Nat.mul_le_mul_right _ (by omega)
theorem Dt:{p:List St}->{n:Nat}->{t:Ty}->{x:t.den}->{n':Nat}->{t':Ty}->{x':t'.den}->{log:List Nat} ->
  (aU p n t x).aj T ⟨n',t',x'⟩ log->n'<=n/\t'.depth<=t.depth
 | [],n,t,x,n',t',x',log,hr=>by
  obtain⟨he,_⟩:=hr;cases he;exact⟨Nat.le_refl _,Nat.le_refl _⟩
 | .a7 i off::p,n,.agg t,x,n',t',x',log,hr=>by
  simp only[aU]at hr;split at hr
  ·rename_i o1 t1 x1 hc;split at hr
   ·have h1:=Dt hr;have h2:=WX hc;simp only[Ty.depth];omega
   ·exact hr.elim
  ·exact hr.elim
 | .idx sz i::p,n+1,.slice e t,xs,n',t',x',log,hr=>by
  simp only[aU]at hr;split at hr
  ·obtain⟨y,hy,hr⟩:=hr;have h1:=Dt hr;simp only[Ty.depth];omega
  ·exact hr.elim
 | .idx _ _::p,0,.slice _ _,_,_,_,_,_,hr=>by simp only[aU]at hr;exact hr.elim
 | .a7 _ _::p,_,.int _,_,_,_,_,_,hr=>by simp only[aU]at hr;exact hr.elim
 | .a7 _ _::p,_,.bool,_,_,_,_,_,hr=>by simp only[aU]at hr;exact hr.elim
 | .a7 _ _::p,_,.str,_,_,_,_,_,hr=>by simp only[aU]at hr;exact hr.elim
 | .a7 _ _::p,_,.raw _,_,_,_,_,_,hr=>by simp only[aU]at hr;exact hr.elim
 | .a7 _ _::p,_,.cap _ _,_,_,_,_,_,hr=>by simp only[aU]at hr;exact hr.elim
 | .a7 _ _::p,_,.unit,_,_,_,_,_,hr=>by simp only[aU]at hr;exact hr.elim
 | .a7 _ _::p,_,.pair _ _,_,_,_,_,_,hr=>by simp only[aU]at hr;exact hr.elim
 | .a7 _ _::p,_,.slice _ _,_,_,_,_,_,hr=>by simp only[aU]at hr;exact hr.elim
 | .idx _ _::p,_,.int _,_,_,_,_,_,hr=>by simp only[aU]at hr;exact hr.elim
 | .idx _ _::p,_,.bool,_,_,_,_,_,hr=>by simp only[aU]at hr;exact hr.elim
 | .idx _ _::p,_,.str,_,_,_,_,_,hr=>by simp only[aU]at hr;exact hr.elim
 | .idx _ _::p,_,.raw _,_,_,_,_,_,hr=>by simp only[aU]at hr;exact hr.elim
 | .idx _ _::p,_,.cap _ _,_,_,_,_,_,hr=>by simp only[aU]at hr;exact hr.elim
 | .idx _ _::p,_,.unit,_,_,_,_,_,hr=>by simp only[aU]at hr;exact hr.elim
 | .idx _ _::p,_,.pair _ _,_,_,_,_,_,hr=>by simp only[aU]at hr;exact hr.elim
 | .idx _ _::p,_,.agg _,_,_,_,_,_,hr=>by simp only[aU]at hr;exact hr.elim
 where
 WX:{i:Nat}->{t:Ty}->{x:t.den}->{o1:Nat}->{t1:Ty}->{x1:t1.den}->comp i t x=some (o1,⟨t1,x1⟩)->t1.depth<=t.depth
 | 0,.pair a b,x,o1,t1,x1,hc=>by
  simp only[comp,Option.some.injEq,Prod.mk.injEq]at hc;obtain⟨rfl,hc⟩:=hc;cases hc;simp only[Ty.depth];omega
 | i+1,.pair a b,x,o1,t1,x1,hc=>by
  simp only[comp,Option.map_eq_some_iff]at hc;obtain⟨⟨o2,t2,x2⟩,hc,he⟩:=hc;simp only[Prod.mk.injEq]at he;obtain⟨rfl,he⟩:=he;cases he;have:=WX hc;simp only[Ty.depth];omega
 | 0,.int _,_,_,_,_,hc=>by simp only[comp,Option.some.injEq,Prod.mk.injEq]at hc;obtain⟨rfl,hc⟩:=hc;cases hc;simp
 | 0,.bool,_,_,_,_,hc=>by simp only[comp,Option.some.injEq,Prod.mk.injEq]at hc;obtain⟨rfl,hc⟩:=hc;cases hc;simp
 | 0,.str,_,_,_,_,hc=>by simp only[comp,Option.some.injEq,Prod.mk.injEq]at hc;obtain⟨rfl,hc⟩:=hc;cases hc;simp
 | 0,.raw _,_,_,_,_,hc=>by simp only[comp,Option.some.injEq,Prod.mk.injEq]at hc;obtain⟨rfl,hc⟩:=hc;cases hc;simp
 | 0,.cap _ _,_,_,_,_,hc=>by simp only[comp,Option.some.injEq,Prod.mk.injEq]at hc;obtain⟨rfl,hc⟩:=hc;cases hc;simp
 | 0,.unit,_,_,_,_,hc=>by simp only[comp,Option.some.injEq,Prod.mk.injEq]at hc;obtain⟨rfl,hc⟩:=hc;cases hc;simp
 | 0,.agg _,_,_,_,_,hc=>by simp only[comp,Option.some.injEq,Prod.mk.injEq]at hc;obtain⟨rfl,hc⟩:=hc;cases hc;simp
 | 0,.slice _ _,_,_,_,_,hc=>by simp only[comp,Option.some.injEq,Prod.mk.injEq]at hc;obtain⟨rfl,hc⟩:=hc;cases hc;simp
theorem ca.len:{t:Ty}->{m:Nat}->{x:t.den}->{o:Nat}->{cs:List Value}->ca w L s m t x o cs->cs.length=t.sz:=by
 intro t;induction t with
 | pair a b _ ih =>
  intro m x o cs h;obtain⟨c0,c1,rfl,h2,h3⟩:=h;rw[List.length_append,Own.len h2,ih h3];rfl
 | _=>intro m x o cs h;simp only[ca]at h;exact Own.len h
theorem ca.WY:{t:Ty}->{m:Nat}->{x:t.den}->{o:Nat}->{cs:List Value}->{i o1:Nat}->{t1:Ty}->{x1:t1.den}->ca w L s m t x o cs->comp i t x=some (o1,⟨t1,x1⟩) ->
  o1+t1.sz<=t.sz/\Own w L (SL L none) s (cond (m.testBit i) t1.depth 0) t1 x1 [] (o+o1) ((cs.drop o1).take t1.sz):=by
 intro t;induction t with
 | pair a b _ ih =>
  intro m x o cs i o1 t1 x1 h hc;obtain⟨c0,c1,rfl,h2,h3⟩:=h;have hl:=Own.len h2;cases i with
  | zero =>
   simp only[comp,Option.some.injEq,Prod.mk.injEq]at hc;obtain⟨rfl,hc⟩:=hc;cases hc;refine⟨by simp only[Ty.sz];omega,?_⟩;rw[List.drop_zero,<-hl,List.take_left];exact h2
  | succ i =>
   simp only[comp,Option.map_eq_some_iff]at hc;obtain⟨⟨o2,t2,x2⟩,hc,he⟩:=hc;simp only[Prod.mk.injEq]at he;obtain⟨rfl,he⟩:=he;cases he;obtain⟨k1,k3⟩:=ih h3 hc;refine⟨by simp only[Ty.sz];omega,?_⟩;have e:(c0++c1).drop (a.sz+o2)=c1.drop o2:=by
    rw[<-hl,<-List.drop_drop,List.drop_left]
   rw[e,<-Nat.add_assoc,Nat.testBit_succ];exact k3
 | _ =>
  intro m x o cs i o1 t1 x1 h hc;cases i with
  | zero =>
   simp only[comp,Option.some.injEq,Prod.mk.injEq]at hc;obtain⟨rfl,hc⟩:=hc;cases hc;simp only[ca]at h;refine⟨by simp,?_⟩;rw[List.drop_zero,List.take_of_length_le (Nat.le_of_eq (Own.len h))];exact h
  | succ i=>simp[comp]at hc
theorem Mn[ae]{x:t.den}{n':Nat}{t':Ty}{x':t'.den}(hr:(qv p k n t x).aj T (l,⟨n',t',x'⟩) log)(hs:fE w L s k n t x c):
  my w L (SL L l) s n' t' x' (node [] 0 p).1 (node [] 0 p).2/\l=none/\p≠[]:=by
 unfold qv at hr;split at hr
 ·split at hr
  ·rename_i bq;subst bq;obtain⟨hle,y,hy,hr⟩:=hr;obtain⟨z,l1,LL,rfl,h1,h2⟩:=M.aq hr;obtain⟨h2,_⟩:=h2;cases h2;obtain⟨hi,h0,rfl⟩:=lF hy;simp only[fE]at hs;rcases hs with⟨_,hs⟩|⟨g,cap,cur,k1,k2,k3,k4,k5,k6,k7⟩
   ·rw[hs]at hi;exact absurd hi (by simp)
   ·refine⟨sv (q:=[]++[0]) h1 ⟨g,cur,_,k2,k3,?_,k7 _ hi ?_⟩,rfl,by simp⟩
    ·rw[k6,<-Nat.succ_mul];exact Nat.mul_le_mul_right _ (Nat.lt_of_lt_of_le hi k4)
    ·exact Int.le_trans (of_decide_eq_true hle) (Int.le_of_eq (Int.toNat_of_nonneg h0).symm)
  ·exact hr.elim
 ·split at hr
  ·rename_i o _ _ hc;split at hr
   ·rename_i ho;subst ho;obtain⟨z,l1,LL,rfl,h1,h2⟩:=M.aq hr;obtain⟨h2,_⟩:=h2;cases h2;simp only[fE]at hs;obtain⟨g,cur,e,k1,k2,k3,k4,k5⟩:=hs;obtain⟨j1,j2⟩:=ca.WY k5 hc;rw[Nat.zero_add]at j2;have key:=sv (L:=L) (s:=s) (S:=SL L none) (w:=w) (q:=[]) (o:=o) h1 ⟨g,cur,e,k2,k3,by rw[k4];exact j1,j2⟩;refine⟨?_,rfl,by simp⟩;simp only[node,Nat.zero_add];exact key
   ·exact hr.elim
  ·exact hr.elim
 ·exact hr.elim
theorem lb[ae]{u:V}{n':Nat}{t':Ty}{x':t'.den}(hr:(dG p u).aj T (l,⟨n',t',x'⟩) log)(hs:aB L T tm s u w c):
  my w L (SL L l) s n' t' x' (node [] 0 p).1 (node [] 0 p).2/\(∀r,l=some r->(T.getD r .dead).deep=true)/\(n'≠0->t'.depth≠0->u.deep=true)/\u.aO=true/\(u.dE=false\/p≠[]):=by
 cases u with
 | box l2 n t x =>
  obtain⟨z,l1,LL,rfl,h1,h2⟩:=M.aq hr;obtain⟨h2,_⟩:=h2;cases h2;obtain⟨h0,g,cur,e,h3,h4,h5,h6,h7⟩:=hs;refine⟨sv h1 ⟨g,cur,e,h4,h5,by omega,?_⟩,h0,λhn hd=>?_,rfl,.inl rfl⟩
  ·rw[List.drop_zero,List.take_of_length_le (by rw[<-h6];simp)];exact h7
  ·have:=Dt h1;simp only[V.deep,Bool.and_eq_true,bne_iff_ne];omega
 | d l2 n t x =>
  simp only[dG]at hr;split at hr
  ·rename_i sz i p';obtain⟨z,l1,LL,rfl,h1,h2⟩:=M.aq hr;obtain⟨h2,_⟩:=h2;cases h2;obtain⟨h0,cs,h3,h4⟩:=hs;have hle:=Dt h1;have jL:n'≠0->t'.depth≠0->(V.d l n t x).deep=true:=λhn hd=>by
    simp only[V.deep,Bool.and_eq_true,bne_iff_ne];omega
   cases t<;>cases n<;>simp only[aU]at h1<;>try exact h1.elim
   rename_i e t n;split at h1
   ·rename_i bq;subst bq;obtain⟨y,hy,h1⟩:=h1;obtain⟨hi,jN,rfl⟩:=lF hy;refine⟨sv (q:=[]++[0]) h1 (Own.elem h4 hi),h0,jL,?_,.inr (by simp)⟩;simp[V.aO,Ty.depth]
   ·exact h1.elim
  ·exact hr.elim
 | bQ k2 n t x =>
  obtain⟨h1,h2,h3⟩:=Mn hr hs;exact⟨h1,by simp[h2],λ_ _=>rfl,rfl,.inl rfl⟩
 | dead=>exact hr.elim
 | bH _=>exact hr.elim
 | rp _ _ _=>exact hr.elim
 | ptr _ _ _=>exact hr.elim
 | view _ _ _=>exact hr.elim
 | hole _ _=>exact hr.elim
 | part _ _ _ _ _=>exact hr.elim
 | same _ _=>exact hr.elim
theorem Ze[ae](hI:Inv w0 L0 N vs T a w L)(hC:bF P C){x:t.den}{o g:Nat}
  (hT:C.ty X=some t) (h:my w L (SL L l) r n t x q o) (hg:L g = .own r q) :
  ∃c cur e,(loadVar X ⟨g,o,none⟩).run P w = .ok c w/\w.heap[g]?=some (.cells cur e (0,0))/\o+t.sz<=cur.size/\Form t ((cur.toList.drop o).take t.sz) c /\
   Own w L (SL L l) r n t x q o ((cur.toList.drop o).take t.sz):=by
 obtain⟨g',cur,e,h1,h2,h3,h4⟩:=h;obtain rfl:=hI.inj g g' r q hg h1;obtain⟨c,hc,hf⟩:=(hC X t hT).MN (w:=w) (g:=g) (o:=o) (Own.len h4) (my.cell h2);exact⟨c,cur,e,hc,h2,h3,hf,h4⟩
theorem abT[ae](hI:Inv w0 L0 N vs T a w L)(hC:bF P C){r:Nat}{p:List St}(ho:o.op = .load X x)
  (hid:(T.getD d .dead).idle=true) (hx:∃g,a.eval x = .pointer (some ⟨g,(node [] 0 p).2,none⟩)/\L g = .own r (node [] 0 p).1)
  (h:(LP C X r p).aj T v log) (bf:∀r,v.on r=true->r∈vs):aP P o vs T a w L d v:=by
 obtain⟨g,hx,hg⟩:=hx;obtain⟨aD,rfl,h⟩:=h;obtain⟨⟨l,n',t',x'⟩,l1,l2,rfl,h1,h2⟩:=M.aq h;obtain⟨hb,hl,cB,bA,lK⟩:=lb h1 (hI.aX r);have bD:r≠d:=dm hid bA;split at h2
 ·rename_i hT;obtain⟨c,cur,e,aT,hh,bq,hf,lO⟩:=Ze hI hC hT hb hg;have K8:(execOp a.eval o).run P w = .ok (.value c) w:=by simp[execOp,ho,hx,Instr.loadAt,Instr.sureAddr,aT]
  refine⟨c,w,L,K8,ek.refl hI d,λk q hk h=>(by rw[hI.free k hk]at h;cases h),bf,?_⟩;have sL:∀r',(T.getD r' .dead).aO=true->r'≠d:=λr' h1=>dm hid h1;split at h2
  ·rename_i oC;obtain⟨rfl,_⟩:=h2;exact⟨by simp,_,hf,Own.flat oC lO⟩
  ·rename_i oC;split at h2
   ·rename_i ix;obtain⟨rfl,_⟩:=h2;refine⟨λr' aZ=>?_,_,hf,Own.bB (.inl ix) lO (.inl rfl)⟩;have:=hl r' aZ;rw[aJ,if_neg (λh=>sL r' (V.fg this) h.1)];exact this
   ·rename_i ix;obtain⟨rfl,_⟩:=h2;refine⟨?_,.inr ⟨g,cur,e,?_,hg,hh,bq,hf⟩⟩
    ·rw[aJ,if_neg (λh=>bD h.1)];exact cB ix oC
    ·rw[aJ,if_neg (λh=>bD h.1)];exact lK
 ·exact h2.elim
theorem aqD[ae](hI:Inv w0 L0 N vs T a w L)(hC:bF P C){o:Oper}{t:Nat}(ho:o.op = .load X (.tmp t))
  (hid:(T.getD d .dead).idle=true) (h:(M.get t (LQ C X t)).aj T v log) (bf:∀r,v.on r=true->r∈vs):aP P o vs T a w L d v:=by
 obtain⟨aD,rfl,h⟩:=h;have hs:=hI.aX t;generalize hv:T.getD t .dead=u at h hs;cases u with
 | rp l t' x =>
  simp only[LQ]at h;split at h
  ·rename_i hT;obtain⟨rfl,_⟩:=h;obtain⟨h0,g,o',cs,h1,h2,h3,h4⟩:=hs;obtain⟨c,hc,hf⟩:=(hC X t' hT).MN (w:=w) (g:=g) (o:=o') (Rd.len h3) h4;have eY:a.eval (.tmp t)=_:=h1;refine⟨c,w,L,by simp[execOp,ho,eY,Instr.loadAt,Instr.sureAddr,hc],ek.refl hI d,λk q hk h=>(by rw[hI.free k hk]at h;cases h),bf,?_⟩;refine⟨λr hr=>?_,cs,hf,Own.dM h3⟩;have:=h0 r hr;rw[aJ,if_neg (λh=>dm hid (V.fg this) h.1)];exact this
  ·exact h.elim
 | ptr r p t' =>
  obtain⟨g,h1,h2⟩:=hs;exact abT hI hC ho hid ⟨g,h1,h2⟩ h bf
 | box l n t' x =>
  obtain⟨_,g,cur,e,h1,h2,_⟩:=hs;exact abT hI hC ho hid (r:=t) (p:=[]) ⟨g,h1,h2⟩ h bf
 | dead=>exact h.elim
 | bH _=>exact h.elim
 | d _ _ _ _=>exact h.elim
 | view _ _ _=>exact h.elim
 | hole _ _=>exact h.elim
 | part _ _ _ _ _=>exact h.elim
 | bQ _ _ _ _=>exact h.elim
 | same _ _=>exact h.elim
theorem E0[ae](hI:Inv w0 L0 N vs T a w L){n':Nat}{x':t.den} 
  (hv:aB L T a.tmps s (.view r p t) w c) (hr:(qS p (T.getD r .dead)).aj T (l,⟨n',t,x'⟩) log) :
  ∃cs,Form t cs c/\Own w L (SL L l) r n' t x' (node [] 0 p).1 (node [] 0 p).2 cs/\(∀r,l=some r->(T.getD r .dead).deep=true)/\(T.getD r .dead).deep=true:=by
 obtain⟨cB,hv⟩:=hv;have hs:=hI.aX r;rcases hv with⟨rfl,hc,l0,n0,x0,hd,bA⟩|⟨g,cur,e,hp,h1,h2,h3,h4⟩
 ·rw[hd]at hr hs;obtain⟨hr,_⟩:=hr;cases hr;obtain⟨h0,cs,hf,ho⟩:=hs;exact⟨cs,by rw[hc];exact hf,ho,h0,cB⟩
 ·have key:∀{log:List Nat},(dG p (T.getD r .dead)).aj T (l,⟨n',t,x'⟩) log->_:=λhr=>lb hr hs;have cj:(∃log,(dG p (T.getD r .dead)).aj T (l,⟨n',t,x'⟩) log)\/p=[]:=by
   generalize T.getD r .dead=u at hr;cases u with
   | d l0 n0 t0 x0 =>
    simp only[qS]at hr;split at hr
    ·exact .inr rfl
    ·exact .inl ⟨_,hr⟩
    ·exact hr.elim
   | box l0 n0 t0 x0=>exact .inl ⟨_,hr⟩
   | dead=>exact .inl ⟨_,hr⟩
   | bH _=>exact .inl ⟨_,hr⟩
   | rp _ _ _=>exact .inl ⟨_,hr⟩
   | ptr _ _ _=>exact .inl ⟨_,hr⟩
   | view _ _ _=>exact .inl ⟨_,hr⟩
   | hole _ _=>exact .inl ⟨_,hr⟩
   | part _ _ _ _ _=>exact .inl ⟨_,hr⟩
   | bQ _ _ _ _=>exact .inl ⟨_,hr⟩
   | same _ _=>exact .inl ⟨_,hr⟩
  rcases cj with⟨log,cj⟩|rfl
  ·obtain⟨⟨g',cur',e',k1,k2,k3,k4⟩,hl,_,_,_⟩:=key cj;obtain rfl:=hI.inj g g' r _ h1 k1;rw[h2]at k2;injection k2 with k2;injection k2 with k2 _ _;subst k2;exact⟨_,h4,k4,hl,cB⟩
  ·
   generalize hu:T.getD r .dead=u at hr hs cB hp;cases u with
   | box l0 n0 t0 x0 =>
    have cj:(dG [] (.box l0 n0 t0 x0)).aj T (l,⟨n',t,x'⟩) log:=hr;obtain⟨⟨g',cur',e',k1,k2,k3,k4⟩,hl,_,_,_⟩:=lb cj hs;obtain rfl:=hI.inj g g' r _ h1 k1;rw[h2]at k2;injection k2 with k2;injection k2 with k2 _ _;subst k2;exact⟨_,h4,k4,hl,cB⟩
   | d l0 n0 t0 x0=>rcases hp with hp|hp<;>simp[V.dE]at hp
   | dead=>exact hr.elim
   | bH _=>exact hr.elim
   | rp _ _ _=>exact hr.elim
   | ptr _ _ _=>exact hr.elim
   | view _ _ _=>exact hr.elim
   | hole _ _=>exact hr.elim
   | part _ _ _ _ _=>exact hr.elim
   | bQ k0 n0 t0 x0 =>
    have cj:(dG [] (.bQ k0 n0 t0 x0)).aj T (l,⟨n',t,x'⟩) log:=hr;exact absurd rfl (Mn cj hs).2.2
   | same _ _=>exact hr.elim
end
def px(C:Ctx)(X:TypeId):Option Ty:=match C.ty X with
 | some (.agg t)=>cond t.eD none (some t)
 | _=>none
def pz(C:Ctx)(X:TypeId):Option Ty:=match C.ty X with
 | some (.agg t)=>cond t.eD (some t) none
 | _=>none
def vm(r:Nat)(p:List St)(t:Ty)(i:Int):Nat->Nat->M V
 | 0,_=>.fail
 | m+1,k=>match bC (k+1) t with
  | some (off,t1)=>.ite (decide (i=(k:Int))) (.ret (.ptr r (p++[.a7 (k+1) off]) t1)) (vm r p t i m (k+1))
  | none=>.fail
def sj:Ty->Ty
 | .pair a _=>a
 | t=>t
def mS(te:Ty):(t:Ty)->t.den->List te.den
 | .pair a b,z=>if h:a=te then (h▸z.1)::mS te b z.2 else []
 | .int k,z=>if h:Ty.int k=te then [h▸z]else []
 | .bool,z=>if h:Ty.bool=te then [h▸z]else []
 | .str,z=>if h:Ty.str=te then [h▸z]else []
 | _,_=>[]
theorem Xe{te:Ty}:{t:Ty}->{z:t.den}->{j:Nat}->{y:te.den}->(mS te t z)[j]?=some y->∃off,comp j t z=some (off,⟨te,y⟩)
 | .pair a b,z,j,y,h=>by
  simp only[mS]at h;split at h
  ·rename_i ht;subst ht;cases j with
   | zero =>
    simp only[List.getElem?_cons_zero,Option.some.injEq]at h;subst h;exact⟨0,rfl⟩
   | succ j =>
    obtain⟨off,h⟩:=Xe (t:=b) (by simpa using h);exact⟨a.sz+off,by simp[comp,h]⟩
  ·simp at h
 | .int k,z,j,y,h=>by
  simp only[mS]at h;split at h
  ·rename_i ht;subst ht;cases j with
   | zero=>simp only[List.getElem?_cons_zero,Option.some.injEq]at h;subst h;exact⟨0,rfl⟩
   | succ j=>simp at h
  ·simp at h
 | .bool,z,j,y,h=>by
  simp only[mS]at h;split at h
  ·rename_i ht;subst ht;cases j with
   | zero=>simp only[List.getElem?_cons_zero,Option.some.injEq]at h;subst h;exact⟨0,rfl⟩
   | succ j=>simp at h
  ·simp at h
 | .str,z,j,y,h=>by
  simp only[mS]at h;split at h
  ·rename_i ht;subst ht;cases j with
   | zero=>simp only[List.getElem?_cons_zero,Option.some.injEq]at h;subst h;exact⟨0,rfl⟩
   | succ j=>simp at h
  ·simp at h
 | .raw _,_,_,_,h | .cap _ _,_,_,_,h | .unit,_,_,_,h | .agg _,_,_,_,h | .slice _ _,_,_,_,h=>by simp[mS]at h
def oV(C:Ctx)(X:TypeId):Option Ty:=match C.ty X with
 | some (.slice _ t)=>some t
 | _=>none
def vB(C:Ctx)(X:TypeId)(f:Nat)(t:Nat):V->M V
 | .ptr r p _=>match px C X with
  | some ta=>match bC f ta with
   | some (off,t1)=>.ret (.ptr r (p++[.a7 f off]) t1)
   | none=>.fail
  | none=>.fail
 | .box _ _ _ _=>match px C X with
  | some ta=>match bC f ta with
   | some (off,t1)=>.ret (.ptr t [.a7 f off] t1)
   | none=>.fail
  | none=>.fail
 | .rp l t' x=>match t',x with
  | .agg ta,x=>if px C X=some ta then match comp f ta x with
    | some (_,⟨t1,x1⟩)=>.ret (.rp l t1 x1)
    | none=>.fail
   else .fail
  | _,_=>.fail
 | _=>.fail
def abq(t:Nat):V->M V
 | .ptr r p t'=>.ret (.ptr r p t')
 | .rp l t' x=>.ret (.rp l t' x)
 | .box _ _ t' _=>.ret (.ptr t [] t')
 | _=>.fail
def wU(C:Ctx)(X:TypeId)(t:Nat)(i:Int):V->M V
 | .d l n t' x=>match t',x with
  | .slice _ te,xs=>if oV C X=some te then .cL te (ab xs i) λy=>if n=0 then .ret (.rp l te y)else .ret (.ptr t [.idx te.sz i] te)
   else .fail
  | _,_=>.fail
 | .view r p t'=>.get r λu=>(qS p u).bind λz=>match z.2 with
  | ⟨n,.slice e te,xs⟩=>if .slice e te=t'/\oV C X=some te/\n≠0 then .cL te (ab xs i) λ_=>.ret (.ptr r (p++[.idx te.sz i]) te)else .fail
  | _=>.fail
 | .ptr r p _=>match pz C X with
  | some ta=>vm r p ta i 8 0
  | none=>.fail
 | .box _ _ _ _=>match pz C X with
  | some ta=>vm t [] ta i 8 0
  | none=>.fail
 | _=>.fail
def mW(s:ByteArray)(i:Int):Option Int:=if 0<=i then (s[i.toNat]?).map λb=>(b.toNat:Int)else none
def LO(tx:Ty)(t:Nat)(v:V):M V :=
 match tx with
 | .slice _ _=>(mf t v).bind λz=>match z.2 with
  | ⟨.slice _ _,xs⟩=>.ret (.d none 0 (.int .i64) (xs.length:Int))
  | _=>.fail
 | .str=>match v with
  | .d _ _ .str s=>.ret (.d none 0 (.int .i64) (s.size:Int))
  | _=>.fail
 | _=>.fail
section
variable{P:Program}{C:Ctx}{w w' w0:World}{S S':Nat->Prop}{L L' L0:Nat->ak}{s N:Nat}{vs:List Nat}{T T':List V}{tm tm':Array Value}{a:Act}
theorem aP.ptr[ae](hI:Inv w0 L0 N vs T a w L){g:Nat}{p:List St}(aT:(execOp a.eval o).run P w = .ok (.value (.pointer (some ⟨g,(node [] 0 p).2,none⟩))) w)
  (hg:L g = .own r (node [] 0 p).1) (bf:∀r',(V.ptr r p t).on r'=true->r'∈vs):aP P o vs T a w L d (.ptr r p t):=
 ⟨_,w,L,aT,ek.refl hI d,λk q hk h=>(by rw[hI.free k hk]at h;cases h),bf,g,rfl,hg⟩
theorem ab5[ae](hC:bF P C){f o:Nat}{ta t1:Ty}(h1:px C X=some ta)(h2:bC f ta=some (off,t1)):
  (Instr.fieldAt X (.pointer (some ⟨g,o,none⟩)) f).run P w = .ok (.pointer (some ⟨g,o+off,none⟩)) w:=by
 unfold px at h1;split at h1
 ·rename_i t' ht;cases cV:t'.eD with
  | true=>rw[cV]at h1;cases h1
  | false =>
  rw[cV]at h1;injection h1 with h1;subst h1;obtain⟨⟨fs,hu,hf,hn⟩,_⟩:=(hC X _ ht).str cV;have ax:=hn f _ h2;have DJ:fs[f]?=some fs[f]:=Array.getElem?_eq_getElem ax;obtain⟨t2,h3,h4,h5,_⟩:=hf f _ DJ;rw[h2]at h3;simp only[Option.some.injEq,Prod.mk.injEq]at h3;obtain⟨rfl,rfl⟩:=h3;have hs:=(hC _ _ h4).run_sizeOf (w:=w);simp[Instr.fieldAt,run_underlying hu,ax,Instr.sureAddr,fieldPlace,hs,h5,Addr.add_lit]
 ·cases h1
theorem xl[ae](q:List Nat)(o:Nat)(p:List St)(f off:Nat):node q o (p++[.a7 f off])=((node q o p).1,(node q o p).2+off):=by
 rw[Mk];rfl
theorem abS[ae](hI:Inv w0 L0 N vs T a w L)(hC:bF P C){o:Oper}{t f:Nat}(ho:o.op = .fieldAddr X (.tmp t) f)
  (hid:(T.getD d .dead).idle=true) (h:(M.get t (vB C X f t)).aj T v log) (bf:∀r,v.on r=true->r∈vs):aP P o vs T a w L d v:=by
 obtain⟨aD,rfl,h⟩:=h;have hs:=hI.aX t;generalize hv:T.getD t .dead=u at h hs;have key:∀{g o' off:Nat} {ta t1:Ty},a.tmps.getD t undef = .pointer (some ⟨g,o',none⟩)->px C X=some ta->bC f ta=some (off,t1) ->
   (execOp a.eval o).run P w = .ok (.value (.pointer (some ⟨g,o'+off,none⟩))) w:=by
  intro g o' off ta t1 h1 h2 h3;have eY:a.eval (.tmp t)=_:=h1;simp[execOp,ho,eY,ab5 hC h2 h3]
 cases u with
 | ptr r p t' =>
  simp only[vB]at h;obtain⟨g,h1,h2⟩:=hs;split at h
  ·rename_i ta jU;split at h
   ·rename_i off t1 hc;obtain⟨rfl,_⟩:=h;refine aP.ptr hI (g:=g) ?_ ?_ bf
    ·rw[key h1 jU hc,xl]
    ·rw[xl];exact h2
   ·exact h.elim
  ·exact h.elim
 | box l n t' x =>
  simp only[vB]at h;obtain⟨_,g,cur,e,h1,h2,_⟩:=hs;split at h
  ·rename_i ta jU;split at h
   ·rename_i off t1 hc;obtain⟨rfl,_⟩:=h;refine aP.ptr hI (g:=g) ?_ ?_ bf
    ·rw[key h1 jU hc];rfl
    ·exact h2
   ·exact h.elim
  ·exact h.elim
 | rp l t' x =>
  simp only[vB]at h;cases t'<;>try exact h.elim
  rename_i ta;simp only at h;split at h
  ·rename_i jU;split at h
   ·rename_i off t1 x1 hc;obtain⟨rfl,_⟩:=h;obtain⟨h0,g,o',cs,h1,h2,h3,h4⟩:=hs;simp only[Rd]at h3;have sH:bC f ta=some (off,t1):=WW hc;obtain⟨h5,h6⟩:=vt (n:=0) (q:=[]) (o:=0) (L:=L) (s:=0) hc (Own.dM h3);refine⟨_,w,L,key h1 jU sH,ek.refl hI d,λk q hk h=>(by rw[hI.free k hk]at h;cases h),bf,?_⟩;refine⟨λr hr=>?_,g,o'+off,_,rfl,h2,Own.eH h6,λi v hv=>?_⟩
    ·have:=h0 r hr;rw[aJ,if_neg (λh=>dm hid (V.fg this) h.1)];exact this
    ·rw[List.getElem?_take]at hv;split at hv
     ·rw[List.getElem?_drop]at hv;rw[Nat.add_assoc];exact h4 _ _ hv
     ·cases hv
   ·exact h.elim
  ·exact h.elim
 | dead=>exact h.elim
 | bH _=>exact h.elim
 | d _ _ _ _=>exact h.elim
 | view _ _ _=>exact h.elim
 | hole _ _=>exact h.elim
 | part _ _ _ _ _=>exact h.elim
 | bQ _ _ _ _=>exact h.elim
 | same _ _=>exact h.elim
 where
 WW:{i:Nat}->{t:Ty}->{x:t.den}->{o1:Nat}->{t1:Ty}->{x1:t1.den}->comp i t x=some (o1,⟨t1,x1⟩)->bC i t=some (o1,t1):=by
  intro i t x o1 t1 x1 h;have bm:∃r,bC i t=some r:=by
   clear hC;revert x;induction t generalizing i o1 with
   | pair a b Zd Ls =>
    intro x h;cases i with
    | zero=>exact⟨_,rfl⟩
    | succ i =>
     simp only[comp,Option.map_eq_some_iff]at h;obtain⟨⟨o2,t2,x2⟩,h,he⟩:=h;simp only[Prod.mk.injEq]at he;obtain⟨rfl,he⟩:=he;cases he;obtain⟨r,hr⟩:=Ls h;exact⟨(a.sz+r.1,r.2),by simp[bC,hr]⟩
   | _=>intro x h;cases i<;>simp_all [comp,bC]
  obtain⟨⟨o2,t2⟩,hr⟩:=bm;obtain⟨x2,kR⟩:=J0 (x:=x) hr;rw[h]at kR;simp only[Option.some.injEq,Prod.mk.injEq]at kR;obtain⟨rfl,kR⟩:=kR;cases kR;exact hr
theorem aqF[ae](hI:Inv w0 L0 N vs T a w L){t:Nat}(ho:o.op = .nilCheck (.tmp t))
  (hid:(T.getD d .dead).idle=true) (h:(M.get t (abq t)).aj T v log) (bf:∀r,v.on r=true->r∈vs):aP P o vs T a w L d v:=by
 obtain⟨aD,rfl,h⟩:=h;have hs:=hI.aX t;generalize hv:T.getD t .dead=u at h hs;have key:∀{g o':Nat},a.tmps.getD t undef = .pointer (some ⟨g,o',none⟩)->(execOp a.eval o).run P w = .ok (.value (.pointer (some ⟨g,o',none⟩))) w:=by
  intro g o' h1;have eY:a.eval (.tmp t)=_:=h1;simp[execOp,ho,eY]
 cases u with
 | ptr r p t' =>
  obtain⟨rfl,_⟩:=h;obtain⟨g,h1,h2⟩:=hs;exact aP.ptr hI (g:=g) (key h1) h2 bf
 | rp l t' x =>
  obtain⟨rfl,_⟩:=h;obtain⟨h0,g,o',cs,h1,h2,h3,h4⟩:=hs;refine⟨_,w,L,key h1,ek.refl hI d,λk q hk h=>(by rw[hI.free k hk]at h;cases h),bf,λr hr=>?_,g,o',cs,rfl,h2,h3,h4⟩;have:=h0 r hr;rw[aJ,if_neg (λh=>dm hid (V.fg this) h.1)];exact this
 | box l n t' x =>
  obtain⟨rfl,_⟩:=h;obtain⟨_,g,cur,e,h1,h2,_⟩:=hs;exact aP.ptr hI (g:=g) (p:=[]) (key h1) h2 bf
 | dead=>exact h.elim
 | bH _=>exact h.elim
 | d _ _ _ _=>exact h.elim
 | view _ _ _=>exact h.elim
 | hole _ _=>exact h.elim
 | part _ _ _ _ _=>exact h.elim
 | bQ _ _ _ _=>exact h.elim
 | same _ _=>exact h.elim
theorem ab7[ae](hC:bF P C){te:Ty}{o len cap:Nat}{i:Int}{k:IntKind}(h1:oV C X=some te)(h0:0<=i)(hi:i.toNat<len):
  (Instr.indexAt X (.slice (some ⟨g,o,none⟩) len cap) (.int k i)).run P w = .ok (.pointer (some ⟨g,o+i.toNat*te.sz,none⟩)) w:=by
 unfold oV at h1;split at h1
 ·rename_i e ES ht;injection h1 with h1;subst h1;obtain⟨hu,he⟩:=(hC X _ ht).b7;have hs:=(hC _ _ he).run_sizeOf (w:=w);simp[Instr.indexAt,run_underlying hu,asIntOf,hs,Addr.add_lit];intro hle;exact absurd (hle h0) (by omega)
 ·cases h1
theorem ab6[ae](hC:bF P C){ta t1:Ty}{o j:Nat}{k:IntKind}(h1:pz C X=some ta)(h2:bC (j+1) ta=some (off,t1)):
  (Instr.indexAt X (.pointer (some ⟨g,o,none⟩)) (.int k (j:Int))).run P w = .ok (.pointer (some ⟨g,o+off,none⟩)) w:=by
 unfold pz at h1;split at h1
 ·rename_i t' ht;cases cV:t'.eD with
  | false=>rw[cV]at h1;cases h1
  | true =>
  rw[cV]at h1;injection h1 with h1;subst h1;obtain⟨n,e,te,hu,he,KC,hn,hc,hb⟩:=((hC X _ ht).b7).resolve_left (λh=>by rw[cV]at h;cases h.1) |>.2;have ax:=hb j _ h2;rw[hc j ax]at h2;simp only[Option.some.injEq,Prod.mk.injEq]at h2;obtain⟨rfl,rfl⟩:=h2;have hs:=(hC _ _ he).run_sizeOf (w:=w);simp[Instr.indexAt,run_underlying hu,asIntOf,hs,Addr.add_lit,Instr.sureAddr,ax]
 ·cases h1
theorem JF{i:Int}:∀(m k:Nat),(vm r p t i m k).aj T v log->∃(j:Nat) (off:Nat) (t1:Ty),i=(j:Int)/\bC (j+1) t=some (off,t1)/\v = .ptr r (p++[.a7 (j+1) off]) t1
 | 0,_,h=>h.elim
 | m+1,k,h=>by
  simp only[vm]at h;split at h
  ·rename_i off t1 hc;rcases h with⟨h1,h,_⟩|⟨_,h⟩
   ·exact⟨k,off,t1,of_decide_eq_true h1,hc,h⟩
   ·exact JF m (k+1) h
  ·exact h.elim
theorem aqz[ae](hI:Inv w0 L0 N vs T a w L)(hC:bF P C){Y:TypeId}{t:Nat}{k:IntKind}{i:Int}(ho:o.op = .indexAddr X (.tmp t) y)
  (hy:a.eval y = .int k i) (hid:(T.getD d .dead).idle=true) (h:(M.get t (wU C X t i)).aj T v log) (bf:∀r,v.on r=true->r∈vs):aP P o vs T a w L d v:=by
 obtain⟨aD,rfl,h⟩:=h;have hs:=hI.aX t;generalize hv:T.getD t .dead=u at h hs;have key:∀{g o' len cap:Nat} {te:Ty},a.tmps.getD t undef = .slice (some ⟨g,o',none⟩) len cap->oV C X=some te->0<=i->i.toNat<len ->
   (execOp a.eval o).run P w = .ok (.value (.pointer (some ⟨g,o'+i.toNat*te.sz,none⟩))) w:=by
  intro g o' len cap te h1 h2 h3 h4;have eY:a.eval (.tmp t)=_:=h1;simp[execOp,ho,eY,hy,ab7 hC h2 h3 h4]
 cases u with
 | d l n t' x =>
  simp only[wU]at h;cases t'<;>try exact h.elim
  rename_i e te;simp only at h;split at h
  ·rename_i gj;obtain⟨y0,jh,h⟩:=h;obtain⟨hi,jN,rfl⟩:=lF jh;obtain⟨h0,cs,hf,bA⟩:=hs;split at h
   ·rename_i hn;subst hn;obtain⟨rfl,_⟩:=h;simp only[Own,Rd]at bA;obtain⟨A,c,rfl,h1,h2,h3⟩:=bA;obtain⟨g,o',rfl,hS,mZ⟩:=h3 (by rintro rfl;simp at hi);have hc:a.tmps.getD t undef=_:=((List.cons.inj hf).1).symm;obtain⟨es,mY,lI⟩:=mZ _ hi;refine⟨_,w,L,key hc gj jN hi,ek.refl hI d,λk q hk h=>(by rw[hI.free k hk]at h;cases h),bf,λr hr=>?_,g,_,es,rfl,hS,mY,λi v hv=>?_⟩
    ·have:=h0 r hr;rw[aJ,if_neg (λh=>dm hid (V.fg this) h.1)];exact this
    ·rw[Nat.add_assoc];exact lI i v hv
   ·rename_i hn;obtain⟨rfl,_⟩:=h;obtain⟨m,rfl⟩:∃m,n=m+1:=⟨n - 1,by omega⟩;simp only[Own]at bA;rcases bA with⟨_,rfl⟩|⟨g,cap,cur,rfl,hL,_⟩
    ·simp at hi
    ·have hc:a.tmps.getD t undef=_:=((List.cons.inj hf).1).symm;refine aP.ptr hI (g:=g) ?_ hL bf;rw[key hc gj jN hi];simp[node]
  ·exact h.elim
 | view r p t' =>
  obtain⟨log2,rfl,h⟩:=h;obtain⟨⟨l,n,t2,xs⟩,l1,l2,rfl,h1,h2⟩:=M.aq h;cases t2<;>try exact h2.elim
  rename_i e te;simp only at h2;split at h2
  ·rename_i gj;obtain⟨rfl,gj,hn⟩:=gj;obtain⟨y0,jh,h2⟩:=h2;obtain⟨hi,jN,rfl⟩:=lF jh;obtain⟨rfl,_⟩:=h2;obtain⟨cs,hf,bA,_⟩:=E0 hI hs h1;obtain⟨m,rfl⟩:∃m,n=m+1:=⟨n - 1,by omega⟩;simp only[Own]at bA;rcases bA with⟨_,rfl⟩|⟨g,cap,cur,rfl,hL,_⟩
   ·simp at hi
   ·have hc:a.tmps.getD t undef=_:=((List.cons.inj hf).1).symm;refine aP.ptr hI (g:=g) ?_ ?_ bf
    ·rw[key hc gj jN hi,Mk];simp[node]
    ·rw[Mk];exact hL
  ·exact h2.elim
 | dead=>exact h.elim
 | bH _=>exact h.elim
 | rp _ _ _=>exact h.elim
 | ptr r p t' =>
  simp only[wU]at h;split at h
  ·rename_i ta jU;obtain⟨j,off,t1,rfl,hc,rfl⟩:=JF 8 0 h;obtain⟨g,h1,h2⟩:=hs;refine aP.ptr hI (g:=g) ?_ ?_ bf
   ·have eY:a.eval (.tmp t)=_:=h1;rw[xl];simp[execOp,ho,eY,hy,ab6 hC jU hc]
   ·rw[xl];exact h2
  ·exact h.elim
 | box l n t' x =>
  simp only[wU]at h;split at h
  ·rename_i ta jU;obtain⟨j,off,t1,rfl,hc,rfl⟩:=JF 8 0 h;obtain⟨_,g,cur,e,h1,h2,_⟩:=hs;refine aP.ptr hI (g:=g) ?_ ?_ bf
   ·have eY:a.eval (.tmp t)=_:=h1;rw[List.nil_append,show [St.a7 (j+1) off]=[]++[St.a7 (j+1) off]from rfl,xl];simp[execOp,ho,eY,hy,ab6 hC jU hc,node]
   ·exact h2
  ·exact h.elim
 | hole _ _=>exact h.elim
 | part _ _ _ _ _=>exact h.elim
 | bQ _ _ _ _=>exact h.elim
 | same _ _=>exact h.elim
end
def tF(C:Ctx)(X:TypeId)(t:Nat)(lo:Int)(hi:Option Int)(v:V):M V :=
 match v with
 | .d _ _ .str s=>if C.ty X=some .str then .bn (decide (0<=lo)&&decide (lo<=hi.getD s.size)&&decide (hi.getD s.size<=s.size)) (.ret (.d none 0 .str (s.extract lo.toNat (hi.getD s.size).toNat)))else .fail
 | v=>(mf t v).bind λz=>match z with
  | (l,⟨.slice e te,xs⟩)=>if oV C X=some te then
    .bn (decide (0<=lo)&&decide (lo<=hi.getD (xs.length:Int))&&decide (hi.getD (xs.length:Int)<=(xs.length:Int)))
     (.ret (.d l 0 (.slice e te) ((xs.take (hi.getD (xs.length:Int)).toNat).drop lo.toNat)))
   else .fail
  | _=>.fail
def LX(C:Ctx)(X:TypeId)(n c:Int):M V :=
 match C.ty X with
 | some (.slice e te)=>.bn (decide (0<=n)&&decide (n<=c)&&decide (c*C.bytes e<=140737488355328)&&decide (c<=9223372036854775807)) (.ret (.d none (te.depth+1) (.slice e te) (List.replicate n.toNat te.zero)))
 | _=>.fail
def Jt(C:Ctx)(X:TypeId):M V :=
 match C.ty X with
 | some t=>.ret (.box none t.depth t t.zero)
 | none=>.fail
section
variable{P:Program}{C:Ctx}{w w' w0:World}{S S':Nat->Prop}{L L' L0:Nat->ak}{s N:Nat}{vs:List Nat}{T T':List V}{tm tm':Array Value}{a:Act}
theorem qB[ae](hI:Inv w0 L0 N vs T a w L){t:Nat}{t':Ty}{x:t'.den}{v:V}  
  (h:(mf t v).aj T (l,⟨t',x⟩) log) (hs:aB L T a.tmps t v w c) (hv:v.aO=true->v=T.getD t .dead) :
  ∃cs,Form t' cs c/\Rd w (SL L l) t' x cs/\∀r,l=some r->(T.getD r .dead).deep=true:=by
 cases v with
 | d l0 n0 t0 x0 =>
  simp only[mf]at h;obtain⟨h0,cs,hf,bA⟩:=hs;split at h
  ·rename_i hn;obtain⟨h,_⟩:=h;cases h;exact⟨cs,hf,Own.eH (Own.bB (s':=0) (q':=[]) (o':=0) (n':=0) hn bA (.inl rfl)),h0⟩
  ·rename_i hn;have wz:=not_or.1 hn;split at h
   ·obtain⟨h,_⟩:=h;cases h;refine⟨cs,hf,Own.rd (λk q hk=>.inr ⟨t,q,rfl,hk⟩) (λk hk=>?_) bA,λr hr=>?_⟩
    ·rcases hk with hk|⟨_,_,hk,_⟩
     ·exact .inl hk
     ·cases hk
    ·cases hr;rw[<-hv (by simp[V.aO,wz])];simp[V.deep,wz]
   ·exact h.elim
 | view r p t2 =>
  obtain⟨aD,rfl,h⟩:=h;obtain⟨⟨l0,n0,t0,x0⟩,l1,l2,rfl,h1,h2⟩:=M.aq h;simp only at h2;split at h2
  ·split at h2
   ·rename_i ht;subst ht;obtain⟨h2,_⟩:=h2;cases h2;obtain⟨cs,hf,bA,_,cB⟩:=E0 hI hs h1;refine⟨cs,hf,Own.rd (λk q hk=>.inr ⟨r,q,rfl,hk⟩) (λk hk=>?_) bA,λr' hr=>?_⟩
    ·rcases hk with hk|⟨_,_,hk,_⟩
     ·exact .inl hk
     ·cases hk
    ·cases hr;exact cB
   ·exact h2.elim
  ·exact h2.elim
 | dead=>exact h.elim
 | bH _=>exact h.elim
 | rp _ _ _=>exact h.elim
 | ptr _ _ _=>exact h.elim
 | box _ _ _ _=>exact h.elim
 | hole _ _=>exact h.elim
 | part _ _ _ _ _=>exact h.elim
 | bQ _ _ _ _=>exact h.elim
 | same _ _=>exact h.elim
theorem aqC[ae](hI:Inv w0 L0 N vs T a w L)(hC:bF P C){t:Nat}{tx:Ty}(ho:o.op = .call { callee:=.builtin .len,args:=#[.tmp t],argTypes:=#[X] })
  (hX:C.ty X=some tx) (h:(M.get t (LO tx t)).aj T v log):aP P o vs T a w L d v:=by
 obtain⟨aD,rfl,h⟩:=h;have hs:=hI.aX t;have key:∀c,(Builtin.len_ #[X] o.type #[a.eval (.tmp t)]).run P w = .ok c w->(execOp a.eval o).run P w = .ok (.value c) w:=by
  intro c hc;simp[execOp,ho,resolve,invoke,builtin,hc]
 unfold LO at h;split at h
 ·obtain⟨⟨l,t2,x2⟩,l1,l2,rfl,h1,h2⟩:=M.aq h;cases t2<;>try exact h2.elim
  obtain⟨rfl,_⟩:=h2;obtain⟨cs,hf,hr,_⟩:=qB hI h1 hs (λ_=>rfl);simp only[Rd]at hr;obtain⟨A,c,rfl,_⟩:=hr;have hc:a.eval (.tmp t)=_:=((List.cons.inj hf).1).symm;refine aP.still hI (key _ ?_) (λ_=>rfl) aB.mkInt;rw[hc];have hu:=(hC X _ hX).b7;simp[Builtin.len_,run_underlying hu.1,goInt]
 ·split at h
  ·rename_i l n sx hv;obtain⟨rfl,_⟩:=h;rw[hv]at hs;have hc:a.eval (.tmp t)=_:=hs.str;refine aP.still hI (key _ ?_) (λ_=>rfl) aB.mkInt;rw[hc];have hu:=(hC X _ hX).b7;simp[Builtin.len_,run_underlying hu,goInt]
  ·exact h.elim
 ·exact h.elim
theorem ek.alloc[ae](hI:Inv w0 L0 N vs T a w L)(d:Nat)(q:List Nat)(ob:Obj):ek w (w.alloc ob) L (λk=>if k=w.heap.size then .own d q else L k) d:=by
 refine⟨rfl,rfl,rfl,by simp,Nat.le_refl _,λk hk=>?_,λk s q' hk h=>?_,λk k' q' hk aL h h'=>?_,λk hk=>?_⟩
 ·rw[if_neg (by omega)];exact⟨rfl,Go.RowKit.Below.heap_alloc w ob k hk⟩
 ·split at h
  ·injection h with h _;exact h.symm
  ·rw[hI.free k hk]at h;cases h
 ·split at h
  ·split at h'
   ·omega
   ·rw[hI.free k' aL]at h';cases h'
  ·rw[hI.free k hk]at h;cases h
 ·simp at hk;rw[if_neg (by omega)];exact hI.free k (by omega)
theorem Form.cells{t:Ty}{c:Value}(h:Form t cs c)(h1:∀v∈cs,v.oneCell'=true):c.cells.toList=cs:=by
 have key:cs=[c]->c.cells.toList=cs:=λh=>by
  subst h;have:=h1 c (by simp);cases c<;>simp_all [Value.cells,Value.oneCell']
 cases t<;>first|exact key h|(simp only[Form]at h;subst h;rfl)
theorem oD(w:World)(ob:Obj):(w.alloc ob).heap[w.heap.size]?=some ob:=by
 show (w.heap.push ob)[w.heap.size]?=_;simp
theorem aqt[ae](hI:Inv w0 L0 N vs T a w L)(hC:bF P C){o:Oper}(ho:o.op = .alloc X)
  (h:(Jt C X).aj T v log):aP P o vs T a w L d v:=by
 unfold Jt at h;split at h
 ·rename_i t hX;obtain⟨rfl,_⟩:=h;obtain⟨i,z,h1,h2,h3,h4,h5⟩:=(hC X t hX).info;have dY:∀v∈t.cq,v.oneCell'=true:=Own.one (Own.zero (w:=w) (L:=L) (S:=λ_=>True) (s:=0) (n:=0) (t:=t) (q:=[]) (o:=0));have iX:=Form.cells h5 dY;refine⟨.pointer (some ⟨w.heap.size,0,none⟩),w.alloc (.cells z.cells X),_,?_,ek.alloc hI d [] _,λ_ _ _ _=>rfl,λr hr=>(by simp[V.on,V.root]at hr),?_⟩
  ·simp[execOp,ho,Instr.alloc,zeroValue,Go.run_typeInfo w h1,h4,newVar,newRow,newObj,Sem.run]
  ·refine⟨by simp,w.heap.size,z.cells,X,rfl,by simp,oD _ _,?_,?_⟩
   ·rw[<-Array.length_toList,iX,Ty.jy]
   ·rw[iX];exact Own.zero
 ·exact h.elim
theorem LW(cz:Array Value)(n:Nat):∀j,j<n->(((Array.range (n*cz.size)).map (cz[· % cz.size]!)).toList.drop (j*cz.size)).take cz.size=cz.toList:=by
 intro j hj;apply List.ext_getElem?;intro i;rw[List.getElem?_take,List.getElem?_drop];have hb:j*cz.size+cz.size<=n*cz.size:=by
  calc j*cz.size+cz.size=(j+1)*cz.size:=by rw[Nat.add_mul,Nat.one_mul]
   _<=n*cz.size:=Nat.mul_le_mul_right _ hj
 split
 ·rename_i hi;have h2:(j*cz.size+i) % cz.size=i:=by rw[Nat.add_comm,Nat.add_mul_mod_self_right,Nat.mod_eq_of_lt hi]
  simp only[Array.toList_map,Array.toList_range,List.getElem?_map,List.getElem?_range (show j*cz.size+i<n*cz.size by omega),Option.map_some,h2,Array.getElem?_toList];rw[Array.getElem?_eq_getElem hi];simp[hi]
 ·rename_i hi;rw[List.getElem?_eq_none (by simpa using hi)]
theorem aqE[ae](hI:Inv w0 L0 N vs T a w L)(hC:bF P C){o:Oper}{n c:Int}{k1 k2:IntKind}(ho:o.op = .makeSlice X x y)
  (hx:a.eval x = .int k1 n) (hy:a.eval y = .int k2 c) (h:(LX C X n c).aj T v log):aP P o vs T a w L d v:=by
 unfold LX at h;split at h
 ·rename_i e te hX;obtain⟨hc,rfl,_⟩:=h;simp only[Bool.and_eq_true,decide_eq_true_eq]at hc;obtain⟨⟨⟨ix,hnc⟩,hb⟩,hm⟩:=hc;obtain⟨hu,he⟩:=(hC X _ hX).b7;obtain⟨i,z,h1,h2,h3,h4,h5⟩:=(hC e te he).info;have dY:∀v∈te.cq,v.oneCell'=true:=Own.one (Own.zero (w:=w) (L:=L) (S:=λ_=>True) (s:=0) (n:=0) (t:=te) (q:=[]) (o:=0));have iX:=Form.cells h5 dY;have bq:z.cells.size=te.sz:=by rw[<-Array.length_toList,iX,Ty.jy]
  have wn:IntKind.i64.wrap n=n:=IntWalk.i64_in _ (by omega);have wc:IntKind.i64.wrap c=c:=IntWalk.i64_in _ (by omega);let cur:Array Value:=(Array.range (c.toNat*te.sz)).map (z.cells[· % z.cells.size]!);refine⟨.slice (some ⟨w.heap.size,0,none⟩) n.toNat c.toNat,w.alloc (.cells cur e),_,?_,ek.alloc hI d [0] _,λ_ _ _ _=>(by simp[V.aO,Ty.depth]),λr hr=>(by simp[V.on,V.root]at hr),?_⟩
  ·have sT:¬(c.toNat*i.bytes>roomBytes):=by
    rw[h3];unfold roomBytes;have:((c.toNat*C.bytes e:Nat):Int)<=140737488355328:=by
     rw[Int.natCast_mul,Int.toNat_of_nonneg (by omega)];exact hb
    omega
   have avr:¬(c<0\/(i.bytes:Int)*c>2 ^ 48):=by
    rw[h3,Int.mul_comm];omega
   have Yi:¬((decide (c<0)||decide ((i.bytes:Int)*c>2 ^ 48))=true\/n<0\/n>c):=by
    simp only[Bool.or_eq_true,decide_eq_true_eq];omega
   by_cases hz:c.toNat*te.sz=0
   ·have oA:cur=#[]:=by
     show (Array.range (c.toNat*te.sz)).map (z.cells[· % z.cells.size]!)=#[];rw[hz];simp
    rw[oA];simp only[execOp,ho,Instr.makeSlice,hx,hy,asInt,asIntOf,Sem.run_bind,run_underlying hu,Result.andThen_ok,Sem.run_pure,Go.run_typeInfo w h1,wn,wc,Sem.run_ite];rw[if_neg (by simp only[Bool.or_eq_true,decide_eq_true_eq]at Yi ⊢;omega)];simp[askRoom,sT,(hC e te he).run_sizeOf,hz,newRow,newObj,Sem.run,Array.range_zero']
   ·simp only[execOp,ho,Instr.makeSlice,hx,hy,asInt,asIntOf,Sem.run_bind,run_underlying hu,Result.andThen_ok,Sem.run_pure,Go.run_typeInfo w h1,wn,wc,Sem.run_ite];rw[if_neg (by simp only[Bool.or_eq_true,decide_eq_true_eq]at Yi ⊢;omega)];simp[askRoom,sT,(hC e te he).run_sizeOf,hz,newRow,newObj,Sem.run,zeroValue,Go.run_typeInfo w h1,h4,cur]
  ·refine⟨by simp,_,rfl,?_⟩;simp only[Own];refine .inr ⟨w.heap.size,c.toNat,cur,by simp,by simp,oD _ _,by simp;omega,by unfold maxLen;omega,by simp[cur],λj hj=>?_⟩;simp only[List.length_replicate]at hj;have pS:((cur.toList.drop (j*te.sz)).take te.sz)=te.cq:=by
    have:=LW z.cells c.toNat j (by omega);rw[bq]at this;rw[<-iX];show (((Array.range (c.toNat*te.sz)).map (z.cells[· % z.cells.size]!)).toList.drop (j*te.sz)).take te.sz=_;rw[bq];exact this
   rw[pS,List.getElem_replicate];exact Own.zero
 ·exact h.elim
end
def Ty.kG:Ty->Nat
 | .pair a b=>max a.kG b.kG
 | .agg t=>t.kG+1
 | .slice _ t=>t.kG+1
 | _=>0
def dC:(t:Ty)->t.den->t.den->Option Bool
 | .int _,x,y=>some (x==y)
 | .bool,x,y=>some (x==y)
 | .str,x,y=>some (x.toList==y.toList)
 | .agg t,x,y=>dC t x y
 | .pair a b,x,y=>match dC a x.1 y.1,dC b x.2 y.2 with
  | some p,some q=>some (p&&q)
  | _,_=>none
 | _,_,_=>none
section
variable{P:Program}{C:Ctx}{w w' w0:World}{S S':Nat->Prop}{L L' L0:Nat->ak}{s N:Nat}{vs:List Nat}{T T':List V}{tm tm':Array Value}{a:Act}
def FT(C:Ctx):Nat->Ty->List Field->Prop
 | off, .pair a b, fl => ∃ f ou, fl = f :: ou /\ f.offset = off /\ C.ty f.type = some a /\ f.name ≠ "_" /\ FT C (off + a.sz) b ou
 | off, t, fl => ∃ f, fl = [f] /\ f.offset = off /\ C.ty f.type = some t /\ f.name ≠ "_"
theorem FT.of:{t : Ty} -> {off : Nat} -> {fl : List Field} -> (∀ (j : Nat) (f : Field), fl[j]? = some f -> ∃ o1 t1, bC j t = some (o1, t1) /\ f.offset = off + o1 /\ C.ty f.type = some t1 /\ f.name ≠ "_") ->
  (∀j r,bC j t=some r->j<fl.length)->FT C off t fl
 | .pair a b,off,fl,h1,h2=>by
  have:=h2 0 _ rfl
  match fl,this with
  | f::ou,_ =>
   obtain⟨o1,t1,h3,h4,h5,h6⟩:=h1 0 f rfl;simp only[bC,Option.some.injEq,Prod.mk.injEq]at h3;obtain⟨rfl,rfl⟩:=h3;refine⟨f,ou,rfl,by simpa using h4,h5,h6,FT.of (λj g hg=>?_) (λj r hr=>?_)⟩
   ·obtain⟨o1,t1,h3,h4,h5⟩:=h1 (j+1) g hg;simp only[bC,Option.map_eq_some_iff]at h3;obtain⟨⟨o2,t2⟩,h3,he⟩:=h3;simp only[Prod.mk.injEq]at he;obtain⟨rfl,rfl⟩:=he;exact⟨o2,t2,h3,by omega,h5⟩
   ·have:=h2 (j+1) (a.sz+r.1,r.2) (by simp[bC,hr]);simp at this;omega
 | .int _,off,fl,h1,h2 | .bool,off,fl,h1,h2 | .str,off,fl,h1,h2 | .raw _,off,fl,h1,h2 | .cap _ _,off,fl,h1,h2 | .unit,off,fl,h1,h2 | .agg _,off,fl,h1,h2 | .slice _ _,off,fl,h1,h2=>by
  have:=h2 0 _ rfl
  match fl,this with
  | f::ou,_ =>
   obtain⟨o1,t1,h3,h4,h5,h6⟩:=h1 0 f rfl;simp only[bC,Option.some.injEq,Prod.mk.injEq]at h3;obtain⟨rfl,rfl⟩:=h3
   match ou with
   | []=>exact⟨f,rfl,by simpa using h4,h5,h6⟩
   | g::_ =>
    obtain⟨_,_,h3,_⟩:=h1 1 g rfl;simp[bC]at h3
theorem xC[ae](hC:bF P C){t:Ty}{x:t.den}{xs:Array Value}{off:Nat}(hX:C.ty X=some t)(hb:off+t.sz<=xs.size)
  (h:Rd w S t x ((xs.toList.drop off).take t.sz)):∃c,(part X xs off).run P w = .ok c w/\Form t ((xs.toList.drop off).take t.sz) c:=by
 have p8:=hC X t hX;cases ha:t.isAgg with
 | true =>
  refine⟨.agg (xs.extract off (off+t.sz)),?_,?_⟩
  ·unfold part;simp[p8.EL,ha,p8.run_sizeOf]
  ·cases t<;>simp[Ty.isAgg]at ha;simp only[Form,Ty.sz];congr 1;apply Array.ext';simp[List.take_drop]
 | false =>
  have bq:=p8.nR ha;obtain⟨c,hc,hf⟩:=Form.abz bq ha (Rd.len h);refine⟨c,?_,by rw[hc]at hf ⊢;exact hf⟩;unfold part;have:xs[off]?=some c:=by
   have h0:((xs.toList.drop off).take t.sz)[0]?=some c:=by rw[hc];rfl
   rw[List.getElem?_take,if_pos (by omega),List.getElem?_drop]at h0;simpa using h0
  simp[p8.EL,ha,this]
theorem Form.agg{t:Ty}{c:Value}(h:Form (.agg t) cs c):c = .agg cs.toArray:=h
theorem alw[ae](hC:bF P C):(t:Ty) ->
  (∀(X:TypeId) (d:Nat) (x y:t.den) (iR cM:List Value) (c1 c2:Value) (b:Bool) (S:Nat->Prop) (S2:Nat->Prop),C.ty X=some t->t.kG<d->Form t iR c1->Form t cM c2->Rd w S t x iR->Rd w S2 t y cM->dC t x y=some b ->
   (Op.equalIn d X c1 c2).run P w = .ok b w) /\
  (∀(off:Nat) (fl:List Field) (d:Nat) (x y:t.den) (xs ys:Array Value) (b:Bool) (S:Nat->Prop) (S2:Nat->Prop),FT C off t fl->t.kG<d->off+t.sz<=xs.size->off+t.sz<=ys.size ->
   Rd w S t x ((xs.toList.drop off).take t.sz)->Rd w S2 t y ((ys.toList.drop off).take t.sz)->dC t x y=some b->(Op.eqFields d xs ys fl).run P w = .ok b w):=by
 have oI:∀t:Ty,(∀a b,t ≠ .pair a b)->(∀(X:TypeId) (d:Nat) (x y:t.den) (iR cM:List Value) (c1 c2:Value) (b:Bool) (S:Nat->Prop) (S2:Nat->Prop),C.ty X=some t->t.kG<d->Form t iR c1->Form t cM c2->Rd w S t x iR->Rd w S2 t y cM->dC t x y=some b ->
   (Op.equalIn d X c1 c2).run P w = .ok b w) ->
  (∀(off:Nat) (fl:List Field) (d:Nat) (x y:t.den) (xs ys:Array Value) (b:Bool) (S:Nat->Prop) (S2:Nat->Prop),FT C off t fl->t.kG<d->off+t.sz<=xs.size->off+t.sz<=ys.size ->
   Rd w S t x ((xs.toList.drop off).take t.sz)->Rd w S2 t y ((ys.toList.drop off).take t.sz)->dC t x y=some b->(Op.eqFields d xs ys fl).run P w = .ok b w):=by
  intro t ht ih off fl d x y xs ys b S S2 hf hd pR KD h1 h2 he;have vV : ∃ f, fl = [f] /\ f.offset = off /\ C.ty f.type = some t /\ f.name ≠ "_" := by
   cases t<;>first|exact hf|exact absurd rfl (ht _ _)
  obtain⟨f,rfl,rfl,hX,gf⟩:=vV;obtain⟨c1,p1,f1⟩:=xC (w:=w) hC hX pR h1;obtain⟨c2,p2,f2⟩:=xC (w:=w) hC hX KD h2;have:=ih f.type d x y _ _ c1 c2 b S S2 hX hd f1 f2 h1 h2 he;simp only[Op.eqFields,if_pos gf,Sem.run_bind,p1,p2,Result.andThen_ok,this,Sem.run_ite,Sem.run_pure];cases b<;>simp
 intro t;induction t with
 | int k =>
  refine (λh=>⟨h,oI _ (by simp) h⟩) ?_;intro X d x y iR cM c1 c2 b S S2 hX hd f1 f2 h1 h2 he;obtain⟨d,rfl⟩:∃m,d=m+1:=⟨d - 1,by omega⟩;simp only[Rd]at h1 h2;subst h1 h2;obtain rfl:=(List.cons.inj f1).1;obtain rfl:=(List.cons.inj f2).1;simp only[dC,Option.some.injEq]at he;subst he;exact run_equalIn_int w d X k k _ _ (hC X _ hX).b7
 | bool =>
  refine (λh=>⟨h,oI _ (by simp) h⟩) ?_;intro X d x y iR cM c1 c2 b S S2 hX hd f1 f2 h1 h2 he;obtain⟨d,rfl⟩:∃m,d=m+1:=⟨d - 1,by omega⟩;simp only[Rd]at h1 h2;subst h1 h2;obtain rfl:=(List.cons.inj f1).1;obtain rfl:=(List.cons.inj f2).1;simp only[dC,Option.some.injEq]at he;subst he;exact run_equalIn_bool' w d X _ _ (hC X _ hX).b7
 | str =>
  refine (λh=>⟨h,oI _ (by simp) h⟩) ?_;intro X d x y iR cM c1 c2 b S S2 hX hd f1 f2 h1 h2 he;obtain⟨d,rfl⟩:∃m,d=m+1:=⟨d - 1,by omega⟩;simp only[Rd]at h1 h2;subst h1 h2;obtain rfl:=(List.cons.inj f1).1;obtain rfl:=(List.cons.inj f2).1;simp only[dC,Option.some.injEq]at he;subst he;exact run_equalIn_string w d X _ _ (hC X _ hX).b7
 | raw z=>exact (λh=>⟨h,oI _ (by simp) h⟩) (by intro _ _ _ _ _ _ _ _ _ _ _ _ _ _ _ _ _ he;simp[dC]at he)
 | cap k0 t0=>exact (λh=>⟨h,oI _ (by simp) h⟩) (by intro _ _ _ _ _ _ _ _ _ _ _ _ _ _ _ _ _ he;simp[dC]at he)
 | unit=>exact (λh=>⟨h,oI _ (by simp) h⟩) (by intro _ _ _ _ _ _ _ _ _ _ _ _ _ _ _ _ _ he;simp[dC]at he)
 | slice e t=>exact (λh=>⟨h,oI _ (by simp) h⟩) (by intro _ _ _ _ _ _ _ _ _ _ _ _ _ _ _ _ _ he;simp[dC]at he)
 | agg t ih =>
  refine (λh=>⟨h,oI _ (by simp) h⟩) ?_;intro X d x y iR cM c1 c2 b S S2 hX hd f1 f2 h1 h2 he;obtain⟨d,rfl⟩:∃m,d=m+1:=⟨d - 1,by omega⟩;obtain rfl:=f1.agg;obtain rfl:=f2.agg;have cV:t.eD=false:=by
   cases cV:t.eD with
   | false=>rfl
   | true =>
    unfold Ty.eD at cV;split at cV
    ·simp[dC]at he
    ·cases cV
  obtain⟨⟨fs,hu,ng⟩,ba,_⟩:=(hC X _ hX).str cV;have DJ:P.fieldsOf X=fs:=by simp[Program.fieldsOf,hu]
  rw[run_equalIn_struct w d X _ _ (by rw[DJ];exact hu) ba,DJ];simp only[Ty.kG]at hd;simp only[Rd]at h1 h2;refine ih.2 0 fs.toList d x y _ _ b S S2 ?_ (by omega) (by simp[Rd.len h1]) (by simp[Rd.len h2]) ?_ ?_ he
  ·refine FT.of (λj f hj=>?_) (λj r hr=>by simpa using ng.2 j r hr);obtain⟨t1,h3,h4,_,h5⟩:=ng.1 j f (by simpa using hj);exact⟨f.offset,t1,h3,by omega,h4,h5⟩
  ·simpa[List.take_of_length_le (Nat.le_of_eq (Rd.len h1))]using h1
  ·simpa[List.take_of_length_le (Nat.le_of_eq (Rd.len h2))]using h2
 | pair a b Zd Ls =>
  refine⟨λX d x y iR cM c1 c2 b S S2 hX=>((hC X _ hX).b7).elim,?_⟩;intro off fl d x y xs ys r S S2 hf hd pR KD h1 h2 he;simp only[FT]at hf;obtain⟨f,ou,rfl,rfl,hX,gf,hf⟩:=hf;simp only[Ty.kG]at hd;simp only[Ty.sz]at pR KD h1 h2;simp only[Rd]at h1 h2;obtain⟨c0,c1,e1,lG,sy⟩:=h1;obtain⟨d0,d1,e2,Dv,Kw⟩:=h2;have ack:∀{zs:Array Value} {u0 u1:List Value},(zs.toList.drop f.offset).take (a.sz+b.sz)=u0++u1->u0.length=a.sz->u1.length=b.sz ->
    (zs.toList.drop f.offset).take a.sz=u0/\(zs.toList.drop (f.offset+a.sz)).take b.sz=u1:=by
   intro zs u0 u1 he jQ KQ;constructor
   ·have:=congrArg (List.take a.sz) he;rw[List.take_take,Nat.min_eq_left (by omega),List.take_left' jQ]at this;exact this
   ·have:=congrArg (List.drop a.sz) he;rw[List.drop_take,List.drop_drop,List.drop_left' jQ]at this;rw[<-this];congr 1;omega
  obtain⟨s1,s2⟩:=ack e1 (Rd.len lG) (Rd.len sy);obtain⟨t1,t2⟩:=ack e2 (Rd.len Dv) (Rd.len Kw);rw[<-s1]at lG;rw[<-s2]at sy;rw[<-t1]at Dv;rw[<-t2]at Kw;obtain⟨p1,q1,f1⟩:=xC (w:=w) hC hX (by omega) lG;obtain⟨p2,q2,f2⟩:=xC (w:=w) hC hX (by omega) Dv;simp only[dC]at he;split at he
  ·rename_i u v hu hv;simp only[Option.some.injEq]at he;subst he;have k1:=Zd.1 f.type d x.1 y.1 _ _ p1 p2 u S S2 hX (by omega) f1 f2 lG Dv hu;have k2:=Ls.2 (f.offset+a.sz) ou d x.2 y.2 xs ys v S S2 hf (by omega) (by omega) (by omega) sy Kw hv;simp only[Op.eqFields,if_pos gf,Sem.run_bind,q1,q2,Result.andThen_ok,k1,Sem.run_ite,Sem.run_pure,k2];cases u<;>simp
  ·cases he
end
def WB(op:BinOp)(b:Bool):M V :=
 match op with
 | .eql=>.ret (.d none 0 .bool b)
 | .neq=>.ret (.d none 0 .bool (!b))
 | _=>.fail
def JK(C:Ctx)(op:BinOp)(X:TypeId):V->V->M V
 | .d l n (.int k) x,.d l' n' (.int k') y=>if Zg op=true then MQ op k x y else if k=k' then Lt op k x y else .fail
 | .d l n .str x,.d l' n' .str y=>M6 op x y
 | .d none n t x,.d none n' t' y=>if h:t'=t then if C.ty X=some t/\t.kG<10000/\t.depth=0 then match dC t x (h▸y)with
   | some b=>WB op b
   | none=>.fail
  else .fail else .fail
 | _,_=>.fail
def jn(C:Ctx):Option Operand->M (Option Int)
 | none=>.ret none
 | some x=>(cI C 0 x).bind λv=>match v with
  | .d _ _ (.int _) i=>.ret (some i)
  | _=>.fail
def J3(C:Ctx)(src dst:TypeId)(v:V):M V :=
 match C.ty src,C.ty dst,v with
 | some (.int _),some (.int k),.d _ _ (.int _) n=>.ret (.d none 0 (.int k) (k.wrap n))
 | some .str,some .str,.d _ _ .str s=>.ret (.d none 0 .str s)
 | _,_,_=>.fail
def fy(vs:List Nat):V->Bool
 | .d (some r) _ _ _=>vs.contains r
 | .box (some r) _ _ _=>vs.contains r
 | .rp (some r) _ _=>vs.contains r
 | .ptr r _ _=>vs.contains r
 | .view r _ _=>vs.contains r
 | .hole _ _=>false
 | .part _ _ _ _ _=>false
 | .same r _=>vs.contains r
 | _=>true
def strOf(xs:List Int):ByteArray:=xs.foldl (λr n=>r.push (UInt8.ofNat n.toNat)) ByteArray.empty
def MA(C:Ctx)(o:Oper):M V :=
 match o.op with
 | .move x=>qs C o.type x
 | .pick c x y=>(cI C o.type c).bind λv=>match v with
  | .d _ _ .bool b=>match b with
   | true=>qs C o.type x
   | false=>qs C o.type y
  | _=>.fail
 | .alloc X=>Jt C X
 | .load X (.tmp t)=>.get t (LQ C X t)
 | .nilCheck (.tmp t)=>.get t (abq t)
 | .fieldAddr X (.tmp t) f=>.get t (vB C X f t)
 | .indexAddr X (.tmp t) y=>(cI C 0 y).bind λv=>match v with
  | .d _ _ (.int _) i=>.get t (wU C X t i)
  | _=>.fail
 | .index X x y=>(cI C X x).bind λu=>(cI C 0 y).bind λv=>match u,v with
  | .d _ _ .str s,.d _ _ (.int _) i=>if C.ty X=some .str then .cL (.int .u8) (mW s i) λb=>.ret (.d none 0 (.int .u8) b)else .fail
  | .d _ _ (.agg (.pair .unit t)) z,.d _ _ (.int _) i=>if pz C X=some (.pair .unit t)/\(sj t).depth=0 then .cL (sj t) (ab (mS (sj t) t z.2) i) λy=>.ret (.d none 0 (sj t) y)else .fail
  | _,_=>.fail
 | .binOp op X x y _=>(cI C X x).bind λu=>(cI C X y).bind λv=>JK C op X u v
 | .unOp op X x=>(cI C X x).bind λu=>Nd op u
 | .convert src dst x=>match C.ty src,C.ty dst,x with
  | some (.slice _ (.int .u8)),some .str,.tmp t=>.get t λv=>(mf t v).bind λz=>match z.2 with
   | ⟨.slice _ (.int .u8),xs⟩=>.ret (.d none 0 .str (strOf xs))
   | _=>.fail
  | _,_,x=>(cI C src x).bind λu=>J3 C src dst u
 | .makeSlice X x y=>(cI C 0 x).bind λu=>(cI C 0 y).bind λv=>match u,v with
  | .d _ _ (.int _) n,.d _ _ (.int _) c=>LX C X n c
  | _,_=>.fail
 | .slice X (.tmp t) lo hi none=>(jn C lo).bind λl=>(jn C hi).bind λh=>.get t λv=>tF C X t (l.getD 0) h v
 | .slice X (.const (.string sx)) lo hi none=>(jn C lo).bind λl=>(jn C hi).bind λh=>tF C X 0 (l.getD 0) h (.d none 0 .str sx)
 | .call c=>match c.callee,c.args.toList,c.argTypes.toList with
  | .builtin .len,[.tmp t],[X]=>match C.ty X with
   | some tx=>.get t (LO tx t)
   | none=>.fail
  | _,_,_=>.fail
 | _=>.fail
section
variable{P:Program}{C:Ctx}{w w' w0:World}{S S':Nat->Prop}{L L' L0:Nat->ak}{s N:Nat}{vs:List Nat}{T T':List V}{tm tm':Array Value}{a:Act}
theorem qx{v:V}(h:fy vs v=true):∀r,v.on r=true->r∈vs:=by
 intro r hr;cases v with
 | d l n t x=>cases l<;>simp_all [V.on,V.root,fy]
 | box l n t x=>cases l<;>simp_all [V.on,V.root,fy]
 | rp l t x=>cases l<;>simp_all [V.on,V.root,fy]
 | ptr r p t=>simp_all [V.on,V.root,fy]
 | view r p t=>simp_all [V.on,V.root,fy]
 | hole v p=>simp[fy]at h
 | part _ _ _ _ _=>simp[fy]at h
 | same r t=>simp_all [V.on,V.root,fy]
 | bQ _ _ _ _=>simp[V.on,V.root]at hr
 | dead=>simp[V.on,V.root]at hr
 | bH _=>simp[V.on,V.root]at hr
theorem M.aq1{α:Type}{T:List V}{t:Nat}{k:V->M α}{b:α}(h:(M.get t k).aj T b log):∃aD,(k (T.getD t .dead)).aj T b aD:=by
 obtain⟨l,rfl,h⟩:=h;exact⟨l,h⟩
theorem abG[ae](hI:Inv w0 L0 N vs T a w L){y:t.den}(hd:t.depth=0)(h:(cI C X x).aj T (.d none n t y) log):
  ∃cs,Form t cs (a.eval x)/\Rd w (SL L none) t y cs:=by
 have key:∀{s:Nat},aB L T a.tmps s (.d none n t y) w (a.eval x)->∃cs,Form t cs (a.eval x)/\Rd w (SL L none) t y cs:=by
  rintro s ⟨_,cs,hf,ho⟩
  exact⟨cs,hf,Own.eH (Own.bB (s':=0) (q':=[]) (o':=0) (n':=0) (.inr hd) ho (.inl rfl))⟩
 rcases ke hI h with⟨t,_,_,h⟩|⟨_,h⟩
 ·exact key h
 ·exact key (h L T a.tmps 0 w)
theorem aqu[ae](hI:Inv w0 L0 N vs T a w L)(hC:bF P C){Y:TypeId}{op:BinOp}{u r:V}{eP log2:List Nat}(ho:o.op = .binOp op X x y Y)
  (hx:(cI C X x).aj T u eP) (hy:(cI C X y).aj T v log2) (h:(JK C op X u v).aj T r log):aP P o vs T a w L d r:=by
 unfold JK at h;split at h
 ·split at h
  ·exact aqH hI ho (gG hI hx) (gG hI hy) h
  ·split at h
   ·rename_i hk;subst hk;exact aqB hI ho (gG hI hx) (gG hI hy) h
   ·exact h.elim
 ·exact aqL hI ho (Ey hI hx) (Ey hI hy) h
 ·rename_i n t x' n' t' y' _ _;split at h
  ·rename_i ht;subst ht;split at h
   ·rename_i hc;obtain⟨hX,hh,hd⟩:=hc;split at h
    ·rename_i b he;obtain⟨iR,f1,r1⟩:=abG hI hd hx;obtain⟨cM,f2,r2⟩:=abG hI hd hy;have aT:=(alw (w:=w) hC t').1 X Op.maxDepth x' y' iR cM _ _ b _ _ hX hh f1 f2 r1 r2 he;have hg:(eqGuard op X x y (a.eval x) (a.eval y)).run P w = .ok () w:=by
      cases t' with
      | int k =>
       simp only[Rd]at r1;subst r1;obtain wQ:=(List.cons.inj f1).1;rw[<-wQ,eqGuard_at_int];rfl
      | bool =>
       simp only[Rd]at r1;subst r1;obtain wQ:=(List.cons.inj f1).1;rw[<-wQ,eqGuard_at_bool];rfl
      | str =>
       simp only[Rd]at r1;subst r1;obtain wQ:=(List.cons.inj f1).1;rw[<-wQ,eqGuard_at_string];rfl
      | raw z=>simp[dC]at he
      | cap k0 t0=>simp[dC]at he
      | unit=>simp[dC]at he
      | slice e t=>simp[dC]at he
      | pair a b=>exact ((hC X _ hX).b7).elim
      | agg t =>
       rw[f1.agg,f2.agg];have cV:t.eD=false:=by
        cases cV:t.eD with
        | false=>rfl
        | true =>
         unfold Ty.eD at cV;split at cV
         ·simp[dC]at he
         ·cases cV
       have hq:=((hC X _ hX).str cV).2.2;cases op<;>simp[eqGuard,hq]
     have KW:op = .eql\/op = .neq:=by cases op<;>simp_all [WB,M.aj]
     have Ya:∀c,((binOp op X (a.eval x) (a.eval y)).run P w = .ok c w)->(execOp a.eval o).run P w = .ok (.value c) w:=by
      intro c hc;simp[execOp,ho,hg,hc]
     have ee:∀(z1 z2:Value),Form t' iR z1->Form t' cM z2->(Op.equalIn Op.maxDepth X z1 z2).run P w = .ok b w ->
       ((binOp .eql X z1 z2).run P w = .ok (.bool b) w/\(binOp .neq X z1 z2).run P w = .ok (.bool !b) w):=by
      intro z1 z2 g1 g2 hr;cases t' with
      | int k =>
       simp only[Rd]at r1 r2;subst r1 r2;obtain rfl:=(List.cons.inj g1).1;obtain rfl:=(List.cons.inj g2).1;simp only[dC,Option.some.injEq]at he;subst he;constructor<;>simp[binOp,Op.intCmp];rfl
      | bool =>
       simp only[Rd]at r1 r2;subst r1 r2;obtain rfl:=(List.cons.inj g1).1;obtain rfl:=(List.cons.inj g2).1;constructor<;>simp[binOp,Op.equal,hr]
      | str =>
       simp only[Rd]at r1 r2;subst r1 r2;obtain rfl:=(List.cons.inj g1).1;obtain rfl:=(List.cons.inj g2).1;simp only[dC,Option.some.injEq]at he;subst he;constructor<;>simp[binOp,Op.stringOp]
      | raw z=>simp[dC]at he
      | cap k0 t0=>simp[dC]at he
      | unit=>simp[dC]at he
      | slice e t=>simp[dC]at he
      | pair a b=>exact ((hC X _ hX).b7).elim
      | agg t =>
       obtain rfl:=g1.agg;obtain rfl:=g2.agg;constructor<;>simp[binOp,Op.equal,hr]
     obtain⟨e1,e2⟩:=ee _ _ f1 f2 aT;rcases KW with rfl|rfl
     ·obtain⟨rfl,_⟩:=h;exact aP.still hI (Ya _ e1) (λ_=>rfl) aB.gF
     ·obtain⟨rfl,_⟩:=h;exact aP.still hI (Ya _ e2) (λ_=>rfl) aB.gF
    ·exact h.elim
   ·exact h.elim
  ·exact h.elim
 ·exact h.elim
end
section
variable{P:Program}{C:Ctx}{w w' w0:World}{S S':Nat->Prop}{L L' L0:Nat->ak}{s N:Nat}{vs:List Nat}{T T':List V}{tm tm':Array Value}{a:Act}
theorem abj[ae](hI:Inv w0 L0 N vs T a w L){o:Oper}{d:Nat}(aT:(execOp a.eval o).run P w = .ok (.value (a.eval x)) w)(hid:(T.getD d .dead).idle=true)
  (h:(qs C o.type x).aj T v log) (bf:∀r,v.on r=true->r∈vs):aP P o vs T a w L d v:=by
 obtain⟨c,w',L',h1,h2,h3,h4,h5⟩:=abU (P:=P) (o:={ o with op:=.move x }) (d:=d) hI rfl hid h bf;have:(execOp a.eval { o with op:=.move x }).run P w = .ok (.value (a.eval x)) w:=by simp[execOp]
 rw[this]at h1;injection h1 with h1 eY;injection h1 with h1;subst h1 eY;exact⟨_,_,L',aT,h2,h3,h4,h5⟩
theorem abV[ae](hI:Inv w0 L0 N vs T a w L){c:Operand}{b:Bool}(ho:o.op = .pick c x y)
  (hc:a.eval c = .bool b) (hid:(T.getD d .dead).idle=true) (h:(qs C o.type (if b=true then x else y)).aj T v log) (bf:∀r,v.on r=true->r∈vs):aP P o vs T a w L d v :=
 abj hI (by cases b<;>simp[execOp,ho,hc,asBool]) hid h bf
theorem aqw[ae](hI:Inv w0 L0 N vs T a w L)(hC:bF P C){src dst:TypeId}{u:V}{log2:List Nat}(ho:o.op = .convert src dst x)
  (hx:(cI C src x).aj T u log) (h:(J3 C src dst u).aj T v log2):aP P o vs T a w L d v:=by
 unfold J3 at h;split at h
 ·rename_i k0 k l n k' m hs hd;obtain⟨rfl,_⟩:=h;have h1:=(hC _ _ hs).b7;have h2:=(hC _ _ hd).b7;refine aP.still hI ?_ (λ_=>rfl) aB.mkInt;simp[execOp,ho,gG hI hx,convert,run_underlying h1,run_underlying h2,Conv.intToInt]
 ·rename_i l n m hs hd;obtain⟨rfl,_⟩:=h;have h1:=(hC _ _ hs).b7;have h2:=(hC _ _ hd).b7;refine aP.still hI ?_ (λ_=>rfl) aB.mkStr;simp[execOp,ho,Ey hI hx,convert,run_underlying h1,run_underlying h2]
 ·exact h.elim
theorem aqv[ae](hI:Inv w0 L0 N vs T a w L)(hC:bF P C){src dst e:TypeId}{t:Nat}(ho:o.op = .convert src dst (.tmp t))
  (hs:C.ty src=some (.slice e (.int .u8))) (hd:C.ty dst=some .str)
  (h:(M.get t λv=>(mf t v).bind λz=>match z.2 with
   | ⟨.slice _ (.int .u8),xs⟩=>M.ret (.d none 0 .str (strOf xs))
   | _=>.fail).aj T v log):aP P o vs T a w L d v:=by
 obtain⟨aD,rfl,h⟩:=h;have ba:=hI.aX t;obtain⟨⟨l,t2,x2⟩,l1,l2,rfl,h1,h2⟩:=M.aq h;dsimp only at h2;split at h2
 ·rename_i e2 xs heq;obtain⟨rfl,_⟩:=h2;cases heq;obtain⟨cs,hf,hr,_⟩:=qB hI h1 ba (λ_=>rfl);simp only[Rd]at hr;obtain⟨A,c,rfl,sG,hA,mZ⟩:=hr;have hc:a.eval (.tmp t)=_:=((List.cons.inj hf).1).symm;obtain⟨hu,he⟩:=(hC _ _ hs).b7;have hue:=(hC _ _ he).b7;have nz:=(hC _ _ hd).b7;refine aP.still hI (c:=.string (strOf xs)) ?_ (λ_=>rfl) aB.mkStr;have key:(Conv.bytesToString (.slice A xs.length c)).run P w = .ok (.string (strOf xs)) w:=by
   cases A with
   | none =>
    obtain⟨rfl,_⟩:=hA rfl;simp[Conv.bytesToString,Sem.run_pure,strOf]
   | some ad =>
    refine run_bytesToString w ad xs.length c xs ?_;have amS:∀(j:Nat) (v:Value),(xs.map (Value.int .u8))[j]?=some v->w.cell? (ad.add j)=some v:=by
     intro j v hv;rw[List.getElem?_map,Option.map_eq_some_iff]at hv;obtain⟨n,hn,rfl⟩:=hv;obtain⟨hj,hn⟩:=List.getElem?_eq_some_iff.1 hn;obtain⟨g,o,had,_,amn⟩:=mZ (by rintro rfl;simp at hj);cases had;obtain⟨es,mY,lI⟩:=amn j hj;subst mY;have:=lI 0 _ rfl;rw[Addr.add_lit];simpa[Ty.sz,hn]using this
    have:=run_loadCells_list (P:=P) w ad (xs.map (Value.int .u8)) amS;simpa using this
  simp only[execOp,ho,hc,run_convert_bytes_string w src dst e A xs.length c hu hue nz,Sem.run_bind,key,Result.andThen_ok,Sem.run_pure]
 ·exact h2.elim
theorem aqy[ae](hI:Inv w0 L0 N vs T a w L)(hC:bF P C){sx:ByteArray}{k:IntKind}{i b:Int}(ho:o.op = .index X x y)
  (hX:C.ty X=some .str) (hx:a.eval x = .string sx) (hy:a.eval y = .int k i) (h:mW sx i=some b):aP P o vs T a w L d (.d none 0 (.int .u8) b):=by
 unfold mW at h;split at h
 ·rename_i h0;simp only[Option.map_eq_some_iff]at h;obtain⟨b0,hb,rfl⟩:=h;refine aP.still hI (c:=.int .u8 b0.toNat) ?_ (λ_=>rfl) aB.mkInt;have hu:=(hC X _ hX).b7;simp[execOp,ho,Instr.index,hx,hy,asIntOf,run_underlying hu,h0,hb]
 ·cases h
theorem aqA[ae](hI:Inv w0 L0 N vs T a w L)(hC:bF P C){j off:Nat}{k:IntKind}{t1:Ty}{z:t.den}{x1:t1.den}(ho:o.op = .index X x y)
  (hX:pz C X=some t) (hx:(cI C X x).aj T (.d l n (.agg t) z) log) (hy:a.eval y = .int k (j:Int)) (hc:comp (j+1) t z=some (off,⟨t1,x1⟩)) (hd:t1.depth=0):aP P o vs T a w L d (.d none 0 t1 x1):=by
 unfold pz at hX;split at hX
 ·rename_i t' ht;cases cV:t'.eD with
  | false=>rw[cV]at hX;cases hX
  | true =>
  rw[cV]at hX;injection hX with hX;subst hX;obtain⟨m,e,te,hu,he,KC,hn,vN,hb⟩:=((hC X _ ht).b7).resolve_left (λh=>by rw[cV]at h;cases h.1) |>.2;have sH:=abS.WW hc;have ax:=hb j _ sH;rw[vN j ax]at sH;simp only[Option.some.injEq,Prod.mk.injEq]at sH;obtain⟨rfl,rfl⟩:=sH;have dK:∃s0,aB L T a.tmps s0 (.d l n (.agg t') z) w (a.eval x):=by
   rcases ke hI hx with⟨s,_,_,hs⟩|⟨_,hs⟩
   ·exact⟨s,hs⟩
   ·exact⟨0,hs _ _ _ _ _⟩
  obtain⟨s0,_,cs,hf,bT⟩:=dK;have c8:=hf.agg;simp only[Own]at bT;obtain⟨h5,h6⟩:=vt hc bT;have hlen:=bT.len;obtain⟨c,eo,ft⟩:=xC (w:=w) (xs:=cs.toArray) (off:=j*te.sz) hC he (by simp[hlen];omega) (Own.eH (Own.flat (n':=0) (L':=L) (S':=SL L none) (s':=0) (q':=[]) (o':=0) hd h6));refine aP.still hI (c:=c) ?_ (λ_=>rfl) ⟨by simp,_,ft,Own.flat hd h6⟩;have hs:=(hC _ _ he).run_sizeOf (w:=w);simp[execOp,ho,Instr.index,c8,hy,asIntOf,run_underlying hu,ax,hs,eo]
 ·cases hX
theorem nL[ae](hI:Inv w0 L0 N vs T a w L){x:Option Operand}{r:Option Int}(h:(jn C x).aj T r log):
  (x=none/\r=none)\/∃y k i,x=some y/\r=some i/\a.eval y = .int k i:=by
 cases x with
 | none=>obtain⟨rfl,_⟩:=h;exact .inl ⟨rfl,rfl⟩
 | some y =>
  obtain⟨u,l1,l2,rfl,h1,h2⟩:=M.aq h;split at h2
  ·obtain⟨rfl,_⟩:=h2;exact .inr ⟨y,_,_,rfl,rfl,gG hI h1⟩
  ·exact h2.elim
theorem EM{e:TypeId}{te:Ty}(hu:P.underlying X=some (.slice e))(hs:(sizeOf e).run P w = .ok te.sz w){A:Option Addr}{len cap:Nat}{lo hi:Option Value}{l h:Int}
  (hl:(lo=none/\l=0)\/∃k,lo=some (.int k l)) (hh:(hi=none/\h=len)\/∃k,hi=some (.int k h)) (h0:0<=l) (h1:l<=h) (h2:h<=len) (h3:len<=cap) :
  (Instr.sliceAt X (.slice A len cap) lo hi none).run P w = .ok (.slice (if cap=l.toNat then A else A.map (·.add (l.toNat*te.sz))) (h.toNat - l.toNat) (cap - l.toNat)) w:=by
 have hb:(Instr.sliceBounds true len cap lo hi none).run P w = .ok (l.toNat,h.toNat,cap) w:=by
  unfold Instr.sliceBounds;rcases hl with⟨rfl,rfl⟩|⟨k,rfl⟩<;>rcases hh with⟨rfl,rfl⟩|⟨k',rfl⟩
  ·simp
  ·simp only[Instr.sliceBound,asIntOf,Sem.run_bind,Sem.run_pure,Result.andThen_ok,Sem.run_ite];rw[if_pos ⟨by omega,by omega⟩];simp
  ·simp only[Instr.sliceBound,asIntOf,Sem.run_bind,Sem.run_pure,Result.andThen_ok,Sem.run_ite];rw[if_pos ⟨by omega,by omega⟩];simp
  ·simp only[Instr.sliceBound,asIntOf,Sem.run_bind,Sem.run_pure,Result.andThen_ok,Sem.run_ite];rw[if_pos ⟨by omega,by omega⟩];simp only[Result.andThen_ok];rw[if_pos ⟨by omega,by omega⟩];simp
 simp[Instr.sliceAt,Instr.slice,run_underlying hu,hb,hs]
theorem ab9(hu:P.underlying X=some .string){sx:ByteArray}{lo hi:Option Value}{l h:Int}
  (hl:(lo=none/\l=0)\/∃k,lo=some (.int k l)) (hh:(hi=none/\h=sx.size)\/∃k,hi=some (.int k h)) (h0:0<=l) (h1:l<=h) (h2:h<=sx.size) :
  (Instr.sliceAt X (.string sx) lo hi none).run P w = .ok (.string (sx.extract l.toNat h.toNat)) w:=by
 have hb:(Instr.sliceBounds false sx.size sx.size lo hi none).run P w = .ok (l.toNat,h.toNat,sx.size) w:=by
  unfold Instr.sliceBounds;rcases hl with⟨rfl,rfl⟩|⟨k,rfl⟩<;>rcases hh with⟨rfl,rfl⟩|⟨k',rfl⟩
  ·simp
  ·simp only[Instr.sliceBound,asIntOf,Sem.run_bind,Sem.run_pure,Result.andThen_ok,Sem.run_ite];rw[if_pos ⟨by omega,by omega⟩];simp
  ·simp only[Instr.sliceBound,asIntOf,Sem.run_bind,Sem.run_pure,Result.andThen_ok,Sem.run_ite];rw[if_pos ⟨by omega,by omega⟩];simp
  ·simp only[Instr.sliceBound,asIntOf,Sem.run_bind,Sem.run_pure,Result.andThen_ok,Sem.run_ite];rw[if_pos ⟨by omega,by omega⟩];simp only[Result.andThen_ok];rw[if_pos ⟨by omega,by omega⟩];simp
 simp[Instr.sliceAt,Instr.slice,run_underlying hu,hb]
theorem nM{x:Option Operand}{r:Option Int}{z:Int}(h:(x=none/\r=none)\/∃y k i,x=some y/\r=some i/\a.eval y = .int k i):
  (x.map a.eval=none/\r.getD z=z)\/∃k,x.map a.eval=some (.int k (r.getD z)):=by
 rcases h with⟨rfl,rfl⟩|⟨y,k,i,rfl,rfl,h⟩
 ·exact .inl ⟨rfl,rfl⟩
 ·exact .inr ⟨k,by simp[h]⟩
theorem aqJ[ae](hI:Inv w0 L0 N vs T a w L)(hC:bF P C){sx:ByteArray}{lo hi:Option Operand}{l h:Option Int}{l1 l2:List Nat}(ho:o.op = .slice X (.const (.string sx)) lo hi none)
  (hl:(jn C lo).aj T l l1) (hh:(jn C hi).aj T h l2)
  (hr:(tF C X 0 (l.getD 0) h (.d none 0 .str sx)).aj T v log):aP P o vs T a w L d v:=by
 have el:=nM (z:=0) (nL hI hl);have eh:=λz=>nM (z:=z) (nL hI hh);have key:∀c,(Instr.sliceAt X (.string sx) (lo.map a.eval) (hi.map a.eval) none).run P w = .ok c w->(execOp a.eval o).run P w = .ok (.value c) w:=by
  intro c hc;have c8:a.eval (.const (.string sx)) = .string sx:=rfl;simp[execOp,ho,c8,hc]
 simp only[tF]at hr;split at hr
 ·rename_i hX;obtain⟨hc,rfl,_⟩:=hr;simp only[Bool.and_eq_true,decide_eq_true_eq]at hc;obtain⟨⟨h0,h1⟩,h2⟩:=hc;have aT:=ab9 (P:=P) (w:=w) (hC X _ hX).b7 (sx:=sx) el (eh (sx.size:Int)) h0 h1 h2;exact aP.still hI (key _ aT) (λ_=>rfl) aB.mkStr
 ·exact hr.elim
theorem aqI[ae](hI:Inv w0 L0 N vs T a w L)(hC:bF P C){t:Nat}{lo hi:Option Operand}{l h:Option Int}{l1 l2:List Nat}(ho:o.op = .slice X (.tmp t) lo hi none)
  (hid:(T.getD d .dead).idle=true) (hl:(jn C lo).aj T l l1) (hh:(jn C hi).aj T h l2)
  (hr:(tF C X t (l.getD 0) h (T.getD t .dead)).aj T v log) (bf:∀r,v.on r=true->r∈vs):aP P o vs T a w L d v:=by
 have hs:=hI.aX t;have el:=nM (z:=0) (nL hI hl);have eh:=λz=>nM (z:=z) (nL hI hh);have key:∀c,(Instr.sliceAt X (a.eval (.tmp t)) (lo.map a.eval) (hi.map a.eval) none).run P w = .ok c w->(execOp a.eval o).run P w = .ok (.value c) w:=by
  intro c hc;simp[execOp,ho,hc]
 unfold tF at hr;split at hr
 ·rename_i l0 n sx hv;rw[hv]at hs;split at hr
  ·rename_i hX;obtain⟨hc,rfl,_⟩:=hr;simp only[Bool.and_eq_true,decide_eq_true_eq]at hc;obtain⟨⟨h0,h1⟩,h2⟩:=hc;have KH:a.eval (.tmp t)=_:=hs.str;have aT:=ab9 (P:=P) (w:=w) (hC X _ hX).b7 (sx:=sx) el (eh (sx.size:Int)) h0 h1 h2;rw[<-KH]at aT;exact aP.still hI (key _ aT) (λ_=>rfl) aB.mkStr
  ·exact hr.elim
 ·obtain⟨⟨lr,t2,x2⟩,l3,l4,rfl,h1,h2⟩:=M.aq hr;split at h2
  ·rename_i z l' e te xs he;cases he;split at h2
   ·rename_i gj;obtain⟨hc,rfl,_⟩:=h2;simp only[Bool.and_eq_true,decide_eq_true_eq]at hc;obtain⟨⟨h0,eY⟩,Kv⟩:=hc;obtain⟨cs,hf,bD,cB⟩:=qB hI h1 hs (λ_=>rfl);simp only[Rd]at bD;obtain⟨A,cp,rfl,k1,k2,k3⟩:=bD;have KH:a.eval (.tmp t)=_:=((List.cons.inj hf).1).symm;unfold oV at gj;split at gj
    ·rename_i e' ES hX;injection gj with gj;subst gj;obtain⟨hu,he⟩:=(hC X _ hX).b7;have aT:=EM (te:=ES) hu ((hC _ _ he).run_sizeOf (w:=w)) (A:=A) (len:=xs.length) (cap:=cp) el (eh (xs.length:Int)) h0 eY Kv k1;rw[<-KH]at aT;refine⟨_,w,L,key _ aT,ek.refl hI d,λk q hk h=>(by rw[hI.free k hk]at h;cases h),bf,λr hr=>?_,_,rfl,?_⟩
     ·have:=cB r hr;rw[aJ,if_neg (λh=>dm hid (V.fg this) h.1)];exact this
     ·simp only[Own,Rd];generalize hlo:(l.getD 0)=lZ at *
      generalize hhi:(h.getD (xs.length:Int))=sJ at *
      refine⟨if cp=lZ.toNat then A else A.map (λx=>x.add (lZ.toNat*ES.sz)),cp - lZ.toNat,?_,?_,?_,?_⟩
      ·simp only[List.length_drop,List.length_take];rw[Nat.min_eq_left (by omega)]
      ·simp only[List.length_drop,List.length_take];omega
      ·intro hA;have:A=none:=by
        split at hA
        ·exact hA
        ·simpa using hA
       obtain⟨rfl,rfl⟩:=k2 this;simp
      ·intro hx;have jg:xs≠[]:=by rintro rfl;simp at hx
       obtain⟨g,o',rfl,hS,mZ⟩:=k3 jg;have hlen:lZ.toNat<xs.length:=by
        rcases Nat.lt_or_ge lZ.toNat xs.length with h|h
        ·exact h
        ·exact absurd (List.drop_eq_nil_of_le (by simp;omega)) hx
       refine⟨g,o'+lZ.toNat*ES.sz,?_,hS,λj hj=>?_⟩
       ·rw[if_neg (by omega)];simp[Addr.add_lit]
       ·simp only[List.length_drop,List.length_take]at hj;obtain⟨es,mY,lI⟩:=mZ (lZ.toNat+j) (by omega);refine⟨es,by simpa using mY,λi v hv=>?_⟩;have:=lI i v hv;rw[Nat.add_mul]at this;rw[<-this];congr 2;omega
    ·cases gj
   ·exact h2.elim
  ·exact h2.elim
theorem aqK[ae](hI:Inv w0 L0 N vs T a w L)(hC:bF P C)(hid:(T.getD d .dead).idle=true)(bf:∀r,v.on r=true->r∈vs)
  (h:(MA C o).aj T v log):aP P o vs T a w L d v:=by
 unfold MA at h;split at h
 ·rename_i x ho;exact abU hI ho hid h bf
 ·rename_i c x y ho;obtain⟨u,l1,l2,rfl,h1,h2⟩:=M.aq h;split at h2
  ·rename_i l n b;split at h2
   ·exact abV hI ho (Mq hI h1) hid h2 bf
   ·exact abV hI ho (Mq hI h1) hid h2 bf
  ·exact h2.elim
 ·rename_i X ho;exact aqt hI hC ho h
 ·rename_i X t ho;exact aqD hI hC ho hid h bf
 ·rename_i t ho;exact aqF hI ho hid h bf
 ·rename_i X t f ho;exact abS hI hC ho hid h bf
 ·rename_i X t y ho;obtain⟨u,l1,l2,rfl,h1,h2⟩:=M.aq h;split at h2
  ·exact aqz (Y:=0) hI hC ho (gG hI h1) hid h2 bf
  ·exact h2.elim
 ·rename_i X x y ho;obtain⟨u,l1,l2,rfl,h1,h2⟩:=M.aq h;obtain⟨u2,l3,l4,rfl,h3,h4⟩:=M.aq h2;split at h4
  ·split at h4
   ·rename_i hX;obtain⟨b,hb,rfl,_⟩:=h4;exact aqy hI hC ho hX (Ey hI h1) (gG hI h3) hb
   ·exact h4.elim
  ·rename_i l n t z l' n' k i;split at h4
   ·rename_i hX;obtain⟨hX,hd⟩:=hX;obtain⟨y0,jh,rfl,_⟩:=h4;obtain⟨hj,jN,rfl⟩:=lF jh;obtain⟨off,hc⟩:=Xe (List.getElem?_eq_getElem hj);have ft:comp (i.toNat+1) (.pair .unit t) z=some (0+off,⟨sj t,(mS (sj t) t z.2)[i.toNat]⟩):=by simp[comp,hc,Ty.sz]
    exact aqA hI hC ho hX h1 (by rw[gG hI h3,Int.toNat_of_nonneg jN]) ft hd
   ·exact h4.elim
  ·exact h4.elim
 ·rename_i op X x y Y ho;obtain⟨u,l1,l2,rfl,h1,h2⟩:=M.aq h;obtain⟨u2,l3,l4,rfl,h3,h4⟩:=M.aq h2;exact aqu hI hC ho h1 h3 h4
 ·rename_i op X x ho;obtain⟨u,l1,l2,rfl,h1,h2⟩:=M.aq h;exact aqM hI ho h1 h2
 ·rename_i src dst x ho;split at h
  ·rename_i e t hs hd;exact aqv hI hC ho hs hd h
  ·obtain⟨u,l1,l2,rfl,h1,h2⟩:=M.aq h;exact aqw hI hC ho h1 h2
 ·rename_i X x y ho;obtain⟨u,l1,l2,rfl,h1,h2⟩:=M.aq h;obtain⟨u2,l3,l4,rfl,h3,h4⟩:=M.aq h2;split at h4
  ·exact aqE hI hC ho (gG hI h1) (gG hI h3) h4
  ·exact h4.elim
 ·rename_i X t lo hi ho;obtain⟨u,l1,l2,rfl,h1,h2⟩:=M.aq h;obtain⟨u2,l3,l4,rfl,h3,h4⟩:=M.aq h2;obtain⟨l5,h5⟩:=M.aq1 h4;exact aqI hI hC ho hid h1 h3 h5 bf
 ·rename_i X sx lo hi ho;obtain⟨u,l1,l2,rfl,h1,h2⟩:=M.aq h;obtain⟨u2,l3,l4,rfl,h3,h4⟩:=M.aq h2;exact aqJ hI hC ho h1 h3 h4
 ·rename_i c ho;split at h
  ·rename_i t X h1 h2 h3;split at h
   ·rename_i tx hX;have lO:o.op = .call { callee:=.builtin .len,args:=#[.tmp t],argTypes:=#[X] }:=by
     rw[ho];obtain⟨c1,c2,c3⟩:=c;simp only at h1 h2 h3;subst h1;congr 2<;>apply Array.ext'<;>simpa
    exact aqC hI hC lO hX h
   ·exact h.elim
  ·exact h.elim
 ·exact h.elim
end
def eI(f:Nat->List Nat->ak):ak->ak
 | .own s q=>f s q
 | x=>x
def aW(f:Nat->List Nat->ak)(w:World)(L nl:Nat->ak):Nat->ak:=λk=>if k<w.heap.size then eI f (L k)else nl k
section
variable{P:Program}{C:Ctx}{w w' w0:World}{S S':Nat->Prop}{L L' L0:Nat->ak}{s N:Nat}{vs:List Nat}{T T':List V}{tm tm':Array Value}{a:Act}
theorem eS{f:Nat->List Nat->ak}{l:ak}{s:Nat}(h:eI f l = .own s q):∃s0 q0,l = .own s0 q0/\f s0 q0 = .own s q:=by
 cases l with
 | own s0 q0=>exact⟨s0,q0,rfl,h⟩
 | au=>cases h
 | free=>cases h
 | other=>cases h
structure fD (f:Nat->List Nat->ak) (X:Nat->Prop):Prop where
 id:∀s q,¬X s->f s q = .own s q
 to:∀s q s' q',X s->f s q = .own s' q'->X s'
 inj:∀s q s2 q2 s' q',f s q = .own s' q'->f s2 q2 = .own s' q'->s=s2/\q=q2
 nf:∀s q,f s q ≠ .free
structure Wd (w w':World) (L nl:Nat->ak) (X:Nat->Prop):Prop where
 os:w'.os=w.os
 tape:w'.tape=w.tape
 output:w'.output=w.output
 size:w.heap.size<=w'.heap.size
 drawn:w.drawn<=w'.drawn
 old:∀k,k<w.heap.size->(∀s q,L k = .own s q->¬X s)->w'.heap[k]?=w.heap[k]?
 free:∀k,w'.heap.size<=k->nl k = .free
 new:∀k s q,w.heap.size<=k->nl k = .own s q->X s
theorem Wd.refl[ae](hI:Inv w0 L0 N vs T a w L)(X:Nat->Prop):Wd w w L (λ_=>.free) X :=
 ⟨rfl,rfl,rfl,Nat.le_refl _,Nat.le_refl _,λ_ _ _=>rfl,λ_ _=>rfl,λ_ _ _ _ h=>(by cases h)⟩
theorem dc[ae]{f:Nat->List Nat->ak}{nl:Nat->ak}(hI:Inv w0 L0 N vs T a w L)(h:L k ≠ .free):aW f w L nl k=eI f (L k):=by
 unfold aW;rw[if_pos (hI.lt h)]
theorem xk[ae]{f:Nat->List Nat->ak}{nl:Nat->ak}{X:Nat->Prop}(hI:Inv w0 L0 N vs T a w L)(hf:fD f X){s:Nat}(h:L k = .own s q)(hs:¬X s):
  aW f w L nl k = .own s q:=by
 rw[dc hI (by rw[h];simp),h];simp[eI,hf.id s q hs]
theorem ew[ae]{f:Nat->List Nat->ak}{nl:Nat->ak}(hI:Inv w0 L0 N vs T a w L)(h:L k = .au):aW f w L nl k = .au:=by
 rw[dc hI (by rw[h];simp),h];rfl
theorem Inv.gI[ae]{a':Act}{f:Nat->List Nat->ak}{X:Nat->Prop}{nl:Nat->ak}(hI:Inv w0 L0 N vs T a w L)(hf:fD f X)(hw:Wd w w' L nl X)
  (gg:∀k k' s q,w.heap.size<=k->nl k = .own s q->aW f w L nl k' = .own s q->k=k')
  (bq:a'.tmps.size=N) (hlen:T'.length=N) (KI:a'.defers=[])
  (bA:∀k s q,X s->aW f w L nl k = .own s q->(T'.getD s .dead).aO=true)
  (ag:∀s r,¬X s->(T.getD s .dead).on r=true->X r->(T.getD r .dead).aO=false)
  (e9:∀s,¬X s->T'.getD s .dead=T.getD s .dead/\a'.tmps.getD s undef=a.tmps.getD s undef)
  (K7:∀s r,X s->(T'.getD s .dead).on r=true->r∈vs)
  (hX:∀s,X s->aB (aW f w L nl) T' a'.tmps s (T'.getD s .dead) w' (a'.tmps.getD s undef)):Inv w0 L0 N vs T' a' w' (aW f w L nl):=by
 refine Inv.upd X hI bq hlen KI ?_ ?_ ?_ ?_ ?_ e9 ?_ ?_ hX
 ·refine⟨hw.os.trans hI.fr.os,hw.tape.trans hI.fr.tape,hw.output.trans hI.fr.output,Nat.le_trans hI.fr.size hw.size,Nat.le_trans hI.fr.drawn hw.drawn,λk hk h0=>?_,hI.fr.gP⟩;have h1:=hI.fr.aV k hk h0;have ax:k<w.heap.size:=Nat.lt_of_lt_of_le hk hI.fr.size;constructor
  ·unfold aW;rw[if_pos ax,h1.1];rcases h0 with h0|h0<;>rw[h0]<;>rfl
  ·rw[hw.old k ax,h1.2];intro s q hq;rw[h1.1]at hq;rcases h0 with h0|h0<;>rw[h0]at hq<;>cases hq
 ·intro k hk;unfold aW;rw[if_neg (by have:=hw.size;omega)];exact hw.free k hk
 ·intro k k' s q h h';by_cases hk:k<w.heap.size
  ·by_cases aL:k'<w.heap.size
   ·unfold aW at h h';rw[if_pos hk]at h;rw[if_pos aL]at h';obtain⟨s0,q0,e0,f0⟩:=eS h;obtain⟨s1,q1,e1,f1⟩:=eS h';obtain⟨rfl,rfl⟩:=hf.inj _ _ _ _ _ _ f0 f1;exact hI.inj k k' _ _ e0 e1
   ·have h2:nl k' = .own s q:=by unfold aW at h';rwa [if_neg aL]at h'
    exact (gg k' k s q (by omega) h2 h).symm
  ·have h2:nl k = .own s q:=by unfold aW at h;rwa [if_neg hk]at h
   exact gg k k' s q (by omega) h2 h'
 ·intro k s q h;by_cases hs:X s
  ·exact bA k s q hs h
  ·rw[(e9 s hs).1];unfold aW at h;split at h
   ·obtain⟨s0,q0,e0,f0⟩:=eS h;by_cases h0:X s0
    ·exact absurd (hf.to _ _ _ _ h0 f0) hs
    ·rw[hf.id s0 q0 h0]at f0;injection f0 with f0 f1;subst f0 f1;exact hI.owner k _ _ e0
   ·exact absurd (hw.new k s q (by omega) h) hs
 ·intro s hs k hk;have ax:k<w.heap.size:=hI.lt (by rcases hk with hk|⟨r,q,hk,_⟩<;>rw[hk]<;>simp);rcases hk with hk|⟨r,q,hk,hr⟩
  ·refine⟨by rw[ew hI hk,hk],hw.old k ax λs q h=>?_⟩;rw[hk]at h;cases h
  ·have Dz:¬X r:=by
    rcases hr with rfl|hr
    ·exact hs
    ·intro hx;have h1:=ag s r hs hr hx;rw[hI.owner k r q hk]at h1;cases h1
   refine⟨by rw[xk hI hf hk Dz,hk],hw.old k ax λs q h=>?_⟩;rw[hk]at h;injection h with h _;subst h;exact Dz
 ·intro s r h;by_cases hs:X s
  ·exact K7 s r hs h
  ·rw[(e9 s hs).1]at h;exact hI.roots s r h
 ·intro s r hs hr ho;have Dz:¬X r:=λhx=>by
   rw[ag s r hs hr hx]at ho;cases ho
  exact e9 r Dz
def cut:List Nat->List Nat->Option (List Nat)
 | [],z=>some z
 | x::q,y::z=>if x=y then cut q z else none
 | _::_,[]=>none
theorem mM(q z:List Nat):cut q (q++z)=some z:=by
 induction q with
 | nil=>rfl
 | cons x q ih=>simp[cut,ih]
theorem oh{z y:List Nat}(h:cut q z=some y):z=q++y:=by
 induction q generalizing z with
 | nil=>simp only[cut,Option.some.injEq]at h;rw[h];rfl
 | cons x q ih =>
  cases z with
  | nil=>simp[cut]at h
  | cons y' z =>
   simp only[cut]at h;split at h
   ·rename_i he;rw[he,ih h];rfl
   ·cases h
def hM(r:Nat)(q:List Nat)(o sz m d:Nat):Nat->List Nat->ak:=λs z =>
 if s=r then match cut q z with
  | some (y::rest)=>if o<=y/\y<o+sz then (if rest.length<m then .own d ((y - o)::rest)else .au)else .other
  | _=>.other
 else if s=d then .other else .own s z
theorem qu[ae]{o sz:Nat}{s:Nat}{z:List Nat}{s':Nat}{z':List Nat}(hh:hM r q o sz m d s z = .own s' z'):
  (s=r/\∃i rest,z=q++(o+i)::rest/\s'=d/\z'=i::rest)\/(s≠d/\s≠r/\s'=s/\z'=z):=by
 unfold hM at hh;split at hh
 ·rename_i hs;subst hs;split at hh
  ·rename_i y0 rest hc;split at hh
   ·rename_i hb;split at hh
    ·injection hh with h1 h2;refine .inl ⟨rfl,y0 - o,rest,?_,h1.symm,h2.symm⟩;rw[oh hc];congr 2;omega
    ·cases hh
   ·cases hh
  ·cases hh
 ·split at hh
  ·cases hh
  ·rename_i kO dZ;injection hh with h1 h2;exact .inr ⟨dZ,kO,h1.symm,h2.symm⟩
theorem abo[ae]{o sz:Nat}(h:r≠d):fD (hM r q o sz m d) (λs=>s=r\/s=d):=by
 refine⟨λs q hs=>?_,λs q s' q' hs h=>?_,λs z s2 z2 s' z' h1 h2=>?_,λs z=>?_⟩
 ·have:=not_or.1 hs;simp[hM,this]
 ·rcases qu h with⟨_,_,_,_,rfl,_⟩|⟨h1,h2,_⟩
  ·exact .inr rfl
  ·exact absurd hs (not_or.2 ⟨h2,h1⟩)
 ·rcases qu h1 with⟨rfl,i,rest,rfl,rfl,rfl⟩|⟨hs,hr,rfl,rfl⟩
  ·rcases qu h2 with⟨rfl,i2,MH,rfl,_,h4⟩|⟨dZ,lS,h3,_⟩
   ·injection h4 with h4 h5;subst h4 h5;exact⟨rfl,rfl⟩
   ·exact absurd h3.symm dZ
  ·rcases qu h2 with⟨rfl,i2,MH,rfl,h3,_⟩|⟨dZ,lS,h3,h4⟩
   ·exact absurd h3 hs
   ·exact⟨h3,h4⟩
 ·unfold hM
  repeat' split
  all_goals simp
theorem ap2[ae]{o sz:Nat}{rest:List Nat}(h:i<sz):hM r q o sz m d r (q++(o+i)::rest)=if rest.length<m then .own d (i::rest)else .au:=by
 unfold hM;rw[if_pos rfl,mM];simp only;rw[if_pos ⟨by omega,by omega⟩,show o+i - o=i by omega]
theorem Own.taken[ae]{o:Nat}{x:t.den}{nl:Nat->ak}{S:Nat->Prop}(hm:m<=n)(hI:Inv w0 L0 N vs T a w L)
  (hS:∀k,S k->L k = .au) (h:Own w L S r n t x q o cs):Own w (aW (hM r q o t.sz m d) w L nl) (SL (aW (hM r q o t.sz m d) w L nl) none) d m t x [] 0 cs :=
 Own.ff hm (λk hk=>⟨.inl (ew hI (hS k hk)),rfl⟩) (λk i rest hi hk=>by
  have:aW (hM r q o t.sz m d) w L nl k=if rest.length<m then .own d (i::rest)else .au:=(dc hI (by rw[hk];simp)).trans (by rw[hk];exact ap2 hi)
  refine⟨rfl,λh=>?_,λh=>.inl ?_⟩
  ·rw[this,if_pos h];simp
  ·rw[this,if_neg (by omega)]) h
end
def kh(r d:Nat):Nat->List Nat->ak:=λs z=>if s=r then .own d z else if s=d then .other else .own s z
def jW(kp:Nat->V->Bool)(T:List V):List V:=T.mapIdx λs v=>if kp s v then .dead else v
def aaJ(kp:Nat->V->Bool)(T:List V):Bool :=
 (T.mapIdx λs v=>kp s v||((match v.root with
  | none=>true
  | some r => !(kp r (T.getD r .dead)&&(T.getD r .dead).aO)))).all id
def nH(r s:Nat)(T:List V):Bool:=(T.mapIdx λs' v=>s'==s||v.root != some r).all id
section
variable{P:Program}{C:Ctx}{w w' w0:World}{S S':Nat->Prop}{L L' L0:Nat->ak}{s N:Nat}{vs:List Nat}{T T':List V}{tm tm':Array Value}{a:Act}
theorem alQ(g:Nat->V->V)(hg:∀s,g s .dead = .dead)(T:List V)(s:Nat):(T.mapIdx g).getD s .dead=g s (T.getD s .dead):=by
 simp only[List.getD_eq_getElem?_getD,List.getElem?_mapIdx];cases T[s]?<;>simp[hg]
theorem XK[ae](kp:Nat->V->Bool)(T:List V)(s:Nat):(jW kp T).getD s .dead=if kp s (T.getD s .dead)=true then .dead else T.getD s .dead:=by
 unfold jW;rw[alQ _ (by intro s;split<;>rfl)]
theorem Wn{g:Nat->V->Bool}{T:List V}(h:(T.mapIdx g).all id=true)(s:Nat)(hs:s<T.length):g s (T.getD s .dead)=true:=by
 rw[List.all_eq_true]at h;have:g s (T.getD s .dead)∈T.mapIdx g:=by
  rw[List.mem_iff_getElem?];refine⟨s,?_⟩;simp[List.getElem?_mapIdx,List.getElem?_eq_getElem hs]
 exact h _ this
theorem ez{T:List V}{s:Nat}(h:T.length<=s):T.getD s .dead = .dead:=by
 simp[List.getD_eq_getElem?_getD,List.getElem?_eq_none h]
theorem Inv.apE[ae](hI:Inv w0 L0 N vs T a w L){kp:Nat->V->Bool}(h:aaJ kp T=true):∃L',Inv w0 L0 N vs (jW kp T) a w L':=by
 refine⟨_,Inv.kill hI (λs=>kp s (T.getD s .dead)) (by simp[jW,hI.len]) (λs=>XK kp T s) (λs r hs lP ns=>?_)⟩;by_cases ax:s<T.length
 ·have h1:=Wn h s ax;rw[hs,Bool.false_or]at h1;have hr:(T.getD s .dead).root=some r:=by simpa[V.on]using lP
  rw[hr]at h1;simp only[ns,Bool.and_true,Bool.not_eq_true']at h1;exact h1
 ·rw[ez (by omega)]at lP;simp[V.on,V.root]at lP
theorem abr[ae]{s:Nat}(h:nH r s T=true):∀s',s'≠s->(T.getD s' .dead).on r=false:=by
 intro s' hs;by_cases ax:s'<T.length
 ·have h1:=Wn h s' ax;simp only[Bool.or_eq_true,beq_iff_eq,hs,false_or,bne_iff_ne]at h1;simpa[V.on]using h1
 ·rw[ez (by omega)];rfl
theorem Inv.take[ae](hI:Inv w0 L0 N vs T a w L){s r n:Nat}{p:List St}{t:Ty}{x:t.den}{log:List Nat}(hs:T.getD s .dead = .view r p t)(b8:s<N)(hv:(qS p (T.getD r .dead)).aj T (none,⟨n,t,x⟩) log)
  (hn:n≠0) (hd:t.depth≠0) (cu:nH r s T=true):∃L',Inv w0 L0 N vs ((T.set r .dead).set s (.d none n t x)) a w L':=by
 have bu:=hI.aX s;rw[hs]at bu;obtain⟨cs,hf,bA,_,cB⟩:=E0 hI bu hv;have Y1:=V.fg cB;have iy:r≠s:=by
  rintro rfl
  rw[hs]at Y1;cases Y1
 have bL:((T.set r .dead).set s (.d none n t x)).getD s .dead = .d none n t x:=by
  rw[aJ,if_pos ⟨rfl,by simp[hI.len,b8]⟩]
 have bG:((T.set r .dead).set s (.d none n t x)).getD r .dead = .dead:=by
  rw[aJ,if_neg (λh=>iy h.1),aJ];split
  ·rfl
  ·rename_i h;exact ez (Nat.le_of_not_lt λhl=>h ⟨rfl,hl⟩)
 refine⟨_,Inv.gI (f:=hM r (node [] 0 p).1 (node [] 0 p).2 t.sz n s) (X:=λz=>z=r\/z=s) (nl:=λ_=>.free) hI (abo iy) (Wd.refl hI _) (λ_ _ _ _ _ h=>by cases h) hI.size (by simp[hI.len]) hI.dO ?_ ?_ ?_ ?_ ?_⟩
 ·intro k z q hz h;rcases hz with rfl|rfl
  ·unfold aW at h;split at h
   ·obtain⟨s0,q0,e0,f0⟩:=eS h;exfalso;rcases qu f0 with⟨_,_,_,_,h1,_⟩|⟨_,h1,h2,_⟩
    ·exact iy h1
    ·exact h1 h2.symm
   ·cases h
  ·rw[bL];simp[V.aO,hn,hd]
 ·intro z r' hz ag aZ;rcases aZ with rfl|rfl
  ·exact absurd ag (by rw[abr cu z (λh=>hz (.inr h))];simp)
  ·rw[hs];rfl
 ·intro z hz;have bY:=not_or.1 hz;rw[aJ,if_neg (λh=>bY.2 h.1),aJ,if_neg (λh=>bY.1 h.1)];exact⟨rfl,rfl⟩
 ·intro z r' hz ag;rcases hz with rfl|rfl
  ·rw[bG]at ag;simp[V.on,V.root]at ag
  ·rw[bL]at ag;simp[V.on,V.root]at ag
 ·intro z hz;rcases hz with rfl|rfl
  ·rw[bG];trivial
  ·rw[bL];exact⟨by simp,cs,hf,Own.taken (Nat.le_refl _) hI (λk hk=>by
    rcases hk with hk|⟨_,_,hk,_⟩
    ·exact hk
    ·cases hk) bA⟩
theorem xz{s s':Nat}{z z':List Nat}(hh:kh r d s z = .own s' z'):(s=r/\s'=d/\z'=z)\/(s≠d/\s≠r/\s'=s/\z'=z):=by
 unfold kh at hh;split at hh
 ·injection hh with h1 h2;exact .inl ⟨by assumption,h1.symm,h2.symm⟩
 ·split at hh
  ·cases hh
  ·injection hh with h1 h2;exact .inr ⟨by assumption,by assumption,h1.symm,h2.symm⟩
theorem ab2[ae](h:r≠d):fD (kh r d) (λs=>s=r\/s=d):=by
 refine⟨λs q hs=>?_,λs q s' q' hs h=>?_,λs z s2 z2 s' z' h1 h2=>?_,λs z=>?_⟩
 ·have:=not_or.1 hs;simp[kh,this]
 ·rcases xz h with⟨_,rfl,_⟩|⟨h1,h2,_⟩
  ·exact .inr rfl
  ·exact absurd hs (not_or.2 ⟨h2,h1⟩)
 ·rcases xz h1 with⟨rfl,rfl,rfl⟩|⟨hs,hr,rfl,rfl⟩
  ·rcases xz h2 with⟨rfl,_,h4⟩|⟨dZ,lS,h3,_⟩
   ·exact⟨rfl,h4⟩
   ·exact absurd h3.symm dZ
  ·rcases xz h2 with⟨rfl,h3,_⟩|⟨dZ,lS,h3,h4⟩
   ·exact absurd h3 hs
   ·exact⟨h3,h4⟩
 ·unfold kh
  repeat' split
  all_goals simp
theorem nN[ae]{nl:Nat->ak}(hI:Inv w0 L0 N vs T a w L)(h:L k = .own r q):aW (kh r d) w L nl k = .own d q:=by
 rw[dc hI (by rw[h];simp),h];simp[eI,kh]
theorem SL.rn[ae]{nl:Nat->ak}(hI:Inv w0 L0 N vs T a w L)(bD:r≠d)(hr:l≠some r)(hd:l≠some d):∀k,SL L l k->SL (aW (kh r d) w L nl) l k/\w.heap[k]?=w.heap[k]?:=by
 rintro k (h|⟨s,q,rfl,h⟩)
 ·exact⟨.inl (ew hI h),rfl⟩
 ·refine⟨.inr ⟨s,q,rfl,xk hI (ab2 bD) h (not_or.2 ⟨λe=>hr (by rw[e]),λe=>hd (by rw[e])⟩)⟩,rfl⟩
theorem eV.rn[ae]{nl:Nat->ak}(hI:Inv w0 L0 N vs T a w L)(bD:r≠d):{l:List (Nat×Option (Nat×(t:Ty)×t.den))}->{o:Nat}->{vs:List Value}->eV w L r o l vs->eV w (aW (kh r d) w L nl) d o l vs
 | [],_,_,h=>h
 | (sz,c)::l,o,vs,⟨v,iM,h1,h2,h3⟩=>⟨v,iM,h1,λn t x hc=>by
   obtain⟨h4,cs,h5,h6⟩:=h2 n t x hc;exact⟨h4,cs,h5,Own.move (SL.rn hI bD (by simp) (by simp)) (λk d rest _ hk=>⟨nN hI hk,rfl⟩) h6⟩,eV.rn hI bD h3⟩
theorem ca.rn[ae]{nl:Nat->ak}(hI:Inv w0 L0 N vs T a w L)(bD:r≠d):{t:Ty}->{m:Nat}->{x:t.den}->{o:Nat}->{cs:List Value}->ca w L r m t x o cs->ca w (aW (kh r d) w L nl) d m t x o cs:=by
 intro t;induction t with
 | pair a b _ ih =>
  intro m x o cs h;obtain⟨c0,c1,h1,h2,h3⟩:=h;exact⟨c0,c1,h1,Own.move (SL.rn hI bD (by simp) (by simp)) (λk d rest _ hk=>⟨nN hI hk,rfl⟩) h2,ih h3⟩
 | _=>intro m x o cs h;simp only[ca]at h ⊢;exact Own.move (SL.rn hI bD (by simp) (by simp)) (λk d rest _ hk=>⟨nN hI hk,rfl⟩) h
theorem fE.rn[ae]{nl:Nat->ak}(hI:Inv w0 L0 N vs T a w L)(bD:r≠d){k0:Nat}{x:t.den}(h:fE w L r k0 n t x c):fE w (aW (kh r d) w L nl) d k0 n t x c:=by
 unfold fE at h ⊢;split at h
 ·rcases h with h|⟨g,cap,cur,h1,h2,h3,h4,h5,h6,h7⟩
  ·exact .inl h
  ·exact .inr ⟨g,cap,cur,h1,nN hI h2,h3,h4,h5,h6,λj hj hx=>Own.move (SL.rn hI bD (by simp) (by simp)) (λk d rest _ hk=>⟨nN hI hk,rfl⟩) (h7 j hj hx)⟩
 ·obtain⟨g,cur,e,h1,h2,h3,h4,h5⟩:=h;exact⟨g,cur,e,h1,nN hI h2,h3,h4,ca.rn hI bD h5⟩
 ·exact h.elim
theorem Inv.apZ[ae](hI:Inv w0 L0 N vs T a w L){t d:Nat}{v:V}(ht:T.getD t .dead=v)(hv:v.aO=true)(ba:∀u p,v ≠ .hole u p)(hpt:∀r i n t x,v ≠ .part r i n t x)(hd:d<N)(hid:(T.getD d .dead).idle=true)
  (cu:nH t t T=true) (lT:v.root≠some t) (bD:v.root≠some d):∃L',Inv w0 L0 N vs ((T.set t .dead).set d v) (a.put (some d) (a.tmps.getD t undef)) w L':=by
 have kP:t≠d:=dm hid (by rw[ht];exact hv);have bW:((T.set t .dead).set d v).getD d .dead=v:=by rw[aJ,if_pos ⟨rfl,by simp[hI.len,hd]⟩]
 have X3:((T.set t .dead).set d v).getD t .dead = .dead:=by
  rw[aJ,if_neg (λh=>kP h.1),aJ];split
  ·rfl
  ·rename_i h;exact ez (Nat.le_of_not_lt λhl=>h ⟨rfl,hl⟩)
 refine⟨_,Inv.gI (f:=kh t d) (X:=λz=>z=t\/z=d) (nl:=λ_=>.free) hI (ab2 kP) (Wd.refl hI _) (λ_ _ _ _ _ h=>by cases h) (by simp[Act.put,hI.size]) (by simp[hI.len]) hI.dO ?_ ?_ ?_ ?_ ?_⟩
 ·intro k z q hz h;rcases hz with rfl|rfl
  ·unfold aW at h;split at h
   ·obtain⟨s0,q0,e0,f0⟩:=eS h;exfalso;rcases xz f0 with⟨_,h1,_⟩|⟨_,h1,h2,_⟩
    ·exact kP h1
    ·exact h1 h2.symm
   ·cases h
  ·rw[bW];exact hv
 ·intro z r' hz ag aZ;rcases aZ with rfl|rfl
  ·exact absurd ag (by rw[abr cu z (λh=>hz (.inl h))];simp)
  ·exact V.kd hid
 ·intro z hz;have bY:=not_or.1 hz;rw[aJ,if_neg (λh=>bY.2 h.1),aJ,if_neg (λh=>bY.1 h.1)];refine⟨rfl,?_⟩;show (a.tmps.setIfInBounds d _).getD z undef=_;rw[dW,if_neg (λh=>bY.2 h.1)]
 ·intro z r' hz ag;rcases hz with rfl|rfl
  ·rw[X3]at ag;simp[V.on,V.root]at ag
  ·rw[bW]at ag;exact hI.roots t r' (by rw[ht];exact ag)
 ·intro z hz;rcases hz with rfl|rfl
  ·rw[X3];trivial
  ·rw[bW];show aB _ _ (a.tmps.setIfInBounds z (a.tmps.getD t undef)) z v w ((a.tmps.setIfInBounds z (a.tmps.getD t undef)).getD z undef);rw[dW,if_pos ⟨rfl,by rw[hI.size];exact hd⟩];have hs:=hI.aX t;rw[ht]at hs;have jL:∀r',v.root=some r'->(T.getD r' .dead).deep=true->(((T.set t .dead).set z v).getD r' .dead).deep=true:=by
    intro r' aZ h;have h1:r'≠z:=dm hid (V.fg h);have h2:r'≠t:=λe=>lT (by rw[aZ,e]);rw[aJ,if_neg (λh=>h1 h.1),aJ,if_neg (λh=>h2 h.1)];exact h
   cases v with
   | d l n t' x =>
    obtain⟨h0,cs,hf,ho⟩:=hs;exact⟨λr hr=>jL r hr (h0 r hr),cs,hf,Own.move (SL.rn hI kP lT bD) (λk i rest _ hk=>⟨nN hI hk,rfl⟩) ho⟩
   | box l n t' x =>
    obtain⟨h0,g,cur,e,h1,h2,h3,h4,h5⟩:=hs;exact⟨λr hr=>jL r hr (h0 r hr),g,cur,e,h1,nN hI h2,h3,h4,Own.move (SL.rn hI kP lT bD) (λk i rest _ hk=>⟨nN hI hk,rfl⟩) h5⟩
   | bH l =>
    obtain⟨us,h1,h2⟩:=hs;exact⟨us,h1,eV.rn hI kP h2⟩
   | hole u p=>exact absurd rfl (ba u p)
   | part r i n t x=>exact absurd rfl (hpt r i n t x)
   | bQ k n t' x=>exact fE.rn hI kP hs
   | same r t'=>cases hv
   | dead=>cases hv
   | rp _ _ _=>cases hv
   | ptr _ _ _=>cases hv
   | view _ _ _=>cases hv
end
structure Bd (t:Ty) where
 x:t.den
 n:Option Nat
 ms:List (Nat×Nat×Nat)
def tg:Option Nat->Option Nat->Option Nat
 | none,y=>y
 | x,none=>x
 | some a,some b=>some (min a b)
def Mv(C:Ctx)(t:Ty)(o:Nat)(x:Operand):M (Bd t):=
 (cI C 0 x).bind λv=>match v with
 | .d none n t' y=>if h:t'=t then
   if t.depth=0 then .ret ⟨h▸y,none,[]⟩
   else if n=0 then .ret ⟨h▸y,some 0,[]⟩
   else match x with
    | .tmp s=>.ret ⟨h▸y,if t.depth<=n then none else some n,[(s,o,t.sz)]⟩
    | _=>.fail
  else .fail
 | _=>.fail
def pJ(C:Ctx)(i o:Nat)(t:Ty)(parts:List (Nat×Operand)):M (Bd t×List (Nat×Operand)):=
 match parts with
 | (j,x)::rest=>if j=i then (Mv C t o x).bind λb=>.ret (b,rest)else .ret (⟨t.zero,none,[]⟩,parts)
 | []=>.ret (⟨t.zero,none,[]⟩,[])
def og(C:Ctx):(i o:Nat)->(t:Ty)->List (Nat×Operand)->M (Bd t)
 | i,o,.pair a b,parts=>(pJ C i o a parts).bind λp=>(og C (i+1) (o+a.sz) b p.2).bind λr=>.ret ⟨(p.1.x,r.x),tg p.1.n r.n,p.1.ms++r.ms⟩
 | i,o,t,parts=>(pJ C i o t parts).bind λp=>if p.2.isEmpty then .ret p.1 else .fail
section
variable{P:Program}{C:Ctx}{w w' w0:World}{S S':Nat->Prop}{L L' L0:Nat->ak}{s N:Nat}{vs:List Nat}{T T':List V}{tm tm':Array Value}{a:Act}
def lx(L L':Nat->ak)(d:Nat)(q:List Nat)(o0 m:Nat)(ms:List (Nat×Nat×Nat)):Prop :=
 ∀src o sz,(src,o,sz)∈ms->∀k y rest,y<sz->L k = .own src (y::rest)->(rest.length<m->L' k = .own d (q++(o0+o+y)::rest))/\(m<=rest.length->L' k = .au)
theorem aql[ae](hI:Inv w0 L0 N vs T a w L){o:Nat}{x:Operand}{b:Bd t}(h:(Mv C t o x).aj T b log):
  ∃cs,Form t cs (a.eval x)/\(∀v∈cs,v.oneCell'=true)/\cs.length=t.sz/\(∀s o' sz,(s,o',sz)∈b.ms->o'=o/\sz=t.sz/\∃n,T.getD s .dead = .d none n t b.x/\n≠0/\t.depth≠0)/\b.ms.length<=1 /\
   ∀(L':Nat->ak) (w':World) d q o0 m,(∀n,b.n=some n->m<=n)->(∀k,L k = .au->L' k = .au)->(∀k,L k ≠ .free->w'.heap[k]?=w.heap[k]?)->lx L L' d q o0 m b.ms ->
    Own w' L' (SL L' none) d m t b.x q (o0+o) cs:=by
 obtain⟨v,l1,l2,rfl,h1,h2⟩:=M.aq h;have wM:∀{L':Nat->ak} {w':World},(∀k,L k = .au->L' k = .au)->(∀k,L k ≠ .free->w'.heap[k]?=w.heap[k]?)->∀k,SL L none k->SL L' none k/\w'.heap[k]?=w.heap[k]?:=by
  intro L' w' hs hw k hk;rcases hk with hk|⟨_,_,hk,_⟩
  ·exact⟨.inl (hs k hk),hw k (by rw[hk];simp)⟩
  ·cases hk
 split at h2
 ·rename_i n t' y;split at h2
  ·rename_i ht;subst ht;have dK:∃s0,aB L T a.tmps s0 (.d none n t' y) w (a.eval x)/\(∀s,x = .tmp s->s0=s/\T.getD s .dead = .d none n t' y):=by
    have hc:∀{x:Operand},(cI C 0 x).aj T (.d none n t' y) l1->(∀s,x ≠ .tmp s)->∃s0,aB L T a.tmps s0 (.d none n t' y) w (a.eval x)/\(∀s,x = .tmp s->s0=s/\T.getD s .dead = .d none n t' y):=by
     intro x h1 hx;rcases ke hI h1 with⟨s,rfl,hv,hs⟩|⟨_,hs⟩
     ·exact absurd rfl (hx s)
     ·exact⟨0,hs _ _ _ _ _,λs he=>absurd he (hx s)⟩
    cases x with
    | tmp s =>
     obtain⟨_,_,hv,_⟩:=h1;refine⟨s,?_,λs' he=>by cases he;exact⟨rfl,hv.symm⟩⟩;rw[hv];exact hI.aX s
    | const c=>exact hc h1 (by simp)
    | func f=>exact hc h1 (by simp)
    | global g=>exact hc h1 (by simp)
   obtain⟨s0,⟨_,cs,hf,ho⟩,hx⟩:=dK;refine⟨cs,hf,Own.one ho,Own.len ho,?_⟩;split at h2
   ·rename_i hd;obtain⟨rfl,_⟩:=h2;refine⟨by simp,by simp,λL' w' d q o0 m _ hs hw _=>?_⟩;exact Own.flat hd ho
   ·rename_i hd;split at h2
    ·rename_i hn;subst hn;obtain⟨rfl,_⟩:=h2;refine⟨by simp,by simp,λL' w' d q o0 m hm hs hw _=>?_⟩;obtain rfl:m=0:=by have:=hm 0 rfl;omega
     exact Own.dM (Rd.move (wM hs hw) (Own.eH ho))
    ·rename_i hn;split at h2
     ·rename_i s;obtain⟨rfl,_⟩:=h2;obtain⟨rfl,hT⟩:=hx s rfl;refine⟨λs o' sz hm=>?_,by simp,λL' w' d q o0 m hm hs hw anv=>?_⟩
      ·simp only[List.mem_singleton,Prod.mk.injEq]at hm;obtain⟨rfl,rfl,rfl⟩:=hm;exact⟨rfl,rfl,n,hT,hn,hd⟩
      ·have hmn:m<=n\/t'.depth<=n:=by
        by_cases Yn:t'.depth<=n
        ·exact .inr Yn
        ·exact .inl (hm n (by simp[Yn]))
       obtain⟨k9,c9,ho9⟩:=Own.JI hmn ho;refine Own.ff c9 (wM hs hw) (λk i rest hi hk=>?_) ho9;have aL:L k = .own s0 (i::rest):=by simpa using hk
       have:=anv s0 o t'.sz (by simp) k i rest hi aL;exact⟨hw k (by rw[hk];simp),this.1,λh=>.inl (this.2 h)⟩
     ·exact h2.elim
  ·exact h2.elim
 ·exact h2.elim
theorem alx{place:Nat->Option (Nat×Nat)}{cells:Array Value}{i size:Nat}{v:Value}{rest:List (Nat×Value)}(hp:place i=some (off,size))(hs:v.cells.size=size)(hb:off+size<=cells.size):
  ∃cr,Instr.fill place cells ((i,v)::rest)=Instr.fill place cr rest/\cr.size=cells.size/\(cr.toList.drop off).take size=v.cells.toList /\
   ∀j,(j<off\/off+size<=j)->cr[j]?=cells[j]?:=by
 let cr:Array Value:=v.cells.zipIdx.foldl (λcs (c,j)=>cs.setIfInBounds (off+j) c) cells;have key:∀(l:List (Value×Nat)) (cs:Array Value),(l.foldl (λcs (c,j)=>cs.setIfInBounds (off+j) c) cs).size=cs.size:=by
  intro l;induction l with
  | nil=>intro cs;rfl
  | cons c l ih=>intro cs;simp only[List.foldl_cons];rw[ih];simp
 have out:∀(l:List (Value×Nat)) (cs:Array Value) (j:Nat),(∀c∈l,off+c.2≠j)->(l.foldl (λcs (c,j)=>cs.setIfInBounds (off+j) c) cs)[j]?=cs[j]?:=by
  intro l;induction l with
  | nil=>intro cs j _;rfl
  | cons c l ih =>
   intro cs j h;simp only[List.foldl_cons];rw[ih _ _ (λc' hc=>h c' (by simp[hc])),Array.getElem?_setIfInBounds,if_neg (h c (by simp))]
 have inn:∀(l:List Value) (b:Nat) (cs:Array Value),off+b+l.length<=cs.size->∀i,i<l.length->((l.zipIdx b).foldl (λcs (c,j)=>cs.setIfInBounds (off+j) c) cs)[off+b+i]?=l[i]?:=by
  intro l;induction l with
  | nil=>intro b cs _ i hi;simp at hi
  | cons c l ih =>
   intro b cs hb i hi;simp only[List.zipIdx_cons,List.foldl_cons];cases i with
   | zero =>
    rw[out]
    ·simp only[List.length_cons]at hb;simp[Array.getElem?_setIfInBounds];omega
    ·intro c' hc;have:=List.le_snd_of_mem_zipIdx hc;omega
   | succ i =>
    simp only[List.length_cons]at hb hi;have:=ih (b+1) (cs.setIfInBounds (off+b) c) (by simp;omega) i (by omega);rw[show off+(b+1)+i=off+b+(i+1)by omega]at this;rw[this];simp
 refine⟨cr,?_,?_,?_,?_⟩
 ·simp only[Instr.fill,hp];rw[if_neg (by simp only[Bool.or_eq_true,decide_eq_true_eq,ne_eq];omega)]
 ·show (v.cells.zipIdx.foldl _ cells).size=_;rw[<-Array.foldl_toList];exact key _ _
 ·apply List.ext_getElem?;intro j;rw[List.getElem?_take];split
  ·rename_i hj;rw[List.getElem?_drop];have:=inn v.cells.toList 0 cells (by simp;omega) j (by simp;omega);simp only[Nat.add_zero]at this;rw[<-this];show cr.toList[off+j]?=_;rw[Array.getElem?_toList];show (v.cells.zipIdx.foldl _ cells)[off+j]?=_;rw[<-Array.foldl_toList];congr 2;simp
  ·rw[List.getElem?_eq_none (by simp;omega)]
 ·intro j hj;show (v.cells.zipIdx.foldl _ cells)[j]?=_;rw[<-Array.foldl_toList];refine out _ _ _ (λc hc=>?_);have h2:c.2<v.cells.size:=by
   rw[Array.toList_zipIdx]at hc;have:=List.snd_lt_of_mem_zipIdx hc;simpa using this
  omega
end
def eU:Nat->List (Nat×Nat×Nat)->Prop
 | _,[]=>True
 | b,(_,o,sz)::ms=>b<=o/\eU (o+sz) ms
section
variable{P:Program}{C:Ctx}{w w' w0:World}{S S':Nat->Prop}{L L' L0:Nat->ak}{s N:Nat}{vs:List Nat}{T T':List V}{tm tm':Array Value}{a:Act}
def rR(T:List V)(lo hi:Nat)(n:Option Nat)(ms:List (Nat×Nat×Nat)):Prop :=
 ∀s o sz,(s,o,sz)∈ms->lo<=o/\o+sz<=hi/\∃m t x,T.getD s .dead = .d none m t x/\m≠0/\t.depth≠0/\t.sz=sz/\n=n
structure Fk (T:List V) (a:Act) (w:World) (L:Nat->ak) (place:Nat->Option (Nat×Nat)) (cells:Array Value) (dz:List (Nat×Value)) (o:Nat) (t:Ty) (b:Bd t) (cr:Array Value) (auY:List (Nat×Value)):Prop where
 fill:Instr.fill place cells dz=Instr.fill place cr auY
 size:cr.size=cells.size
 out:∀j,(j<o\/o+t.sz<=j)->cr[j]?=cells[j]?
 src:rR T o (o+t.sz) b.n b.ms
 qG:eU o b.ms
 own:∀(L':Nat->ak) (w':World) d q o0 m,(∀n,b.n=some n->m<=n)->(∀k,L k = .au->L' k = .au)->(∀k,L k ≠ .free->w'.heap[k]?=w.heap[k]?)->lx L L' d q o0 m b.ms ->
  Own w' L' (SL L' none) d m t b.x q (o0+o) ((cr.toList.drop o).take t.sz)
theorem Kf[ae](hI:Inv w0 L0 N vs T a w L){o:Nat}{parts xu:List (Nat×Operand)}{b:Bd t}(h:(pJ C i o t parts).aj T (b,xu) log)
  {place:Nat->Option (Nat×Nat)} {cells:Array Value} (hp:place i=some (o,t.sz)) (hz:(cells.toList.drop o).take t.sz=t.cq) (hb:o+t.sz<=cells.size) :
  ∃cr,Fk T a w L place cells (parts.map λp=>(p.1,a.eval p.2)) o t b cr (xu.map λp=>(p.1,a.eval p.2)):=by
 have hzero:∀{parts:List (Nat×Operand)},b=⟨t.zero,none,[]⟩->∃cr,Fk T a w L place cells (parts.map λp=>(p.1,a.eval p.2)) o t b cr (parts.map λp=>(p.1,a.eval p.2)):=by
  rintro parts rfl
  refine⟨cells,rfl,rfl,λ_ _=>rfl,?_,trivial,λL' w' d q o0 m _ _ _ _=>?_⟩
  ·intro s o sz h;cases h
  ·rw[hz];exact Own.zero
 unfold pJ at h;split at h
 ·rename_i j x rest;split at h
  ·rename_i hj;subst hj;obtain⟨b1,l1,l2,rfl,h1,h2⟩:=M.aq h;obtain⟨h2,_⟩:=h2;injection h2 with h2 h3;subst h2 h3;obtain⟨cs,hf,dY,hlen,da,nj,bA⟩:=aql hI h1;have hc:=Form.cells hf dY;obtain⟨cr,k1,k2,k3,k4⟩:=alx (rest:=xu.map λp=>(p.1,a.eval p.2)) hp (by rw[<-Array.length_toList,hc];exact hlen) hb;refine⟨cr,k1,k2,k4,λs o' sz hm=>?_,?_,λL' w' d q o0 m e1 e2 e3 e4=>?_⟩
   ·obtain⟨rfl,rfl,n,hT,hn,hd⟩:=da s o' sz hm;exact⟨Nat.le_refl _,Nat.le_refl _,n,t,_,hT,hn,hd,rfl,rfl⟩
   ·match hms:b.ms,nj with
    | [],_=>trivial
    | [(s,o',sz)],_ =>
     obtain⟨rfl,_⟩:=da s o' sz (by rw[hms];simp);exact⟨Nat.le_refl _,trivial⟩
   ·rw[k3,hc];exact bA L' w' d q o0 m e1 e2 e3 e4
  ·obtain⟨h,_⟩:=h;injection h with h1 h2;subst h2;exact hzero h1
 ·obtain⟨h,_⟩:=h;injection h with h1 h2;subst h2;exact hzero h1
theorem aa3{x y:Option Nat}(h:∀n,tg x y=some n->m<=n)(hx:x=some n):m<=n:=by
 subst hx;cases y with
 | none=>exact h n rfl
 | some k=>have:=h _ rfl;omega
theorem aa4{x y:Option Nat}(h:∀n,tg x y=some n->m<=n)(hy:y=some n):m<=n:=by
 subst hy;cases x with
 | none=>exact h n rfl
 | some k=>have:=h _ rfl;omega
theorem eU.append{oP:List (Nat×Nat×Nat)}{b c:Nat}(h:eU b ms)(hc:b<=c)(h1:∀s o sz,(s,o,sz)∈ms->o+sz<=c)(h2:eU c oP):eU b (ms++oP):=by
 induction ms generalizing b with
 | nil =>
  cases oP with
  | nil=>trivial
  | cons x l =>
   obtain⟨s,o,sz⟩:=x;exact⟨Nat.le_trans hc h2.1,h2.2⟩
 | cons x l ih =>
  obtain⟨s,o,sz⟩:=x;refine⟨h.1,ih h.2 (h1 s o sz (by simp)) (λs o sz hm=>h1 s o sz (by simp[hm]))⟩
theorem rR.mono{lo hi lZ sJ:Nat}{n n':Option Nat}(h:rR T lo hi n ms)(h1:lZ<=lo)(h2:hi<=sJ)(h3:∀k,n=some k->∃k',n'=some k'/\k'<=k):rR T lZ sJ n' ms:=by
 intro s o sz hm;obtain⟨e1,e2,m,t,x,e3,e4,e5,e6,_⟩:=h s o sz hm;exact⟨by omega,by omega,m,t,x,e3,e4,e5,e6,rfl⟩
theorem aa5{x y:Option Nat}(h:x=some k):∃k',tg x y=some k'/\k'<=k:=by
 subst h;cases y with
 | none=>exact⟨k,rfl,Nat.le_refl _⟩
 | some j=>exact⟨min k j,rfl,by omega⟩
theorem aa6{x y:Option Nat}(h:y=some k):∃k',tg x y=some k'/\k'<=k:=by
 subst h;cases x with
 | none=>exact⟨k,rfl,Nat.le_refl _⟩
 | some j=>exact⟨min j k,rfl,by omega⟩
theorem lx.left{o0:Nat}{oP:List (Nat×Nat×Nat)}(h:lx L L' d q o0 m (ms++oP)):lx L L' d q o0 m ms:=λs o sz hm=>h s o sz (List.mem_append_left _ hm)
theorem lx.right{o0:Nat}{oP:List (Nat×Nat×Nat)}(h:lx L L' d q o0 m (ms++oP)):lx L L' d q o0 m oP:=λs o sz hm=>h s o sz (List.mem_append_right _ hm)
theorem WH[ae](hI:Inv w0 L0 N vs T a w L){place:Nat->Option (Nat×Nat)}:{t:Ty}->{i o:Nat}->{parts:List (Nat×Operand)}->{b:Bd t}->{log:List Nat}->{cells:Array Value} ->
  (og C i o t parts).aj T b log->(∀j r,bC j t=some r->place (i+j)=some (o+r.1,r.2.sz))->(cells.toList.drop o).take t.sz=t.cq->o+t.sz<=cells.size ->
  ∃cr,Fk T a w L place cells (parts.map λp=>(p.1,a.eval p.2)) o t b cr []
 | .pair ta tb,i,o,parts,b,log,cells,h,hp,hz,hb=>by
  simp only[og]at h;obtain⟨⟨b1,xv⟩,l1,l2,rfl,h1,h2⟩:=M.aq h;obtain⟨r,l3,l4,rfl,h3,h4⟩:=M.aq h2;obtain⟨rfl,_⟩:=h4;simp only[Ty.sz,Ty.cq]at hb hz;have hza:(cells.toList.drop o).take ta.sz=ta.cq:=by
   have:=congrArg (List.take ta.sz) hz;rw[List.take_take,Nat.min_eq_left (by omega),List.take_left' (Ty.jy ta)]at this;exact this
  have hzb:(cells.toList.drop (o+ta.sz)).take tb.sz=tb.cq:=by
   have:=congrArg (List.drop ta.sz) hz;rw[List.drop_take,List.drop_drop,List.drop_left' (Ty.jy ta)]at this;rw[<-this];congr 1;omega
  obtain⟨c1,f1⟩:=Kf hI h1 (place:=place) (cells:=cells) (by have:=hp 0 _ rfl;simpa using this) hza (by omega);obtain⟨c2,f2⟩:=WH hI (place:=place) (cells:=c1) h3 (λj r hr=>by
   have:=hp (j+1) (ta.sz+r.1,r.2) (by simp[bC,hr]);rw[show i+1+j=i+(j+1)by omega,this];simp only[Option.some.injEq,Prod.mk.injEq,and_true];omega) (by
    rw[tJ (cur:=cells) (cur':=c1) (λi h1 h2=>f1.out i (by omega))];exact hzb) (by rw[f1.size];omega)
  refine⟨c2,f1.fill.trans f2.fill,f2.size.trans f1.size,λj hj=>?_,?_,?_,λL' w' d q o0 m e1 e2 e3 e4=>?_⟩
  ·simp only[Ty.sz]at hj;rw[f2.out j (by omega),f1.out j (by omega)]
  ·intro s o' sz hm;rcases List.mem_append.1 hm with hm|hm
   ·exact (f1.src.mono (Nat.le_refl _) (by simp only[Ty.sz];omega) (λk hk=>aa5 hk)) s o' sz hm
   ·exact (f2.src.mono (by omega) (by simp only[Ty.sz];omega) (λk hk=>aa6 hk)) s o' sz hm
  ·exact f1.qG.append (by omega) (λs o' sz hm=>(f1.src s o' sz hm).2.1) f2.qG
  ·simp only[Own,Ty.sz];refine⟨(c2.toList.drop o).take ta.sz,(c2.toList.drop (o+ta.sz)).take tb.sz,?_,?_,?_⟩
   ·rw[<-List.drop_drop,<-List.take_add]
   ·rw[tJ (cur:=c1) (cur':=c2) (λi h1 h2=>f2.out i (by omega))];exact f1.own L' w' d q o0 m (λn hn=>aa3 e1 hn) e2 e3 e4.left
   ·rw[Nat.add_assoc];exact f2.own L' w' d q o0 m (λn hn=>aa4 e1 hn) e2 e3 e4.right
 | .int _,i,o,parts,b,log,cells,h,hp,hz,hb | .bool,i,o,parts,b,log,cells,h,hp,hz,hb | .str,i,o,parts,b,log,cells,h,hp,hz,hb | .raw _,i,o,parts,b,log,cells,h,hp,hz,hb | .cap _ _,i,o,parts,b,log,cells,h,hp,hz,hb | .unit,i,o,parts,b,log,cells,h,hp,hz,hb | .agg _,i,o,parts,b,log,cells,h,hp,hz,hb | .slice _ _,i,o,parts,b,log,cells,h,hp,hz,hb=>by
  simp only[og]at h;obtain⟨⟨b1,xv⟩,l1,l2,rfl,h1,h2⟩:=M.aq h;simp only at h2;split at h2
  ·rename_i he;obtain⟨rfl,_⟩:=h2;have:xv=[]:=by simpa using he
   subst this;exact Kf hI h1 (place:=place) (cells:=cells) (by have:=hp 0 _ rfl;simpa using this) hz hb
  ·exact h2.elim
end
end Go.Proofs.YthfgcmoipebheaaGreat.P.Am
