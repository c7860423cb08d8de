/- A part of the proof: Am32,Am33,Am34,Am35,Am36,Am50,Am65,Am51,Am52,Am53. No conditions. -/
import Derived.Test.YthfgcmoipebheaaGreatPG7
import Derived.RowKit3
import Derived.ChangeSame
import Derived.Handed
import Derived.Sort.Grow
import Derived.Deep.Draws
import Derived.Shelf.GgSortFunc.InsertionK
import Derived.Shelf.SlSortCmp.NoneTotal
set_option linter.unusedVariables false
set_option linter.unusedSimpArgs false
namespace Go.Proofs.YthfgcmoipebheaaGreat.P.Am
variable{α:Type}{t:Ty}{k n:Nat}{a:Addr}{q:List Nat}{e:TypeId}{f:FuncId}{ps:List (Ty×Mode)}
abbrev vh:=List (Nat×Ty×Nat)
def xa:vh->TypeId->Option (Ty×Nat)
 | [],_=>none
 | (k,t)::l,T=>cond (k==T) (some t) (xa l T)
def mkCtx(oX:vh):Ctx:={ ty:=λT=>(xa oX T).map (·.1),bytes:=λT=>((xa oX T).map (·.2)).getD 0 }
def Ns:Value->Value->Bool
 | .int k n,.int k' n'=>k==k'&&n==n'
 | .bool b,.bool b'=>b==b'
 | .string s,.string s'=>s.size==0&&s'.size==0
 | .pointer none,.pointer none=>true
 | .nilFunc,.nilFunc=>true
 | .nilIface,.nilIface=>true
 | .slice none a b,.slice none a' b'=>a==a'&&b==b'
 | _,_=>false
def q5:List Value->List Value->Bool
 | [],[]=>true
 | a::l,b::l'=>Ns a b&&q5 l l'
 | _,_=>false
def eN(t:Ty)(z:Value):Bool:=match t with
 | .agg _=>match z with
  | .agg cs=>q5 t.cq cs.toList
  | _=>false
 | _=>q5 t.cq [z]
theorem WI{s:ByteArray}(h:(s.size==0)=true):s=ByteArray.empty:=by
 obtain⟨d⟩:=s;have:d.size=0:=by simpa[ByteArray.size]using h
 have:d=#[]:=Array.eq_empty_of_size_eq_zero this;rw[this];rfl
theorem au7[ae]{a b:Value}(h:Ns a b=true):a=b:=by
 unfold Ns at h;split at h
 ·simp only[Bool.and_eq_true,beq_iff_eq]at h;rw[h.1,h.2]
 ·simp only[beq_iff_eq]at h;rw[h]
 ·simp only[Bool.and_eq_true]at h;rw[WI h.1,WI h.2]
 ·rfl
 ·rfl
 ·rfl
 ·simp only[Bool.and_eq_true,beq_iff_eq]at h;rw[h.1,h.2]
 ·cases h
theorem Nt[ae]:{l l':List Value}->q5 l l'=true->l=l'
 | [],[],_=>rfl
 | a::l,b::l',h=>by
  simp only[q5,Bool.and_eq_true]at h;rw[au7 h.1,Nt h.2]
 | [],_::_,h=>by simp[q5]at h
 | _::_,[],h=>by simp[q5]at h
theorem alI[ae]{t:Ty}{z:Value}(h:eN t z=true):Form t t.cq z:=by
 unfold eN at h;split at h
 ·split at h
  ·rename_i cs;have:=Nt h;show Value.agg cs=_;rw[this]
  ·cases h
 ·have:=Nt h;cases t with
  | agg t=>rename_i hn;exact absurd rfl (hn t)
  | _=>exact this
def vC(C:Ctx)(t:Ty):Nat->List Field->Bool
 | i,[]=>(bC i t).isNone
 | i,f::l=>(match bC i t,C.ty f.type with
  | some (o, t1), some t2 => o == f.offset && decide (t1 = t2) && t1.sz != 0 && f.name != "_"
  | _,_=>false)&&vC C t (i+1) l
def vA(te:Ty)(t:Ty):Nat->Nat->Bool
 | k,0=>(bC (k+1) t).isNone
 | k,m+1=>(match bC (k+1) t with
  | some (o,t1)=>o==k*te.sz&&decide (t1=te)
  | none=>false)&&vA te t (k+1) m
theorem Xd{te:Ty}:{m k:Nat}->vA te t k m=true->(∀j,j<m->bC (k+j+1) t=some ((k+j)*te.sz,te))/\bC (k+m+1) t=none
 | 0,k,h=>⟨λj hj=>absurd hj (by omega),by simpa[vA]using h⟩
 | m+1,k,h=>by
  simp only[vA,Bool.and_eq_true]at h;obtain⟨h1,h2⟩:=h;obtain⟨h3,h4⟩:=Xd h2;refine⟨λj hj=>?_,by rw[show k+(m+1)+1=k+1+m+1 by omega];exact h4⟩;cases j with
  | zero =>
   split at h1
   ·rename_i o t1 hc;simp only[Bool.and_eq_true,beq_iff_eq,decide_eq_true_eq]at h1;obtain⟨rfl,rfl⟩:=h1;simpa using hc
   ·cases h1
  | succ j =>
   have:=h3 j (by omega)
   rwa [show k+1+j=k+(j+1)by omega]at this
def Ww(C:Ctx)(t:Ty)(n:Nat)(e:TypeId):Bool:=match C.ty e with
 | some te => !te.isAgg&&decide (2<=n)&&vA te t 0 n
 | none=>false
def Nf(P:Program)(C:Ctx)(T:TypeId)(t:Ty):Bool:=match t,P.underlying T with
 | .int k,some (.int k')=>k==k'
 | .bool,some .bool=>true
 | .str,some .string=>true
 | .raw _,some (.pointer _)=>true
 | .raw _,some (.func ..)=>true
 | .raw _,some (.interface _)=>true
 | .agg t',some (.struct fs) => !t'.eD&&(vC C t' 0 fs.toList && !P.stoodInHeld T && !P.eqGuardType P.depth T)
 | .agg t',some (.array n e)=>t'.eD&&Ww C t' n e
 | .slice e t',some (.slice e')=>e==e'&&decide (C.ty e=some t')
 | _,_=>false
def Nc(P:Program)(C:Ctx)(T:TypeId)(t:Ty):Bool:=(match P.info? T with
 | some i=>i.size==t.sz&&i.bytes==C.bytes T&&(match i.zero with
  | some z=>eN t z
  | none=>false)
 | none=>false)&&Nf P C T t
theorem WU{t:Ty}:{i:Nat}->bC i t=none->∀j,i<=j->bC j t=none:=by
 have step:∀(i:Nat) (t:Ty),bC i t=none->bC (i+1) t=none:=by
  intro i;induction i with
  | zero=>intro t h;cases t<;>simp[bC]at h
  | succ i ih =>
   intro t h;cases t with
   | pair a b =>
    simp only[bC,Option.map_eq_none_iff]at h ⊢;exact ih b h
   | _=>rfl
 intro i h j hj;induction hj with
 | refl=>exact h
 | step _ ih=>exact step _ _ ih
theorem Xj{C : Ctx}:{i : Nat} -> {l : List Field} -> vC C t i l = true -> (∀ (j : Nat) (f : Field), l[j]? = some f -> ∃ t1, bC (i + j) t = some (f.offset, t1) /\ C.ty f.type = some t1 /\ t1.sz ≠ 0 /\ f.name ≠ "_") /\ bC (i + l.length) t = none
 | i,[],h=>⟨λj f hj=>by simp at hj,by simpa[vC]using h⟩
 | i,f::l,h=>by
  simp only[vC,Bool.and_eq_true]at h;obtain⟨h1,h2⟩:=h;obtain⟨h3,h4⟩:=Xj h2;refine⟨λj f' hj=>?_,by rw[List.length_cons,show i+(l.length+1)=i+1+l.length by omega];exact h4⟩;cases j with
  | zero =>
   simp only[List.getElem?_cons_zero,Option.some.injEq]at hj;subst hj;split at h1
   ·rename_i o t1 t2 hc ht;simp only[Bool.and_eq_true,beq_iff_eq,decide_eq_true_eq,bne_iff_ne]at h1;obtain⟨⟨⟨rfl,rfl⟩,h5⟩,h6⟩:=h1;exact⟨t1,by rw[Nat.add_zero];exact hc,ht,h5,h6⟩
   ·cases h1
  | succ j =>
   have:=h3 j f' (by simpa using hj)
   rwa [show i+1+j=i+(j+1)by omega]at this
theorem auQ[ae]{P:Program}{C:Ctx}{T:TypeId}:Nf P C T t=true->match t with
  | .int k=>P.underlying T=some (.int k)
  | .bool=>P.underlying T=some .bool
  | .str=>P.underlying T=some .string
  | .raw _=>∃d,P.underlying T=some d/\(∀fs,d ≠ .struct fs)/\∀n e,d ≠ .array n e
  | .agg t'=>(t'.eD=false/\(∃fs,P.underlying T=some (.struct fs)/\Kg C t' fs)/\P.stoodInHeld T=false/\P.eqGuardType P.depth T=false)\/(t'.eD=true/\Nx P C T t')
  | .slice e t'=>P.underlying T=some (.slice e)/\C.ty e=some t'
  | _=>False:=by
 intro h;unfold Nf at h;split at h
 ·rename_i hu;rw[beq_iff_eq]at h;subst h;exact hu
 ·assumption
 ·assumption
 ·rename_i hu;exact⟨_,hu,by simp,by simp⟩
 ·rename_i hu;exact⟨_,hu,by simp,by simp⟩
 ·rename_i hu;exact⟨_,hu,by simp,by simp⟩
 ·rename_i t' fs hu;simp only[Bool.and_eq_true,Bool.not_eq_true']at h;obtain⟨h0,⟨h1,h2⟩,h3⟩:=h;obtain⟨h4,h5⟩:=Xj h1;refine .inl ⟨h0,⟨fs,hu,λi f hf=>?_,λi r hr=>?_⟩,h2,h3⟩
  ·have:=h4 i f (by simpa using hf)
   rwa [Nat.zero_add]at this
  ·rcases Nat.lt_or_ge i fs.size with h|h
   ·exact h
   ·rw[Nat.zero_add,Array.length_toList]at h5;rw[WU h5 i h]at hr;cases hr
 ·rename_i t' n e hu;simp only[Bool.and_eq_true]at h;obtain⟨h0,h1⟩:=h;unfold Ww at h1;split at h1
  ·rename_i te gj;simp only[Bool.and_eq_true,Bool.not_eq_true',decide_eq_true_eq]at h1;obtain⟨⟨h2,h3⟩,h4⟩:=h1;obtain⟨h5,h6⟩:=Xd h4;refine .inr ⟨h0,n,e,te,hu,gj,h2,h3,λk hk=>?_,λk r hr=>?_⟩
   ·have:=h5 k hk;simpa using this
   ·rcases Nat.lt_or_ge k n with h|h
    ·exact h
    ·rw[Nat.zero_add]at h6;rw[WU h6 (k+1) (by omega)]at hr;cases hr
  ·cases h1
 ·rename_i hu;simp only[Bool.and_eq_true,beq_iff_eq,decide_eq_true_eq]at h;obtain⟨rfl,h2⟩:=h;exact⟨hu,h2⟩
 ·cases h
theorem auP[ae]{P:Program}{C:Ctx}{T:TypeId}{t:Ty}(h:Nc P C T t=true):iP P C T t:=by
 unfold Nc at h;simp only[Bool.and_eq_true]at h;obtain⟨h1,h2⟩:=h;refine⟨?_,by have h3:=auQ h2;cases t<;>exact h3⟩;split at h1
 ·rename_i i hi;simp only[Bool.and_eq_true,beq_iff_eq]at h1;obtain⟨⟨h3,h4⟩,h5⟩:=h1;split at h5
  ·rename_i z hz;exact⟨i,z,hi,h3,h4,hz,alI h5⟩
  ·cases h5
 ·cases h1
theorem aaU{T:TypeId}{p:Ty×Nat}:{l:vh}->xa l T=some p->(T,p)∈l
 | [],h=>by cases h
 | (k,t)::l,h=>by
  simp only[xa]at h;cases hk:k==T with
  | true =>
   rw[hk]at h;injection h with h;rw[beq_iff_eq]at hk;subst h hk;simp
  | false =>
   rw[hk]at h;exact List.mem_cons_of_mem _ (aaU h)
theorem alp[ae]{P:Program}{oX:vh}(h:oX.all (λp=>Nc P (mkCtx oX) p.1 p.2.1)=true):bF P (mkCtx oX):=by
 intro T t ht;obtain⟨p,hp,rfl⟩:=Option.map_eq_some_iff.1 ht;rw[List.all_eq_true]at h;exact auP (h _ (aaU hp))
def cF:(t:Ty)->t.den->Prop
 | .int k,x=>k.min<=x/\x<=k.max
 | .bool,_=>True
 | .str,x=>(x:ByteArray).size<=maxLen
 | .raw _,_=>True
 | .cap _ _,_=>True
 | .unit,_=>True
 | .pair a b,x=>cF a x.1/\cF b x.2
 | .agg t,x=>cF t x
 | .slice _ t,xs=>(xs:List t.den).length<=maxLen/\∀x∈(xs:List t.den),cF t x
def Ty.flat:Ty->Bool
 | .raw _=>false
 | .cap _ _=>false
 | .unit=>false
 | .pair a b=>a.flat&&b.flat
 | .agg t=>t.flat
 | .slice _ t=>t.flat
 | _=>true
theorem Kn(h:(Ty.agg t).flat=true):t.eD=false:=by
 cases cV:t.eD with
 | false=>rfl
 | true =>
  unfold Ty.eD at cV;split at cV
  ·simp[Ty.flat]at h
  ·cases cV
theorem Dm:{t:Ty}->t.flat=true->0<t.sz
 | .int _,_ | .bool,_ | .str,_ | .slice _ _,_=>by simp[Ty.sz]
 | .raw _,h | .cap _ _,h | .unit,h=>by simp[Ty.flat]at h
 | .pair a b,h=>by
  simp only[Ty.flat,Bool.and_eq_true]at h;have:=Dm h.1;simp only[Ty.sz];omega
 | .agg t,h=>by simp only[Ty.flat]at h;simpa[Ty.sz]using Dm h
theorem Km:{i:Nat}->{t:Ty}->{o:Nat}->{t1:Ty}->bC i t=some (o,t1)->t.flat=true->t1.flat=true
 | 0,.pair a b,o,t1,h,hf=>by simp only[bC,Option.some.injEq,Prod.mk.injEq]at h;obtain⟨rfl,rfl⟩:=h;simp only[Ty.flat,Bool.and_eq_true]at hf;exact hf.1
 | i+1,.pair a b,o,t1,h,hf=>by
  simp only[bC,Option.map_eq_some_iff]at h;obtain⟨⟨o2,t2⟩,h,he⟩:=h;simp only[Prod.mk.injEq]at he;obtain⟨rfl,rfl⟩:=he;simp only[Ty.flat,Bool.and_eq_true]at hf;exact Km h hf.2
 | 0,.int _,_,_,h,hf|0,.bool,_,_,h,hf|0,.str,_,_,h,hf|0,.raw _,_,_,h,hf|0,.cap _ _,_,_,h,hf|0,.unit,_,_,h,hf|0,.agg _,_,_,h,hf|0,.slice _ _,_,_,h,hf=>by
  simp only[bC,Option.some.injEq,Prod.mk.injEq]at h;obtain⟨rfl,rfl⟩:=h;exact hf
def Good(w:World)(t:Ty)(cs:List Value):Prop:=∃x:t.den,Rd w (λk=>k<w.heap.size) t x cs/\cF t x
theorem XQ{w:World}:{t:Ty}->{cs:List Value}->cs.length=t.sz->t ≠ .unit->(∀j r,bC j t=some r->Good w r.2 ((cs.drop r.1).take r.2.sz))->Good w t cs
 | .pair a b,cs,hl,_,h=>by
  obtain⟨x,hx,wx⟩:=h 0 (0,a) rfl;simp only[Ty.sz]at hl;by_cases hb:b = .unit
  ·subst hb;refine⟨(x,()),?_,wx,trivial⟩;simp only[Rd];refine⟨cs,[],by simp,?_,rfl⟩;simp only[List.drop_zero]at hx;rw[List.take_of_length_le (by simp[Ty.sz]at hl;omega)]at hx;exact hx
  ·obtain⟨y,hy,wy⟩:=XQ (t:=b) (cs:=cs.drop a.sz) (by simp;omega) hb (λj r hr=>by
    have:=h (j+1) (a.sz+r.1,r.2) (by simp[bC,hr])
    rwa [<-List.drop_drop]at this)
   refine⟨(x,y),?_,wx,wy⟩;simp only[Rd];exact⟨cs.take a.sz,cs.drop a.sz,by simp,by simpa using hx,hy⟩
 | .int _,cs,hl,_,h | .bool,cs,hl,_,h | .str,cs,hl,_,h | .raw _,cs,hl,_,h | .cap _ _,cs,hl,_,h | .agg _,cs,hl,_,h | .slice _ _,cs,hl,_,h=>by
  have:=h 0 _ rfl;simp only[List.drop_zero]at this
  rwa [List.take_of_length_le (Nat.le_of_eq hl)]at this
 | .unit,cs,_,hu,_=>absurd rfl hu
theorem Ee{β:Type}{f:α->Option β}:{l:List α}->{ys:List β}->l.mapM f=some ys->ys.length=l.length/\∀i (h:i<l.length),∃y,f l[i]=some y/\ys[i]?=some y
 | [],ys,h=>by simp at h;subst h;exact⟨rfl,λi h=>absurd h (by simp)⟩
 | a::l,ys,h=>by
  simp only[List.mapM_cons,Option.bind_eq_bind,Option.bind_eq_some_iff,Option.pure_def,Option.some.injEq]at h;obtain⟨y,hy,Nq,qb,rfl⟩:=h;obtain⟨h1,h2⟩:=Ee qb;refine⟨by simp[h1],λi hi=>?_⟩;cases i with
  | zero=>exact⟨y,hy,rfl⟩
  | succ i =>
   obtain⟨z,hz,dq⟩:=h2 i (by simpa using hi);exact⟨z,by simpa using hz,by simpa using dq⟩
theorem WR{Q:Nat->α->Prop}:{n:Nat}->(∀i,i<n->∃x,Q i x)->∃xs:List α,xs.length=n/\∀i (h:i<xs.length),Q i xs[i]
 | 0,_=>⟨[],rfl,λi h=>absurd h (by simp)⟩
 | n+1,h=>by
  obtain⟨xs,hl,hq⟩:=WR (n:=n) (λi hi=>h i (by omega));obtain⟨x,hx⟩:=h n (by omega);refine⟨xs++[x],by simp[hl],λi hi=>?_⟩;by_cases ga:i<xs.length
  ·rw[List.getElem_append_left ga];exact hq i ga
  ·have:i=n:=by simp at hi;omega
   subst this;rw[List.getElem_append_right (by omega)];simpa using hx
theorem WN[ae]{w:World}{base:Nat}{es:List Value}(h:w.cells? base a n=some es):es.length=n/\∀i v,es[i]?=some v->w.cell? (a.add i)=some v:=by
 unfold World.cells? at h;split at h
 ·obtain⟨h1,h2⟩:=Ee h;simp only[List.length_range]at h1;refine⟨h1,λi v hv=>?_⟩;obtain⟨hi,_⟩:=List.getElem?_eq_some_iff.1 hv;obtain⟨y,hy,sV⟩:=h2 i (by simpa using by omega);rw[hv]at sV;injection sV with sV;subst sV;simpa using hy
 ·cases h
theorem WM{w:World}{v:Value}(h:w.cell? a=some v):a.block<w.heap.size/\a.spot=none:=by
 unfold World.cell? at h;split at h
 ·rename_i c _ _ hh;split at h
  ·cases h
  ·rename_i hs;exact⟨(Array.getElem?_eq_some_iff.1 hh).1,by simpa using hs⟩
 ·cases h
theorem add_add(a:Addr)(i j:Nat)(h:a.spot=none):(a.add i).add j=⟨a.block,a.off+(i+j),none⟩:=by
 obtain⟨b,o,s⟩:=a;subst h;unfold Addr.add;split<;>split<;>simp_all<;>omega
section
variable{H:Type}{enc:TypeId×Value->H}{P:Program}{C:Ctx}{w:World}{base:Nat}{spare:Nat->Bool}{held:Bool}
theorem trod_slice{fuel:Nat}{X:TypeId}{cs:List Value}{r:DataW H×List MemPlace}(hu:P.underlying X=some (.slice e))(h:DataW.trod enc P w base spare held (fuel+1) X cs=some r):
  cs=[.slice none 0 0]\/∃a len cap elems,cs=[.slice (some a) len cap]/\len<=cap/\cap<=maxLen /\
   (List.range len).mapM (λi=>(w.cells? base (a.add (i*P.cellsOf e)) (P.cellsOf e)).bind (DataW.trod enc P w base spare held fuel e))=some elems:=by
 simp only[DataW.trod,hu]at h;rcases cs with _|⟨c,_|⟨c2,cs⟩⟩
 ·simp at h
 ·cases c with
  | slice A len cap =>
   cases A with
   | none =>
    rcases len with _|len<;>rcases cap with _|cap<;>simp at h ⊢
   | some a =>
    right;dsimp only at h;split at h
    ·rename_i hc;obtain⟨elems,h1,_⟩:=Option.bind_eq_some_iff.1 h;exact⟨a,len,cap,elems,rfl,hc.2.1,hc.2.2,h1⟩
    ·cases h
  | _=>simp at h
 ·simp at h
theorem trod_good[ae](hC:bF P C):∀(fuel:Nat) (t:Ty) (X:TypeId) (cs:List Value) (r:DataW H×List MemPlace),C.ty X=some t->t.flat=true->DataW.trod enc P w base spare held fuel X cs=some r->Good w t cs:=by
 intro fuel;induction fuel with
 | zero=>intro t X cs r _ _ h;simp[DataW.trod]at h
 | succ fuel ih =>
  intro t X cs r hX hf h;have p8:=hC X t hX;have hu:=p8.b7;obtain⟨inf,z,v7,ep,_⟩:=p8.info;have KF:P.cellsOf X=t.sz:=by simp[Program.cellsOf,v7,ep]
  cases t with
  | int k =>
   simp only[DataW.trod]at h;rw[hu]at h;split at h<;>simp_all;obtain⟨h1,_⟩:=h;obtain⟨rfl,h1⟩:=h1;simp only[Lit.wf,Bool.and_eq_true,decide_eq_true_eq]at h1;exact⟨_,show _=_ from rfl,h1⟩
  | bool =>
   simp only[DataW.trod]at h;rw[hu]at h;split at h<;>simp_all;exact⟨_,show _=_ from rfl,trivial⟩
  | str =>
   simp only[DataW.trod]at h;rw[hu]at h;split at h<;>simp_all;exact⟨_,show _=_ from rfl,h.1⟩
  | raw z=>simp[Ty.flat]at hf
  | cap k0 t0=>simp[Ty.flat]at hf
  | unit=>simp[Ty.flat]at hf
  | pair a b=>exact hu.elim
  | slice e te =>
   obtain⟨hu,he⟩:=hu;have vW:te.flat=true:=hf;have vO:P.cellsOf e=te.sz:=by
    obtain⟨Zf,z',v8,we,_⟩:=(hC e te he).info;simp[Program.cellsOf,v8,we]
   have K2:=Dm vW;rcases trod_slice hu h with rfl|⟨a,len,cap,elems,rfl,YA,DF,h1⟩
   ·exact⟨[],by simp only[Rd];exact⟨none,0,rfl,by simp,by simp,by simp⟩,by simp[cF,maxLen]⟩
   ·rw[vO]at h1;obtain⟨h2,h3⟩:=Ee h1;have mZ:∀i,i<len->∃es,w.cells? base (a.add (i*te.sz)) te.sz=some es/\Good w te es:=by
     intro i hi;obtain⟨y,hy,_⟩:=h3 i (by simpa using hi);simp only[List.getElem_range]at hy;obtain⟨es,nc,hy⟩:=Option.bind_eq_some_iff.1 hy;exact⟨es,nc,ih te _ es y he vW hy⟩
    obtain⟨xs,oL,jg⟩:=WR (Q:=λi x=>∃es,w.cells? base (a.add (i*te.sz)) te.sz=some es/\Rd w (λk=>k<w.heap.size) te x es/\cF te x) (n:=len) (λi hi=>by
     obtain⟨es,nc,x,hx,wx⟩:=mZ i hi;exact⟨x,es,nc,hx,wx⟩)
    refine⟨xs,?_,?_⟩
    ·simp only[Rd];refine⟨some a,cap,by rw[oL],by rw[oL];exact YA,by simp,λbm=>?_⟩;have h0:0<xs.length:=List.length_pos_iff.2 bm;obtain⟨es,nc,_⟩:=jg 0 h0;obtain⟨jQ,sG⟩:=WN nc;obtain⟨v0,Lg⟩:∃v,es[0]?=some v:=⟨_,List.getElem?_eq_getElem (by omega)⟩;obtain⟨ax,wK⟩:=WM (sG 0 v0 Lg);have anl:a.spot=none:=by simpa[Addr.add]using wK
     have hblk:a.block<w.heap.size:=by simpa[Addr.add]using ax
     refine⟨a.block,a.off,by obtain⟨b,o,s⟩:=a;simp_all,hblk,λj hj=>?_⟩;obtain⟨es,nc,bD,_⟩:=jg j hj;refine⟨es,bD,λi v hv=>?_⟩;have:=(WN nc).2 i v hv
     rwa [add_add a _ _ anl]at this
    ·refine⟨by rw[oL];omega,λx hx=>?_⟩;obtain⟨i,hi,rfl⟩:=List.mem_iff_getElem.1 hx;obtain⟨es,_,_,wx⟩:=jg i hi;exact wx
  | agg t' =>
   obtain⟨⟨fs,hu,ng,iw⟩,_⟩:=(hC X _ hX).str (Kn hf);simp only[DataW.trod]at h;rw[hu]at h;have h':(if cs.length=P.cellsOf X then (fs.toList.mapM λf=>DataW.trod enc P w base spare held fuel f.type ((cs.drop f.offset).take (P.cellsOf f.type))).map λxs=>(DataW.agg (xs.map (·.1)),xs.flatMap (·.2))else none)=some r:=by
    split at h<;>simp_all
   clear h;split at h'
   ·rename_i hl;obtain⟨xs,jg,_⟩:=Option.map_eq_some_iff.1 h';obtain⟨_,h3⟩:=Ee jg;have DK:t'.flat=true:=hf;have bm:t' ≠ .unit:=by rintro rfl;simp[Ty.flat]at DK
    have dQ:cs.length=t'.sz:=by rw[hl,KF];rfl
    have:Good w t' cs:=XQ dQ bm (λj r hr=>by
     have ax:=iw j r hr;obtain⟨t1,e1,e2,_⟩:=ng j fs[j] (Array.getElem?_eq_getElem ax);rw[hr]at e1;injection e1 with e1;subst e1;obtain⟨y,hy,_⟩:=h3 j (by simpa using ax);simp only[Array.getElem_toList]at hy;obtain⟨Zf,z',v8,we,_⟩:=(hC _ _ e2).info;have vO:P.cellsOf fs[j].type=t1.sz:=by simp[Program.cellsOf,v8,we]
     rw[vO]at hy;exact ih t1 _ _ y e2 (Km hr DK) hy)
    obtain⟨x,hx,wx⟩:=this;exact⟨x,by simp only[Rd];exact hx,wx⟩
   ·cases h'
end
theorem mapM_congr{β:Type}{f g:α->Option β}:{l:List α}->{ys:List β}->l.mapM f=some ys->(∀a y,f a=some y->y∈ys->g a=some y)->l.mapM g=some ys
 | [],ys,h,_=>by simpa using h
 | a::l,ys,h,H=>by
  simp only[List.mapM_cons,Option.bind_eq_bind,Option.bind_eq_some_iff,Option.pure_def,Option.some.injEq]at h;obtain⟨y,hy,Nq,qb,rfl⟩:=h;have h1:=H a y hy (by simp);have h2:=mapM_congr qb (λa y ha hm=>H a y ha (by simp[hm]));simp[h1,h2]
section
variable{H:Type}{enc:TypeId×Value->H}{P:Program}{C:Ctx}{w w':World}{base:Nat}{sp:Nat->Bool}{held:Bool}
theorem alo[ae](hH:∀k,k<w.heap.size->w'.heap[k]?=w.heap[k]?){es:List Value}(h:w.cells? base a n=some es):w'.cells? base a n=some es:=by
 unfold World.cells? at h ⊢;split at h
 ·rename_i hb;rw[if_pos hb];refine mapM_congr h (λi v hv _=>?_);have:=(WM hv).1;rw[World.cell?_of_block (hH _ this)];exact hv
 ·cases h
theorem aqX{a:Addr}{i:Nat}(h:i<n):∃p∈MemPlace.row a n,p.block=a.block:=by
 unfold MemPlace.row;exact⟨_,List.mem_map.2 ⟨i,by simpa using h,rfl⟩,by simp[MemPlace.block]⟩
theorem asf{fuel:Nat}{X:TypeId}{len cap:Nat}{r:DataW H×List MemPlace}{sp:Nat->Bool}(hu:P.underlying X=some (.slice e))(h:DataW.trod enc P w base sp held (fuel+1) X [.slice (some a) len cap]=some r):
  (base<=a.block/\len<=cap/\cap<=maxLen)/\∃elems rest,(List.range len).mapM (λi=>(w.cells? base (a.add (i*P.cellsOf e)) (P.cellsOf e)).bind (DataW.trod enc P w base sp held fuel e))=some elems /\
   (if sp a.block=true then (List.range (cap - len)).mapM (λj=>(w.cells? base (a.add ((len+j)*P.cellsOf e)) (P.cellsOf e)).bind (DataW.trod enc P w base sp held fuel e))else some [])=some rest /\
   r=(.slice (elems.map (·.1)) (rest.map (·.1)),MemPlace.row a ((elems.length+rest.length)*P.cellsOf e)++(elems++rest).flatMap (·.2)):=by
 simp only[DataW.trod,hu]at h;split at h
 ·rename_i hc;obtain⟨elems,h1,h2⟩:=Option.bind_eq_some_iff.1 h;obtain⟨rest,h3,h4⟩:=Option.map_eq_some_iff.1 h2;exact⟨hc,elems,rest,h1,h3,h4.symm⟩
 ·cases h
theorem ase[ae](hC:bF P C)(hH:∀k,k<w.heap.size->w'.heap[k]?=w.heap[k]?):∀(fuel:Nat) (t:Ty) (X:TypeId) (cs:List Value) (r:DataW H×List MemPlace),C.ty X=some t->t.flat=true ->
  DataW.trod enc P w base (λ_=>true) held fuel X cs=some r->(∀p∈r.2,sp p.block=true)->DataW.trod enc P w' base sp held fuel X cs=some r:=by
 intro fuel;induction fuel with
 | zero=>intro t X cs r _ _ h;simp[DataW.trod]at h
 | succ fuel ih =>
  intro t X cs r hX hf h hs;have hu:=(hC X t hX).b7;cases t with
  | int k =>
   simp only[DataW.trod,hu]at h ⊢;rcases cs with _|⟨c,_|⟨c2,cs⟩⟩
   ·simp at h
   ·cases c<;>simp at h ⊢<;>exact h
   ·simp at h
  | bool =>
   simp only[DataW.trod,hu]at h ⊢;rcases cs with _|⟨c,_|⟨c2,cs⟩⟩
   ·simp at h
   ·cases c<;>simp at h ⊢<;>exact h
   ·simp at h
  | str =>
   simp only[DataW.trod,hu]at h ⊢;rcases cs with _|⟨c,_|⟨c2,cs⟩⟩
   ·simp at h
   ·cases c<;>simp at h ⊢<;>exact h
   ·simp at h
  | raw z=>simp[Ty.flat]at hf
  | cap k0 t0=>simp[Ty.flat]at hf
  | unit=>simp[Ty.flat]at hf
  | pair a b=>exact hu.elim
  | slice e te =>
   obtain⟨hu,he⟩:=hu;have vW:te.flat=true:=hf;have vO:P.cellsOf e=te.sz:=by
    obtain⟨Zf,z',v8,we,_⟩:=(hC e te he).info;simp[Program.cellsOf,v8,we]
   have K2:=Dm vW;rcases trod_slice hu h with rfl|⟨a,len,cap,_,rfl,_,_,_⟩
   ·simp only[DataW.trod,hu]at h ⊢;simpa using h
   ·obtain⟨hc,elems,rest,h1,h2,rfl⟩:=asf hu h;rw[if_pos rfl]at h2;have wN:∀(i:Nat) (y:DataW H×List MemPlace),((w.cells? base (a.add (i*P.cellsOf e)) (P.cellsOf e)).bind (DataW.trod enc P w base (λ_=>true) held fuel e))=some y->(∀p∈y.2,sp p.block=true) ->
      ((w'.cells? base (a.add (i*P.cellsOf e)) (P.cellsOf e)).bind (DataW.trod enc P w' base sp held fuel e))=some y:=by
     intro i y hy hp;obtain⟨es,nc,hy⟩:=Option.bind_eq_some_iff.1 hy;rw[alo hH nc];exact ih te e es y he vW hy hp
    have gb:∀y,(y∈elems\/y∈rest)->∀p∈y.2,sp p.block=true:=λy hy p hp=>hs p (by
     simp only[List.mem_append,List.mem_flatMap];exact .inr ⟨y,hy,hp⟩)
    have g1:=mapM_congr h1 (λi y hy hm=>wN i y hy (gb y (.inl hm)));have g2:=mapM_congr h2 (λj y hy hm=>wN (len+j) y hy (gb y (.inr hm)));simp only[DataW.trod,hu];rw[if_pos hc,g1,Option.bind_some];by_cases wK:sp a.block=true
    ·rw[if_pos wK,g2];rfl
    ·have hz:elems.length+rest.length=0:=by
      apply Classical.byContradiction;intro bm;have:0<(elems.length+rest.length)*P.cellsOf e:=by rw[vO];exact Nat.mul_pos (by omega) K2
      obtain⟨p,hp,hb⟩:=aqX (a:=a) this;exact wK (by rw[<-hb];exact hs p (List.mem_append_left _ hp))
     have:rest=[]:=List.eq_nil_of_length_eq_zero (by omega);subst this;rw[if_neg wK];rfl
  | agg t' =>
   obtain⟨⟨fs,hu,ng,iw⟩,_⟩:=(hC X _ hX).str (Kn hf);simp only[DataW.trod,hu]at h ⊢;split at h
   ·rename_i hl;rw[if_pos hl];obtain⟨xs,jg,rfl⟩:=Option.map_eq_some_iff.1 h;have DK:t'.flat=true:=hf;have:fs.toList.mapM (λf=>DataW.trod enc P w' base sp held fuel f.type ((cs.drop f.offset).take (P.cellsOf f.type)))=some xs:=by
     have gen:∀(l:List Field) (xs:List (DataW H×List MemPlace)),(∀f∈l,f∈fs.toList)->l.mapM (λf=>DataW.trod enc P w base (λ_=>true) held fuel f.type ((cs.drop f.offset).take (P.cellsOf f.type)))=some xs->(∀y∈xs,∀p∈y.2,sp p.block=true) ->
       l.mapM (λf=>DataW.trod enc P w' base sp held fuel f.type ((cs.drop f.offset).take (P.cellsOf f.type)))=some xs:=by
      intro l;induction l with
      | nil=>intro xs _ h _;simpa using h
      | cons f l ihl =>
       intro xs Y5 h hp;simp only[List.mapM_cons,Option.bind_eq_bind,Option.bind_eq_some_iff,Option.pure_def,Option.some.injEq]at h;obtain⟨y,hy,Nq,qb,rfl⟩:=h;obtain⟨j,hj⟩:=List.mem_iff_getElem?.1 (Y5 f (by simp));obtain⟨t1,e1,e2,_⟩:=ng j f (by simpa using hj);have g1:=ih t1 _ _ y e2 (Km e1 DK) hy (hp y (by simp));have g2:=ihl Nq (λf hf=>Y5 f (by simp[hf])) qb (λz hz=>hp z (by simp[hz]));simp[g1,g2]
     exact gen _ _ (λ_ h=>h) jg (λy hy p hp=>hs p (by
      simp only[List.mem_flatMap];exact⟨y,hy,hp⟩))
    rw[this];rfl
   ·cases h
end
open Go.ChangeShapes Go.WideShapes
section
variable{H:Type}{enc:TypeId×Value->H}{P:Program}{C:Ctx}{w w':World}
theorem aqh[ae](hC:bF P C){X:TypeId}{t:Ty}{v:Value}{base:Nat}(hX:C.ty X=some t)(hf:t.flat=true)(aH:Value.okWide P w .any base X v):Form t v.cells.toList v:=by
 have hu:=(hC X t hX).b7;unfold Value.okWide at aH;cases t with
 | agg t' =>
  obtain⟨⟨fs,hu,_⟩,_⟩:=(hC X _ hX).str (Kn hf);rw[hu]at aH;obtain⟨cs,rfl,_⟩:=aH;simp[Form,Value.cells]
 | int k =>
  rw[hu]at aH;cases v<;>simp[Cell.okWide,Cell.ok,hu]at aH;rfl
 | bool =>
  rw[hu]at aH;cases v<;>simp[Cell.okWide,Cell.ok,hu]at aH;rfl
 | str =>
  rw[hu]at aH;cases v<;>simp[Cell.okWide,Cell.ok,hu]at aH;rfl
 | slice e te =>
  obtain⟨hu,_⟩:=hu;rw[hu]at aH;cases v<;>simp[Cell.okWide,Cell.ok,hu]at aH;rfl
 | raw z=>simp[Ty.flat]at hf
 | cap k0 t0=>simp[Ty.flat]at hf
 | unit=>simp[Ty.flat]at hf
 | pair a b=>exact hu.elim
def hR(C:Ctx):List TypeId->List (Ty×Mode)->Bool
 | [],[]=>true
 | X::Xs,(t,.ro)::ps=>decide (C.ty X=some t)&&t.flat&&hR C Xs ps
 | _,_=>false
def jX(w:World):Nat->ak:=λk=>if k<w.heap.size then .au else .free
theorem Wu[ae](hC:bF P C){base:Nat}:{Xs:List TypeId}->{ps:List (Ty×Mode)}->{vs:List Value}->{ds:List (DataW H)}->{p:List MemPlace}->{i:Nat}->hR C Xs ps=true ->
  (∀(j:Nat) t v,Xs[j]?=some t->vs[j]?=some v->Value.okWide P w .any base t v)->DataW.TrodAll enc P w 0 (λ_=>true) true Xs vs ds p->∃x,dT w (jX w) i ps x vs/\cF (dn ps) x
 | [],[],vs,ds,p,i,_,_,h=>by
  obtain⟨rfl,_⟩:=trodAll_nil h;exact⟨(),rfl,trivial⟩
 | X::Xs,(t,.ro)::ps,vs,ds,p,i,hb,aH,h=>by
  simp only[hR,Bool.and_eq_true,decide_eq_true_eq]at hb;obtain⟨⟨hX,hf⟩,hb⟩:=hb;obtain⟨v,Ng,d,Xa,a,b,rfl,rfl,rfl,⟨fuel,h1⟩,h2⟩:=trodAll_cons h;obtain⟨x,hx,wx⟩:=trod_good hC fuel t X _ _ hX hf h1;obtain⟨y,hy,wy⟩:=Wu (i:=i+1) hC hb (λj t v' hj hv=>aH (j+1) t v' (by simpa using hj) (by simpa using hv)) h2;refine⟨(x,y),?_,wx,wy⟩;refine⟨v,Ng,v.cells.toList,rfl,aqh hC hX hf (aH 0 X v rfl rfl),Own.dM (Rd.move (λk hk=>⟨?_,rfl⟩) hx),hy⟩;have hk:k<w.heap.size:=hk;show (jX w) k = .au;unfold jX;rw[if_pos hk]
 | [],_::_,_,_,_,_,hb,_,_=>by simp[hR]at hb
 | _::_,[],_,_,_,_,hb,_,_=>by simp[hR]at hb
 | _::_,(_,.mut _)::_,_,_,_,_,hb,_,_=>by simp[hR]at hb
theorem Wt[ae](hC:bF P C)(hH:∀k,k<w.heap.size->w'.heap[k]?=w.heap[k]?){sp:Nat->Bool}:{Xs:List TypeId}->{ps:List (Ty×Mode)}->{vs:List Value}->{ds:List (DataW H)}->{p:List MemPlace}->hR C Xs ps=true ->
  DataW.TrodAll enc P w 0 (λ_=>true) true Xs vs ds p->(∀q∈p,sp q.block=true)->DataW.TrodAll enc P w' 0 sp true Xs vs ds p
 | [],[],vs,ds,p,_,h,_=>by
  obtain⟨rfl,rfl,rfl⟩:=trodAll_nil h;exact trodAll_mk0
 | X::Xs,(t,.ro)::ps,vs,ds,p,hb,h,hs=>by
  simp only[hR,Bool.and_eq_true,decide_eq_true_eq]at hb;obtain⟨⟨hX,hf⟩,hb⟩:=hb;obtain⟨v,Ng,d,Xa,a,b,rfl,rfl,rfl,⟨fuel,h1⟩,h2⟩:=trodAll_cons h;exact⟨a,b,⟨fuel,ase hC hH fuel t X _ _ hX hf h1 (λq hq=>hs q (List.mem_append_left _ hq))⟩,Wt hC hH hb h2 (λq hq=>hs q (List.mem_append_right _ hq)),rfl⟩
 | [],_::_,_,_,_,hb,_,_=>by simp[hR]at hb
 | _::_,[],_,_,_,hb,_,_=>by simp[hR]at hb
 | _::_,(_,.mut _)::_,_,_,_,hb,_,_=>by simp[hR]at hb
theorem apJ[ae](hC:bF P C){al:(dn ps).den->Option (Ty.pair (cX [(.bool,0)]) (cD ps)).den}(aH:an P f ⟨ps,[(.bool,0)],al⟩)
  (kH:ae.ok w (jX w)) (fa:∀x,cF (dn ps) x->∃m,al x=some ((true,()),m)) {Xs:List TypeId} (hb:hR C Xs ps=true) {args:Array Value} {base:Nat} {ds:List (DataW H)} {p:List MemPlace}
  (ee:∀(j:Nat) t v,Xs[j]?=some t->args[j]?=some v->Value.okWide P w .any base t v) (hA:DataW.TrodAll enc P w 0 (λ_=>true) true Xs args.toList ds p) :
  Calls P f args w (λe w'=>e = .returned (.bool true)/\w'.os=w.os/\w'.output=w.output/\w.heap.size<=w'.heap.size/\∀k,k<w.heap.size->w'.heap[k]?=w.heap[k]?):=by
 obtain⟨x,hx,wx⟩:=Wu (i:=0) hC hb (λj t v hj hv=>ee j t v hj (by simpa using hv)) hA;obtain⟨m,hm⟩:=fa x wx;have hl:jB w (jX w) ps:=by
  refine⟨λk hk=>?_,λk k' s q h=>?_,λk s q h=>?_,kH⟩
  ·unfold jX;rw[if_neg (by omega)]
  ·unfold jX at h;split at h<;>cases h
  ·unfold jX at h;split at h<;>cases h
 refine Calls.mono (aH.2 x _ hm w (jX w) args hl hx) ?_
 rintro e w' ⟨cs,L',rfl,bd,cc,_⟩
 have cc:=(jC.low (rs:=[(.bool,0)]) rfl).1 cc;simp only[iO]at cc;obtain⟨c,bl,cells,rfl,h1,h2,rfl⟩:=cc;simp only[Own]at h2;subst h2;have hc:c = .bool true:=((List.cons.inj h1).1).symm;subst hc;exact⟨rfl,bd.os,bd.output,bd.size,λk hk=>(bd.aV k hk (.inl (by unfold jX;rw[if_pos hk]))).2⟩
theorem apM[ae]{f:Func}{s:ChangeSpec}{apart fresh handsOn again:Bool}{args:Array Value}{ds gs:List (DataW H)}{before:List MemPlace}(hC:bF P C)(hb:hR C f.params.toList ps=true)
  (hW:DataW.Whole enc P f.params.toList s.vars apart w args.toList ds gs before) (p9:s.vars=[]) (hs:s.fn H (ds++gs)={ results:=[.lit (.bool true)],args:=ds }) {B:TypeId} (cc:f.resultTypes=#[B]) (hB:P.underlying B=some .bool)
  (hos:w'.os=w.os) (wC:w'.output=w.output) (hH:∀k,k<w.heap.size->w'.heap[k]?=w.heap[k]?):s.post enc P f apart fresh handsOn again w args (.bool true) w':=by
 have ax:=hW.lt;have KA:=hW;obtain⟨p,q,hA,hV,rfl,hz,hn⟩:=hW;rw[p9]at hV;have hq:q=[]/\gs=[]:=by
  cases gs with
  | nil=>exact⟨hV,rfl⟩
  | cons _ _=>exact hV.elim
 obtain⟨rfl,rfl⟩:=hq;have YZ:∀(b:Nat) (sp:Nat->Bool) (hd:Bool),DataW.TrodAll enc P w' b sp hd f.resultTypes.toList ((Value.bool true).resultList f.resultTypes.size) (s.fn H (ds++[])).results []:=by
  intro b sp hd;rw[hs,cc];refine⟨[],[],⟨1,?_⟩,rfl,rfl⟩;simp[DataW.trod,hB,Value.cells]
 have gQ:∀sp:Nat->Bool,(∀q∈p,sp q.block=true)->DataW.TrodAll enc P w' 0 sp true f.params.toList args.toList (s.fn H (ds++[])).args p:=by
  intro sp h;rw[hs];exact Wt hC hH hb hA h
 have hv:∀sp:Nat->Bool,DataW.TrodVars enc P w' sp s.vars (s.fn H (ds++[])).vars []:=by
  intro sp;rw[hs,p9];rfl
 have hkb:w.keptBut w' (λ_=>False):=by
  refine⟨hos,wC,λi hi=>?_⟩;rw[hH i hi];split
  ·rename_i h1 h2;rw[h1]at h2;cases h2;exact⟨rfl,rfl,rfl,λ_ _=>rfl⟩
  ·rename_i h1 h2;rw[h1]at h2;cases h2;exact .inr ⟨rfl,rfl⟩
  ·rfl
 refine⟨ds,[],p++[],[],p,[],KA,YZ _ _ _,gQ _ (λq hq=>by simpa using ax q (by simpa using hq)),hv _,World.keptBut_mono (λ_ h=>h.elim) hkb,λ_=>?_⟩;refine⟨λj t r hj hr=>?_,_,_,([]++p)++[],⟨[]++p,[],trodAll_append (gQ _ (λ_ _=>rfl)) (YZ _ _ _),hv _,rfl,λb off hp=>?_,λha=>?_⟩,λq hq _=>by simpa using hq⟩
 ·rw[cc]at hj hr;cases j with
  | zero =>
   simp[Value.resultList]at hj hr;subst hj hr;simp[Value.okWide,hB,Cell.okWide,Cell.ok]
  | succ j=>simp at hj
 ·have cw:MemPlace.cell b off∈p++[]:=by simpa using hp
  have hb':b<w.heap.size:=ax _ cw;have:=hz b off cw;unfold World.frozen? at this ⊢;dsimp only at this ⊢;rw[hH b hb'];exact this
 ·have:=hn ha;simpa using this
theorem acE{base:Nat}{sp:Nat->Bool}{held:Bool}:{ts:List TypeId}->{vs:List Value}->{ds:List (DataW H)}->{p:List MemPlace}->DataW.TrodAll enc P w base sp held ts vs ds p->ds.length=ts.length
 | [],_,_,_,h=>by obtain⟨_,rfl,_⟩:=trodAll_nil h;rfl
 | _::_,_,_,_,h=>by
  obtain⟨v,Ng,d,Xa,a,b,rfl,rfl,rfl,_,h2⟩:=trodAll_cons h;simp[acE h2]
theorem apL[ae](hC:bF P C){fn:Func}{s:ChangeSpec}{apart fresh handsOn again:Bool}{al:(dn ps).den->Option (Ty.pair (cX [(.bool,0)]) (cD ps)).den}
  (aH:an P f ⟨ps,[(.bool,0)],al⟩) (fa:∀x,cF (dn ps) x->∃m,al x=some ((true,()),m)) (hb:hR C fn.params.toList ps=true) (p9:s.vars=[])
  (hs:∀ds:List (DataW H),ds.length=fn.params.size->s.fn H ds={ results:=[.lit (.bool true)],args:=ds }) {B:TypeId} (cc:fn.resultTypes=#[B]) (hB:P.underlying B=some .bool)
  (W:World) (base:Nat) (args:Array Value) (ds gs:List (DataW H)) (before:List MemPlace)
  (ee:∀(j:Nat) t v,fn.params[j]?=some t->args[j]?=some v->Value.okWide P W .any base t v) (hW:DataW.Whole enc P fn.params.toList s.vars apart W args.toList ds gs before) (kH:ae.ok W (jX W)) :
  Calls P f args W λe W'=>∃v,e = .returned v/\s.post enc P fn apart fresh handsOn again W args v W':=by
 have KA:=hW;obtain⟨p,q,hA,hV,rfl,hz,hn⟩:=hW;have pW:gs=[]:=by
  rw[p9]at hV;cases gs with
  | nil=>rfl
  | cons _ _=>exact hV.elim
 refine Calls.mono (apJ hC aH kH fa hb (λj t v hj hv=>ee j t v (by simpa using hj) hv) hA) ?_
 rintro e W' ⟨rfl,h1,h2,h3,h4⟩
 refine⟨_,rfl,apM hC hb KA p9 ?_ cc hB h1 h2 h4⟩;rw[pW,List.append_nil];exact hs ds (by have:=acE hA;simpa using this)
theorem apK[ae](hC:bF P C){fn:Func}{s:ChangeSpec}{apart fresh handsOn again:Bool}{al:(dn ps).den->Option (Ty.pair (cX [(.bool,0)]) (cD ps)).den}
  (aH:an P f ⟨ps,[(.bool,0)],al⟩) (fa:∀x,cF (dn ps) x->∃m,al x=some ((true,()),m)) (kH:∀w,ae.ok w (jX w)) (hb:hR C fn.params.toList ps=true) (p9:s.vars=[])
  (hs:∀ds:List (DataW H),ds.length=fn.params.size->s.fn H ds={ results:=[.lit (.bool true)],args:=ds }) {B:TypeId} (cc:fn.resultTypes=#[B]) (hB:P.underlying B=some .bool)
  (W:World) (base:Nat) (args:Array Value) (ds gs:List (DataW H)) (before:List MemPlace)
  (ee:∀(j:Nat) t v,fn.params[j]?=some t->args[j]?=some v->Value.okWide P W .any base t v) (hW:DataW.Whole enc P fn.params.toList s.vars apart W args.toList ds gs before) :
  Calls P f args W λe W'=>∃v,e = .returned v/\s.post enc P fn apart fresh handsOn again W args v W' :=
 apL hC aH fa hb p9 hs cc hB W base args ds gs before ee hW (kH W)
end
noncomputable def oW(E:Env){R:Type}(c:Code)(k:Ex->List V->Option R)(self:List V->Option R)(T:List V):Option R:=aw E c (λe T'=>match e with
 | .bM=>fw (E.aV (gE c)) T' self
 | .ext i=>k (.ext i) T'
 | .ret=>k .ret T') T
noncomputable def bI(E:Env){R:Type}:List Nat->Code->(Ex->List V->Option R)->Code×(Ex->List V->Option R)
 | [],c,k=>(c,k)
 | 0::p,.seq a b,k=>bI E p a (λe T'=>match e with
  | .bM=>fw (E.aV (lX b)) T' (aw E b k)
  | .ext i=>k (.ext i) T'
  | .ret=>k .ret T')
 | 1::p,.seq a b,k=>bI E p b k
 | 0::p,.cond _ a b,k=>bI E p a k
 | 1::p,.cond _ a b,k=>bI E p b k
 | 0::p,.block id c,k=>bI E p c (λe T'=>match e with
  | .bM=>k .bM T'
  | .ext i=>cond (i==id) (k .bM T') (k (.ext i) T')
  | .ret=>k .ret T')
 | 0::p,.loop c,k=>bI E p c (λe T'=>match e with
  | .bM=>fw (E.aV (gE c)) T' (gB (oW E c k))
  | .ext i=>k (.ext i) T'
  | .ret=>k .ret T')
 | _,c,k=>(.skip,k)
noncomputable def LU(E:Env){R:Type}(p:List Nat)(c:Code)(k:Ex->List V->Option R)(T:List V):Option R :=
 match bI E p c k with
 | (.loop c',k')=>gB (oW E c' k') T
 | _=>none
noncomputable def shut{α:Type}(a:α):α:=Classical.choose (⟨a,rfl⟩:∃x,x=a)
theorem tB(a:α):shut a=a:=Classical.choose_spec (⟨a,rfl⟩:∃x,x=a)
noncomputable def aG(E:Env){R:Type}(p:List Nat)(c:Code)(k:Ex->List V->Option R)(T:List V):Option R:=shut (LU E p c k) T
noncomputable def Na(E:Env){R:Type}(p:List Nat)(c:Code)(k:Ex->List V->Option R)(T:List V):Option R :=
 match bI E p c k with
 | (.loop c',k')=>oW E c' k' (gB (oW E c' k')) T
 | _=>none
theorem apS[ae]{R:Type}(E:Env)(p:List Nat)(c:Code)(k:Ex->List V->Option R)(T:List V):aG E p c k T=Na E p c k T:=by
 unfold aG;rw[tB];unfold LU Na;split
 ·exact alD (acI _) T
 ·rfl
noncomputable def D3(E:Env){R:Type}(p:List Nat)(c:Code)(k:Ex->List V->Option R)(T:List V):Option R :=
 match bI E p c k with
 | (c',k')=>aw E c' k' T
noncomputable def hG(E:Env){R:Type}(p:List Nat)(c:Code)(k:Ex->List V->Option R)(T:List V):Option R:=shut (D3 E p c k) T
def qm:List (Nat×List Nat)->Nat->Option (List Nat)
 | [],_=>none
 | (k,p)::l,key=>cond (k==key) (some p) (qm l key)
def oU{α:Type}:List V->Nat->V->(List V->α)->α
 | [],_,_,K=>K []
 | _::l,0,v,K=>K (v::l)
 | a::l,n+1,v,K=>oU l n v λl'=>K (a::l')
theorem EN:(T:List V)->(i:Nat)->(v:V)->(K:List V->α)->oU T i v K=K (T.set i v)
 | [],_,_,_=>rfl
 | _::_,0,_,_=>rfl
 | a::l,n+1,v,K=>by simp only[oU,List.set_cons_succ];rw[EN l n v]
def nP{α:Type}:List (Nat×V)->List V->(List V->α)->α
 | [],T,K=>K T
 | u::l,T,K=>oU T u.1 u.2 λT'=>nP l T' K
theorem acb[ae]:(ups:List (Nat×V))->(T:List V)->(K:List V->α)->nP ups T K=K (ai T ups)
 | [],_,_=>rfl
 | u::l,T,K=>by
  simp only[nP];rw[EN,acb l];rfl
def Dn{α:Type}:List V->(List V->α)->α
 | [],K=>K []
 | a::l,K=>Dn l λl'=>K (a::l')
theorem Xv:(T:List V)->(K:List V->α)->Dn T K=K T
 | [],_=>rfl
 | a::l,K=>by simp only[Dn];rw[Xv l]
def s9{α:Type}(ks:Nat):Nat->List V->(List V->α)->α
 | _,[],K=>K []
 | i,v::l,K=>cond (ks.testBit i) (s9 ks (i+1) l λl'=>K (v::l')) (s9 ks (i+1) l λl'=>K (.dead::l'))
theorem LH(ks:Nat):(i:Nat)->(T:List V)->(K:List V->α)->s9 ks i T K=K (fb ks i T)
 | _,[],_=>rfl
 | i,v::l,K=>by
  simp only[s9,fb];cases ks.testBit i with
  | true=>simp only[cond_true];rw[LH ks (i+1) l]
  | false=>simp only[cond_false];rw[LH ks (i+1) l]
def Kq{α:Type}(k:Nat)(v:V)(K:V->α):α:=match v with
 | .d l n t x=>K (.d l (min k n) t x)
 | .box l n t x=>K (.box l (min k n) t x)
 | v=>K v
theorem Xx(k:Nat)(v:V)(K:V->α):Kq k v K=K (fF k v):=by cases v<;>rfl
def sW{α:Type}(m:Nat):Nat->List V->(List V->α)->α
 | _,[],K=>K []
 | i,v::l,K=>cond (m.testBit (1000+i)) (Kq 0 v λv'=>sW m (i+1) l λl'=>K (v'::l')) (cond (m.testBit (2000+i)) (Kq 1 v λv'=>sW m (i+1) l λl'=>K (v'::l')) (sW m (i+1) l λl'=>K (v::l')))
theorem DZ[ae](m:Nat):(i:Nat)->(T:List V)->(K:List V->α)->sW m i T K=K (lV m i T)
 | _,[],_=>rfl
 | i,v::l,K=>by
  simp only[sW,lV];cases m.testBit (1000+i)with
  | true=>simp only[cond_true];rw[Xx,DZ m (i+1) l]
  | false =>
   simp only[cond_false];cases m.testBit (2000+i)with
   | true=>simp only[cond_true];rw[Xx,DZ m (i+1) l]
   | false=>simp only[cond_false];rw[DZ m (i+1) l]
def qi{R:Type}(ks:Option Nat)(T:List V)(K:List V->Option R):Option R :=
 match ks with
 | none=>K T
 | some m=>cond (qj m T 0 T) (cond (decide (m<2 ^ 1000)) (s9 m 0 T K) (s9 m 0 T λT'=>cond (qd m T' 0 T') (sW m 0 T' K) none)) none
theorem wW[ae]{R:Type}(ks:Option Nat)(T:List V)(K:List V->Option R):qi ks T K=fw ks T K:=by
 cases ks with
 | none=>rfl
 | some m=>simp only[qi,fw,LH,DZ]
def nK{R:Type}(E:Env)(ops:Array Oper)(draw:Bool)(K:List V->Option R)(T0:List V):List Oper->List V->List Rec->Option R
 | [],T,recs=>cond (!draw||(kF 0 ops.toList&&ln (fV ops.toList []) [] (recs.map λr=>(mask r.rd,mask r.wr))&&mJ T0 recs&&decide (E.N<=bo))) (K T) none
 | o::l,T,recs=>cond (qz E o) (match o.guard with
  | none=>(E.step o).runK T [] λlog ups=>nP ups T λT=>nK E ops draw K T0 l T (recs++[(log,ups)])
  | some (j,want)=>match (ops[j]?).bind (·.dst)with
   | none=>none
   | some g=>match T.getD g .dead with
    | .d l0 n0 .bool b=>cond b
      (oU T g (.d l0 n0 .bool true) λT=>cond want
       ((E.step o).runK T [g] λlog ups=>nP ups T λT=>nK E ops draw K T0 l T (recs++[(log,ups)]))
       ((lh E o T).bind λu=>nP u.2 T λT=>nK E ops draw K T0 l T (recs++[(g::u.1,u.2)])))
      (oU T g (.d l0 n0 .bool false) λT=>cond want
       ((lh E o T).bind λu=>nP u.2 T λT=>nK E ops draw K T0 l T (recs++[(g::u.1,u.2)]))
       ((E.step o).runK T [g] λlog ups=>nP ups T λT=>nK E ops draw K T0 l T (recs++[(log,ups)])))
    | .bH []=>(lh E o T).bind λu=>nP u.2 T λT=>nK E ops draw K T0 l T (recs++[(g::u.1,u.2)])
    | _=>none) none
theorem abH[ae]{R:Type}(E:Env)(ops:Array Oper)(draw:Bool)(K:List V->Option R)(T0:List V):(l:List Oper)->(T:List V)->(recs:List Rec)->nK E ops draw K T0 l T recs=eG E ops draw K T0 l T recs
 | [],T,recs=>rfl
 | o::l,T,recs=>by
  simp only[nK,eG,acb,EN,abH E ops draw K T0 l];rfl
section
variable(E:Env){R:Type}(js:List (Nat×List Nat))(c0:Code)(K0:Ex->List V->Option R)
noncomputable def EK(key:Nat)(f:List V->Option R):List V->Option R :=
 match qm js key with
 | some p=>hG E p c0 K0
 | none=>f
noncomputable def Ec(key:Nat)(f:List V->Option R):List V->Option R :=
 match qm js key with
 | some p=>aG E p c0 K0
 | none=>f
noncomputable def iS:Code->(Ex->List V->Option R)->List V->Option R
 | .skip,k,T=>k .bM T
 | .label _,k,T=>k .bM T
 | .region id ops draw,k,T=>qi (E.aV id) T λT=>nK E ops draw (k .bM) T ops.toList T []
 | .seq a b,k,T=>iS a (λe T'=>match e with
  | .bM=>qi (E.aV (lX b)) T' (EK E js c0 K0 (lX b) (iS b k))
  | .ext i=>k (.ext i) T'
  | .ret=>k .ret T') T
 | .cond (.tmp t) a b,k,T=>match T.getD t .dead with
  | .d l0 n0 .bool x=>cond x (oU T t (.d l0 n0 .bool true) (iS a k)) (oU T t (.d l0 n0 .bool false) (iS b k))
  | _=>none
 | .block id c,k,T=>iS c (λe T'=>match e with
  | .bM=>k .bM T'
  | .ext i=>cond (i==id) (k .bM T') (k (.ext i) T')
  | .ret=>k .ret T') T
 | .exit id,k,T=>k (.ext id) T
 | .loop c,k,T=>qi (E.aV (gE c)) T (Ec E js c0 K0 (gE c) (gB (oW E c k)))
 | .ret,k,T=>k .ret T
 | _,_,_=>none
noncomputable def gz:List Nat->Code->(Ex->List V->Option R)->Code×(Ex->List V->Option R)
 | [],c,k=>(c,k)
 | 0::p,.seq a b,k=>gz p a (λe T'=>match e with
  | .bM=>qi (E.aV (lX b)) T' (EK E js c0 K0 (lX b) (iS E js c0 K0 b k))
  | .ext i=>k (.ext i) T'
  | .ret=>k .ret T')
 | 1::p,.seq a b,k=>gz p b k
 | 0::p,.cond _ a b,k=>gz p a k
 | 1::p,.cond _ a b,k=>gz p b k
 | 0::p,.block id c,k=>gz p c (λe T'=>match e with
  | .bM=>k .bM T'
  | .ext i=>cond (i==id) (k .bM T') (k (.ext i) T')
  | .ret=>k .ret T')
 | 0::p,.loop c,k=>gz p c (λe T'=>match e with
  | .bM=>qi (E.aV (gE c)) T' (Ec E js c0 K0 (gE c) (gB (oW E c k)))
  | .ext i=>k (.ext i) T'
  | .ret=>k .ret T')
 | _,c,k=>(.skip,k)
noncomputable def D4(p:List Nat)(T:List V):Option R :=
 match gz E js c0 K0 p c0 K0 with
 | (c',k')=>Dn T λT=>iS E js c0 K0 c' k' T
end
def okB(js:List (Nat×List Nat)):Code->List Nat->Bool
 | .seq a b,q=>(match qm js (lX b)with
  | none=>true
  | some p=>p==q++[1])&&(okB js a (q++[0])&&okB js b (q++[1]))
 | .cond _ a b,q=>okB js a (q++[0])&&okB js b (q++[1])
 | .block _ c,q=>okB js c (q++[0])
 | .loop c,q=>(match qm js (gE c)with
  | none=>true
  | some p=>p==q)&&okB js c (q++[0])
 | _,_=>true
section
variable{E:Env}{R:Type}{js:List (Nat×List Nat)}{c0:Code}{K0:Ex->List V->Option R}
theorem fS(i:Nat):∀(p:List Nat) (c:Code) (k:Ex->List V->Option R),bI E (p++[i]) c k=bI E [i] (bI E p c k).1 (bI E p c k).2
 | [],c,k=>by simp only[List.nil_append,bI]
 | j::p,c,k=>by
  have hs:∀k:Ex->List V->Option R,bI E [i] .skip k=(.skip,k):=λk=>by
   match i with
   | 0=>rfl
   | 1=>rfl
   | _+2=>rfl
  match j,c with
  | 0,.seq a b=>simp only[List.cons_append,bI];exact fS i p a _
  | 1,.seq a b=>simp only[List.cons_append,bI];exact fS i p b _
  | 0,.cond _ a b=>simp only[List.cons_append,bI];exact fS i p a _
  | 1,.cond _ a b=>simp only[List.cons_append,bI];exact fS i p b _
  | 0,.block _ c=>simp only[List.cons_append,bI];exact fS i p c _
  | 0,.loop c=>simp only[List.cons_append,bI];exact fS i p c _
  | 1,.block _ _|1,.loop _=>exact (hs k).symm
  | 0,.skip|0,.label _|0,.region .. | 0,.exit _|0,.ret|0,.rangeFunc .. | 0,.scope _|0,.goto _|0,.refuse _=>exact (hs k).symm
  | 1,.skip|1,.label _|1,.region .. | 1,.exit _|1,.ret|1,.rangeFunc .. | 1,.scope _|1,.goto _|1,.refuse _=>exact (hs k).symm
  | _+2,_=>exact (hs k).symm
theorem JH[ae]{a b:Code}{k:Ex->List V->Option R}(h:bI E q c0 K0=(.seq a b,k)):bI E (q++[0]) c0 K0=(a,λe T'=>match e with
  | .bM=>fw (E.aV (lX b)) T' (aw E b k)
  | .ext i=>k (.ext i) T'
  | .ret=>k .ret T')/\bI E (q++[1]) c0 K0=(b,k):=by
 constructor
 ·rw[fS,h];rfl
 ·rw[fS,h];rfl
theorem ab1[ae]{b:Code}{k:Ex->List V->Option R}{f:List V->Option R}(h:bI E q c0 K0=(b,k))(hf:f=aw E b k)
  (aH:(match qm js (lX b)with|none=>true|some p=>p==q)=true):EK E js c0 K0 (lX b) f=aw E b k:=by
 unfold EK;split at aH
 ·rename_i hn;rw[hn];exact hf
 ·rename_i p hp;rw[hp];rw[beq_iff_eq]at aH;subst aH;funext T;simp only[hG,tB,D3,h]
theorem aaX[ae]{c:Code}{k:Ex->List V->Option R}{f:List V->Option R}(h:bI E q c0 K0=(.loop c,k))(hf:f=gB (oW E c k))
  (aH:(match qm js (gE c)with|none=>true|some p=>p==q)=true):Ec E js c0 K0 (gE c) f=gB (oW E c k):=by
 unfold Ec;split at aH
 ·rename_i hn;rw[hn];exact hf
 ·rename_i p hp;rw[hp];rw[beq_iff_eq]at aH;subst aH;funext T;simp only[aG,tB,LU,h]
theorem pF[ae]:(c:Code)->(k:Ex->List V->Option R)->(q:List Nat)->bI E q c0 K0=(c,k)->okB js c q=true->iS E js c0 K0 c k=aw E c k
 | .skip,k,q,h,aH=>rfl
 | .label _,k,q,h,aH=>rfl
 | .region id ops draw,k,q,h,aH=>by
  funext T;simp only[iS,aw,wW,abH]
 | .exit _,k,q,h,aH=>rfl
 | .ret,k,q,h,aH=>rfl
 | .seq a b,k,q,h,aH=>by
  simp only[okB,Bool.and_eq_true]at aH;obtain⟨h1,h2,h3⟩:=aH;obtain⟨e0,e1⟩:=JH h;have ib:=pF b k (q++[1]) e1 h3;have ia:=pF a _ (q++[0]) e0 h2;funext T;simp only[iS,aw,wW];rw[ab1 e1 ib h1];exact congrFun ia T
 | .cond c a b,k,q,h,aH=>by
  simp only[okB,Bool.and_eq_true]at aH;have e0:bI E (q++[0]) c0 K0=(a,k):=by rw[fS,h];rfl
  have e1:bI E (q++[1]) c0 K0=(b,k):=by rw[fS,h];rfl
  have ia:=pF a _ (q++[0]) e0 aH.1;have ib:=pF b _ (q++[1]) e1 aH.2;funext T;cases c<;>simp only[iS,aw,ia,ib,EN]<;>rfl
 | .block id c,k,q,h,aH=>by
  simp only[okB]at aH;have e0:bI E (q++[0]) c0 K0=(c,λe T'=>match e with
   | .bM=>k .bM T'
   | .ext i=>cond (i==id) (k .bM T') (k (.ext i) T')
   | .ret=>k .ret T'):=by rw[fS,h];rfl
  have ic:=pF c _ (q++[0]) e0 aH;funext T;simp only[iS,aw];exact congrFun ic T
 | .loop c,k,q,h,aH=>by
  simp only[okB,Bool.and_eq_true]at aH;funext T;simp only[iS,aw,wW];rw[aaX h rfl aH.1];rfl
 | .rangeFunc ..,k,q,h,aH=>rfl
 | .scope _,k,q,h,aH=>rfl
 | .goto _,k,q,h,aH=>rfl
 | .refuse _,k,q,h,aH=>rfl
theorem pD[ae]:(p:List Nat)->(c:Code)->(k:Ex->List V->Option R)->(q:List Nat)->bI E q c0 K0=(c,k)->okB js c q=true->gz E js c0 K0 p c k=bI E p c k/\okB js (bI E p c k).1 (q++p)=true/\bI E (q++p) c0 K0=bI E p c k
 | [],c,k,q,h,aH=>⟨rfl,by simpa[bI]using aH,by simpa[bI]using h⟩
 | j::p,c,k,q,h,aH=>by
  have hs:∀k:Ex->List V->Option R,gz E js c0 K0 (j::p) c k=(.skip,k)->bI E (j::p) c k=(.skip,k)->bI E (q++j::p) c0 K0=bI E (j::p) c k->gz E js c0 K0 (j::p) c k=bI E (j::p) c k/\okB js (bI E (j::p) c k).1 (q++j::p)=true/\bI E (q++j::p) c0 K0=bI E (j::p) c k:=λk h1 h2 h3=>by
   refine⟨by rw[h1,h2],by rw[h2];rfl,h3⟩
  have DE:bI E (q++j::p) c0 K0=bI E (j::p) c k:=by
   have gen:∀(n:Nat) (p q:List Nat) (c:Code) (k:Ex->List V->Option R),p.length=n->bI E q c0 K0=(c,k)->bI E (q++p) c0 K0=bI E p c k:=by
    intro n;induction n with
    | zero =>
     intro p q c k hp h;obtain rfl:=List.eq_nil_of_length_eq_zero hp;simpa[bI]using h
    | succ n ih =>
     intro p q c k hp h;have bm:p≠[]:=by rintro rfl;simp at hp
     obtain⟨p0,i,rfl⟩:∃p0 i,p=p0++[i]:=⟨p.dropLast,p.getLast bm,(List.dropLast_concat_getLast bm).symm⟩;rw[<-List.append_assoc,fS,ih p0 q c k (by simp at hp;omega) h,<-fS]
   exact gen _ _ q c k rfl h
  have hq:q++j::p=(q++[j])++p:=by simp
  match j,c with
  | 0,.seq a b =>
   simp only[okB,Bool.and_eq_true]at aH;obtain⟨h1,h2,h3⟩:=aH;obtain⟨e0,e1⟩:=JH h;have ib:=pF b k (q++[1]) e1 h3;have ia:=pD p a _ (q++[0]) e0 h2;rw[hq];simp only[gz,bI,wW];rw[ab1 e1 ib h1];exact ia
  | 1,.seq a b =>
   simp only[okB,Bool.and_eq_true]at aH;have ia:=pD p b _ (q++[1]) (JH h).2 aH.2.2;rw[hq];simp only[gz,bI];exact ia
  | 0,.cond _ a b =>
   simp only[okB,Bool.and_eq_true]at aH;have ia:=pD p a _ (q++[0]) (by rw[fS,h];rfl) aH.1;rw[hq];simp only[gz,bI];exact ia
  | 1,.cond _ a b =>
   simp only[okB,Bool.and_eq_true]at aH;have ia:=pD p b _ (q++[1]) (by rw[fS,h];rfl) aH.2;rw[hq];simp only[gz,bI];exact ia
  | 0,.block id c =>
   simp only[okB]at aH;have ia:=pD p c _ (q++[0]) (by rw[fS,h];rfl) aH;rw[hq];simp only[gz,bI];exact ia
  | 0,.loop c =>
   simp only[okB,Bool.and_eq_true]at aH;have ia:=pD p c _ (q++[0]) (by rw[fS,h];rfl) aH.2;rw[hq];simp only[gz,bI,wW];rw[aaX h rfl aH.1];exact ia
  | 1,.block _ _|1,.loop _=>exact hs k rfl rfl DE
  | 0,.skip|0,.label _|0,.region .. | 0,.exit _|0,.ret|0,.rangeFunc .. | 0,.scope _|0,.goto _|0,.refuse _=>exact hs k rfl rfl DE
  | 1,.skip|1,.label _|1,.region .. | 1,.exit _|1,.ret|1,.rangeFunc .. | 1,.scope _|1,.goto _|1,.refuse _=>exact hs k rfl rfl DE
  | _+2,_=>exact hs k rfl rfl DE
theorem join_eq[ae](aH:okB js c0 []=true)(p:List Nat)(T:List V):hG E p c0 K0 T=D4 E js c0 K0 p T:=by
 obtain⟨h1,h2,h3⟩:=pD (E:=E) (js:=js) (c0:=c0) (K0:=K0) p c0 K0 [] rfl aH;rw[List.nil_append]at h2 h3;unfold hG;rw[tB];unfold D3 D4;rw[h1];simp only[Xv];exact (congrFun (pF _ _ p h3 h2) T).symm
theorem all_eq[ae](aH:okB js c0 []=true)(T:List V):aw E c0 K0 T=D4 E js c0 K0 [] T:=by
 rw[<-join_eq aH];unfold hG;rw[tB];rfl
def anG:Code->Bool
 | .loop _=>true
 | _=>false
theorem aK[ae](aH:okB js c0 []=true)(p:List Nat)(hl:anG (bI E p c0 K0).1=true)(T:List V):aG E p c0 K0 T=D4 E js c0 K0 (p++[0]) T:=by
 rw[<-join_eq aH,apS];unfold Na hG;rw[tB];unfold D3;rw[fS];generalize bI E p c0 K0=ck at hl;obtain⟨c,k⟩:=ck;cases c<;>first|rfl|cases hl
end
def dd:Nat->List V->List V
 | 0,l=>l
 | n+1,l=>.dead::dd n l
structure MF where
 ps:List (Ty×Mode)
 rs:List (Ty×Nat)
 sl:List RV
 vs:List Nat
 aV:Nat->Option Nat
 hx:Hints
def MF.env(M:MF)(C:Ctx)(t:dI)(f:Func):Env:=xg C t M.vs f.ntmps M.aV M.hx M.ps
def MF.out(M:MF)(C:Ctx):Ex->List V->Option (Ty.pair (cX M.rs) (cD M.ps)).den:=Xf C M.ps M.rs M.sl
noncomputable def MF.fn(M:MF)(C:Ctx)(t:dI)(f:Func):Fn:=abd C t M.vs f.ntmps M.aV M.hx M.ps M.rs M.sl (f.body.getD .skip)
def MF.fits(M : MF)(f : Func):Bool := !(f.name == "runtime.NumGoroutine") && f.body.isSome && decide (M.ps.length <= f.ntmps)
theorem MF.ok[ae]{P:Program}{C:Ctx}(lM:P.follows .mixedOrders=true)(hC:bF P C){M:MF}{fn:Func}{t:dI}(ht:fY P t)(hf:P.funcs[f]?=some fn)
  (h:(M.fits fn,fn.results.toList)=(true,M.sl.map RV.var)):an P f (M.fn C t fn):=by
 have h1:M.fits fn=true:=congrArg Prod.fst h;have h2:fn.results.toList=M.sl.map RV.var:=congrArg Prod.snd h;simp only[MF.fits,Bool.and_eq_true,Bool.not_eq_true',decide_eq_true_eq]at h1;obtain⟨⟨h3,h4⟩,h5⟩:=h1;obtain⟨c,hc⟩:=Option.isSome_iff_exists.1 h4;unfold MF.fn;rw[hc];exact apX lM hC ht hf h3 hc rfl h2 h5
open Go.Sort
structure o7 {α:Type} (V:α->Prop) (cf:α->α->Int):Prop where
 irrefl:∀x,V x->¬cf x x<0
 trans:∀x y z,V x->V y->V z->cf x y<0->cf y z<0->cf x z<0
 ntrans:∀x y z,V x->V y->V z->¬cf x y<0->¬cf y z<0->¬cf x z<0
 Ju:∀x y,V x->V y->¬cf x y<0->¬cf y x<0->x=y
def fi{α:Type}(cf:α->α->Int)(l:List α):List α:=l.mergeSort λx y => !decide (cf y x<0)
theorem qF(cf:α->α->Int)(l:List α):(fi cf l).Perm l:=List.mergeSort_perm _ _
theorem MS{V:α->Prop}{cf:α->α->Int}(h:o7 V cf){l:List α}(hV:∀a∈l,V a):(fi cf l).Pairwise λx y=>¬cf y x<0:=by
 have e:l=(l.attachWith V hV).map (·.1):=by simp
 have e2:fi cf l=((l.attachWith V hV).mergeSort λx y => !decide (cf y.1 x.1<0)).map (·.1):=by
  rw[List.map_mergeSort (s:=λx y => !decide (cf y x<0)) (λ_ _ _ _=>rfl),<-e];rfl
 rw[e2,List.pairwise_map];have:=List.pairwise_mergeSort (le:=λx y:{a // V a} => !decide (cf y.1 x.1<0)) (λa b c h1 h2=>by
   simp only[Bool.not_eq_true',decide_eq_false_iff_not]at h1 h2 ⊢;exact h.ntrans _ _ _ c.2 b.2 a.2 h2 h1) (λa b=>by
   simp only[Bool.or_eq_true,Bool.not_eq_true',decide_eq_false_iff_not];by_cases h1:cf b.1 a.1<0
   ·exact .inr λh2=>h.irrefl _ a.2 (h.trans _ _ _ a.2 b.2 a.2 h2 h1)
   ·exact .inl h1) (l.attachWith V hV)
 exact this.imp (by simp)
theorem acj{V:α->Prop}{cf:α->α->Int}(h:o7 V cf){l l':List α}(hV:∀a∈l,V a)(hp:l'.Perm l)(hs:l'.Pairwise λx y=>¬cf y x<0):l'=fi cf l:=by
 refine List.Perm.eq_of_pairwise (le:=λx y=>¬cf y x<0) (λa b ha hb h1 h2=>?_) hs (MS h hV) (hp.trans (qF cf l).symm);exact h.Ju a b (hV a (hp.mem_iff.1 ha)) (hV b ((qF cf l).mem_iff.1 hb)) h2 h1
theorem aqQ[ae]{P:Program}{g:FuncId}{u:Ty}{eT:(dn [(.agg u,.ro),(.agg u,.ro)]).den->Option (Ty.pair (cX [(.int .i64,0)]) (cD [(.agg u,.ro),(.agg u,.ro)])).den}
  (hg:an P g ⟨[(.agg u,.ro),(.agg u,.ro)],[(.int .i64,0)],eT⟩) {w:World} {x y:u.den} {cx cy:List Value} {c:Int}
  (hx:Rd w (λk=>k<w.heap.size) u x cx) (hy:Rd w (λk=>k<w.heap.size) u y cy) (he:eT (x,(y,()))=some ((c,()),())) (kH:ae.ok w (λk=>if k<w.heap.size then .au else .free)) :
  Calls P g #[.agg cx.toArray,.agg cy.toArray] w (λe w'=>e = .returned (.int .i64 c)/\∃q os',w'=grow (w.drewN q) os'):=by
 have ba:∀k,k<w.heap.size->(if k<w.heap.size then ak.au else ak.free)=ak.au:=λk hk=>if_pos hk
 refine Calls.mono (hg.2 (x,(y,())) _ he w (λk=>if k<w.heap.size then .au else .free) #[.agg cx.toArray,.agg cy.toArray] ⟨λk hk=>if_neg (by omega),λk k' s q h=>?_,λk s q h=>?_,kH⟩ ?_) ?_
 ·split at h<;>cases h
 ·split at h<;>cases h
 ·exact⟨_,_,cx,rfl,rfl,Own.dM (Rd.move (λk hk=>⟨if_pos hk,rfl⟩) hx),_,_,cy,rfl,rfl,Own.dM (Rd.move (λk hk=>⟨if_pos hk,rfl⟩) hy),rfl⟩
 ·rintro e w' ⟨cs,L',rfl,hl,hr,_⟩
  have hr:=(jC.low (rs:=[(.int .i64,0)]) rfl).1 hr;simp only[iO]at hr;obtain⟨c1,bl,cells,rfl,h1,h2,rfl⟩:=hr;simp only[Own]at h2;subst h2;have hc:=(List.cons.inj h1).1;subst hc;refine⟨rfl,w'.drawn - w.drawn,w'.heap.extract w.heap.size,?_⟩;have hd:=hl.drawn;have hz:=hl.size;have hh:w'.heap=w.heap++w'.heap.extract w.heap.size:=by
   apply Array.ext_getElem?;intro k;rw[Array.getElem?_append];split
   ·rename_i hk;exact (hl.aV k hk (.inl (if_pos hk))).2
   ·rename_i hk;rw[Array.getElem?_extract];split
    ·congr 1;omega
    ·rw[Array.getElem?_eq_none (by omega)]
  have h1:=hl.os;have h2:=hl.tape;have h3:=hl.output;obtain⟨avk,avL,avd,os',avK⟩:=w';simp only at hd hh h1 h2 h3;subst h1 h2 h3;unfold grow World.drewN;simp only[World.mk.injEq,true_and,and_true];exact⟨hh,by omega⟩
open Go.Sort Go.Proofs Go.Shelf Go.RowKit
section
variable{P:Program}{ρ:Ren}
theorem EO[Inhabited α]{enc:α->List Value}{w:World}{jJ off m:Nat}{dk:Array α}{os:Array Obj}{i:Nat}(hi:i<w.heap.size)(hb:i≠jJ):
  (sortWorldK enc k w jJ off m dk os).heap[i]?=w.heap[i]?:=by
 unfold sortWorldK;rw[heap_grow_old _ _ (by unfold putRowK;rw[size_putRow];exact hi)];unfold putRowK putRow mapBlock;simp only[Array.getElem?_modify,if_neg (Ne.symm hb)];rfl
theorem ari[Inhabited α]{enc:α->List Value}{w:World}{jJ off m:Nat}{dk:Array α}{os:Array Obj}{cur:Array Value}{fr:Nat×Nat}(h:w.heap[jJ]?=some (.cells cur e fr)):
  (sortWorldK enc k w jJ off m dk os).heap[jJ]?=some (.cells (Sort.putCells id off (flatK enc k dk) cur) e fr):=by
 have hb:jJ<w.heap.size:=by
  rcases Nat.lt_or_ge jJ w.heap.size with h1|h1
  ·exact h1
  ·rw[Array.getElem?_eq_none h1]at h;cases h
 unfold sortWorldK;rw[heap_grow_old _ _ (by unfold putRowK;rw[size_putRow];exact hb)];unfold putRowK putRow mapBlock;simp only[Array.getElem?_modify,if_true];rw[show (Sort.ahead w m).heap[jJ]?=w.heap[jJ]? from rfl,h];rfl
theorem MW[Inhabited α]{enc:α->List Value}{w:World}{jJ off m:Nat}{dk:Array α}{os:Array Obj}:(sortWorldK enc k w jJ off m dk os).heap.size=w.heap.size+os.size:=by
 unfold sortWorldK;rw[size_grow];unfold putRowK;rw[size_putRow];rfl
theorem aqY[Inhabited α]{enc:α->List Value}(hk:∀x,(enc x).length=k){dk:Array α}{cur:Array Value}(hc:dk.size*k<=cur.size){j:Nat}(hj:j<dk.size):
  ((Sort.putCells id 0 (flatK enc k dk) cur).toList.drop (j*k)).take k=enc dk[j]! :=by
 apply List.ext_getElem?;intro i;by_cases hi:i<k
 ·have hb:j*k+i<dk.size*k:=by
   have:=Nat.mul_le_mul_right k (show j+1<=dk.size from hj);rw[Nat.add_mul,Nat.one_mul]at this;omega
  rw[Ni hi,Array.getElem?_toList];unfold Sort.putCells;rw[Array.getElem?_mapIdx,Array.getElem?_eq_getElem (show j*k+i<cur.size by omega),Option.map_some,if_pos ⟨Nat.zero_le _,by rw[size_flatK];omega⟩,Nat.sub_zero,get_flatK _ _ _ _ hb];have e1:(j*k+i) / k=j:=(blk_iff k j _ (by omega)).1 ⟨by omega,by omega⟩;have e2:(j*k+i) % k=i:=by rw[Nat.mod_eq_sub_div_mul,e1];omega
  rw[e1,e2,List.getElem?_eq_getElem (by rw[hk];exact hi),List.getElem!_eq_getElem?_getD,List.getElem?_eq_getElem (by rw[hk];exact hi)];rfl
 ·rw[List.getElem?_eq_none (by rw[List.length_take];omega),List.getElem?_eq_none (by rw[hk];omega)]
def fR(u:Ty)(eT:(dn [(.agg u,.ro),(.agg u,.ro)]).den->Option (Ty.pair (cX [(.int .i64,0)]) (cD [(.agg u,.ro),(.agg u,.ro)])).den)(a b:u.den):Int :=
 match eT (a,(b,()))with
 | some r=>r.1.1
 | none=>0
noncomputable def tG(e:TypeId)(u:Ty)(n:Nat)(g:FuncId)(eT:(dn [(.agg u,.ro),(.agg u,.ro)]).den->Option (Ty.pair (cX [(.int .i64,0)]) (cD [(.agg u,.ro),(.agg u,.ro)])).den):
  (dn [(.slice e (.agg u),.mut n),(.raw 1,.ro)]).den->Option (Ty.pair (cX []) (cD [(.slice e (.agg u),.mut n),(.raw 1,.ro)])).den :=
 λx=>open Classical in
  if x.2.1=Value.func (.func g) #[] #[]/\((∀a∈(x.1:List u.den),∀b∈(x.1:List u.den),eT (a,(b,()))=some ((fR u eT a b,()),()))/\o7 (λa=>a∈(x.1:List u.den)) (fR u eT))/\(x.1:List u.den).length<4611686018427387904
  then some ((),(fi (fR u eT) (x.1:List u.den),()))else none
theorem aqn{d':Array (Fin n)}(hp:d'.toList.Perm (List.finRange n)):d'.size=n/\(∀j (h:j<d'.size),d'.toList.idxOf d'[j]=j)/\∀e:Fin n,d'.toList.idxOf e<n/\∃h:d'.toList.idxOf e<d'.size,d'[d'.toList.idxOf e]=e:=by
 have hs:d'.size=n:=by have:=hp.length_eq;simpa using this
 have cW:d'.toList.Nodup:=hp.nodup_iff.2 (List.nodup_finRange n);refine⟨hs,λj h=>?_,λe=>?_⟩
 ·have:=cW.idxOf_getElem j (by simpa using h);simpa using this
 ·have hm:e∈d'.toList:=hp.mem_iff.2 (List.mem_finRange e);have:=List.idxOf_lt_length_of_mem hm;refine⟨by simpa[hs]using this,by simpa using this,?_⟩;rw[<-Array.getElem_toList];exact List.getElem_idxOf this
end
open Go.Sort Go.Proofs Go.Shelf Go.RowKit
section
variable{P:Program}{ρ:Ren}
theorem Nk[ae]{w:World}{L0:Nat->ak}{t1 t2:Ty}(h:jB w L0 [(t1,.mut n),(t2,.ro)]){s:Nat}(hk:L0 k = .own s q):∃t m,([(t1,Mode.mut n),(t2,.ro)]:List (Ty×Mode))[s]?=some (t,m)/\m.back=true:=by
 obtain⟨t,m,h1,h2|⟨n',rfl⟩⟩:=h.write hk
 ·exact⟨t,m,h1,h2⟩
 ·match s,h1 with
  | 0,h1=>simp at h1
  | 1,h1=>simp at h1
  | s+2,h1=>simp at h1
def kl(w w':World)(L0:Nat->ak)(sz:Nat)(pos:Nat->Nat):Nat->ak:=λk =>
 if k<w.heap.size then match L0 k with
  | .own 0 (0::o::rest)=>.own 0 (0::(pos (o / sz)*sz+o % sz)::rest)
  | l=>l
 else if k<w'.heap.size then .other else .free
theorem MU{w w':World}{L0:Nat->ak}{sz:Nat}{pos:Nat->Nat}(hk:k<w.heap.size)(h:∀o rest,L0 k ≠ .own 0 (0::o::rest)):kl w w' L0 sz pos k=L0 k:=by
 unfold kl;rw[if_pos hk];split
 ·rename_i o rest h1;exact absurd h1 (h o rest)
 ·rfl
theorem arh{w w':World}{L0:Nat->ak}{sz:Nat}{pos:Nat->Nat}{o:Nat}{rest:List Nat}(hk:k<w.heap.size)(h:L0 k = .own 0 (0::o::rest)):
  kl w w' L0 sz pos k = .own 0 (0::(pos (o / sz)*sz+o % sz)::rest):=by
 unfold kl;rw[if_pos hk,h];rfl
theorem MV{w w':World}{L0:Nat->ak}{sz:Nat}{pos:Nat->Nat}{s:Nat}(h:kl w w' L0 sz pos k = .own s q):
  k<w.heap.size/\((∃o rest,s=0/\L0 k = .own 0 (0::o::rest)/\q=0::(pos (o / sz)*sz+o % sz)::rest)\/(L0 k = .own s q/\∀o rest,L0 k ≠ .own 0 (0::o::rest))):=by
 unfold kl at h;split at h
 ·rename_i hk;refine⟨hk,?_⟩;split at h
  ·rename_i o rest h1;injection h with h2 h3;exact .inl ⟨o,rest,h2.symm,h1,h3.symm⟩
  ·rename_i h1;exact .inr ⟨h,λo rest e=>h1 o rest e⟩
 ·split at h<;>cases h
theorem arj[ae](L:SlLaysF0.n6 P ρ){e:TypeId}{u:Ty}{n:Nat}{g:FuncId}(bq:u.sz≠0)(hn:u.depth+1<=n)
  (aE:∀w,(isAgg (ρ.t 24)).run P w = .ok true w) (zE:∀w,(Go.sizeOf (ρ.t 24)).run P w = .ok u.sz w)
  (hf : ∃ fn, P.funcs[ρ.f 6]? = some fn /\ (fn.name == "runtime.NumGoroutine") = false /\ fn.body.isNone = false)
  (eg:∀args w,(callFunc g args).run P w = .ok (.enter g args) w)
  {eT:(dn [(.agg u,.ro),(.agg u,.ro)]).den->Option (Ty.pair (cX [(.int .i64,0)]) (cD [(.agg u,.ro),(.agg u,.ro)])).den}
  (hg:an P g ⟨[(.agg u,.ro),(.agg u,.ro)],[(.int .i64,0)],eT⟩) :
  an P (ρ.f 6) ⟨[(.slice e (.agg u),.mut n),(.raw 1,.ro)],[],tG e u n g eT⟩:=by
 refine⟨hf,λx r hr w L0 args hl ha=>?_⟩;obtain⟨xs,fv,un⟩:=x;change List u.den at xs;change tG e u n g eT (xs,fv,un)=some r at hr;unfold tG at hr;dsimp only at hr;split at hr
 case isFalse=>cases hr
 rename_i hc;injection hr with hr;subst hr;obtain⟨hfv,⟨hcf,hO⟩,hlen⟩:=hc;have hV:∀a∈xs,a∈xs:=λ_ h=>h;simp only[dT]at ha;obtain⟨c1,bl,cells,gQ,h1,h2,c2,cM,aln,rfl,h3,h4,rfl⟩:=ha;have eo:cells=[c1]:=h1;have ft:aln=[c2]:=h3;subst eo ft;simp only[Own]at h4;have KK:c2=Value.func (.func g) #[] #[]:=by rw[(List.cons.inj h4.1).1];exact hfv
 subst KK;have X4:args=#[c1,.func (.func g) #[] #[]]:=by rw[<-Array.toArray_toList (xs:=args),gQ]
 obtain⟨n',rfl⟩:∃n',n=n'+1:=⟨n - 1,by omega⟩;by_cases bm:xs=[]
 ·subst bm;have eu:∃p cap,c1 = .slice p 0 cap:=by
   simp only[Mode.dep,Own]at h2;rcases h2 with⟨h2,_⟩|⟨g1,cap,cur,h2,_⟩
   ·exact⟨none,0,(List.cons.inj h2).1⟩
   ·exact⟨_,cap,(List.cons.inj h2).1⟩
  obtain⟨p,cap,rfl⟩:=eu;rw[X4];refine Calls.mono (AnyF.slices_SortFunc_none L p cap _ w) ?_
  rintro e1 w' ⟨rfl,rfl⟩
  refine⟨[],L0,rfl,⟨rfl,rfl,rfl,Nat.le_refl _,Nat.le_refl _,λ_ _ _=>⟨rfl,rfl⟩,hl.free,hl.inj,λk s q h=>.inr ?_⟩,rfl,?_⟩
  ·exact Nk hl h
  ·refine⟨_,_,_,rfl,rfl,?_,_,_,rfl,rfl⟩;have e0:fi (fR u eT) ([]:List u.den)=[]:=List.Perm.eq_nil (qF (fR u eT) []);have key:∀ys:List u.den,ys=[]->Own w' L0 (λk=>L0 k = .au) 0 (n'+1) (.slice e (.agg u)) ys [] 0 [.slice p 0 cap]:=λys h=>by subst h;exact h2
   exact key _ e0
 ·simp only[Mode.dep,Own]at h2;rcases h2 with⟨_,h2⟩|⟨g1,cap,cur,hc,gD,KN,DD,YE,oA,mZ⟩
  ·exact absurd h2 bm
  have eo:=(List.cons.inj hc).1;subst eo;rw[X4];have ax:∀{k},L0 k ≠ .free->k<w.heap.size:=λ{k} h=>Nat.lt_of_not_le λhk=>h (hl.free k hk);have pW:g1<w.heap.size:=ax (by rw[gD];simp)
  haveI:Inhabited (Fin xs.length):=⟨⟨0,List.length_pos_iff.2 bm⟩⟩
  let enc:Fin xs.length->List Value:=λj=>(cur.toList.drop (j.1*u.sz)).take u.sz;have DH:∀j:Fin xs.length,Own w L0 (λk=>L0 k = .au) 0 n' (.agg u) xs[j] [0] (j.1*u.sz) (enc j):=λj=>mZ j.1 j.2;have hk:∀j,(enc j).length=u.sz:=λj=>(DH j).len;have dY:∀j,∀v∈enc j,v.oneCell'=true:=λj=>(DH j).one;let d:Array (Fin xs.length):=Array.ofFn (λj=>j);have iv:d.size=xs.length:=by simp[d]
  have hdj:∀j (h:j<xs.length),d[j]! = ⟨j,h⟩:=λj h=>by
   rw[getElem!_pos d j (by rw[iv];exact h)];simp[d]
  have oE:xs.length*u.sz<=cur.size:=by rw[oA];exact Nat.mul_le_mul_right _ DD
  have hH:HoldsK enc u.sz w g1 0 d:=by
   intro t ht;rw[size_flatK,iv]at ht;have hj:t / u.sz<xs.length:=(Nat.div_lt_iff_lt_mul (by omega)).2 ht;have hm:t % u.sz<u.sz:=Nat.mod_lt _ (by omega);have e2:t / u.sz*u.sz+t % u.sz=t:=by rw[Nat.mul_comm];exact Nat.div_add_mod t u.sz
   rw[get_flatK _ _ _ _ (by rw[iv];exact ht),hdj _ hj];refine⟨?_,?_⟩
   ·have h6:(enc ⟨t / u.sz,hj⟩)[t % u.sz]?=cur[t]?:=by
     show ((cur.toList.drop (t / u.sz*u.sz)).take u.sz)[t % u.sz]?=_;rw[Ni hm,e2,Array.getElem?_toList]
    have h7:t<cur.size:=by omega
    simp only[World.cell?,KN,Nat.zero_add,Option.isSome_none,Bool.false_eq_true,if_false,id];rw[List.getElem!_eq_getElem?_getD,h6,Array.getElem?_eq_getElem h7];rfl
   ·simp[World.frozen?,KN]
  have bD:∀j:Fin xs.length,Rd w (λk=>k<w.heap.size/\k≠g1) u xs[j] (enc j):=λj=>by
   have:=Own.ff (w':=w) (L':=L0) (S':=λk=>k<w.heap.size/\k≠g1) (s':=0) (q2:=[0]) (o2:=0) (Nat.zero_le _) (λk hk=>⟨⟨ax (by rw[hk];simp),λh=>by rw[h,gD]at hk;cases hk⟩,rfl⟩)
    (λk dd rest _ hk=>⟨rfl,λh=>absurd h (by omega),λ_=>⟨ax (by rw[hk];simp),λh=>by rw[h,gD]at hk;simp at hk⟩⟩) (DH j)
   exact Own.eH (t:=.agg u) this
  have amf:CmpLays P g #[] enc u.sz (λx y=>fR u eT xs[x] xs[y]) g1 0 d.size w:=by
   intro m os dk Ym x y;have hm:∀k,(k<w.heap.size/\k≠g1)->k<(sortWorldK enc u.sz w g1 0 m dk os).heap.size/\(sortWorldK enc u.sz w g1 0 m dk os).heap[k]?=w.heap[k]?:=λk hk =>
    ⟨by rw[MW];omega,EO hk.1 hk.2⟩
   have:=aqQ hg (Rd.move hm (bD x)) (Rd.move hm (bD y)) (hcf _ (List.getElem_mem _) _ (List.getElem_mem _))
    (ae.aV hl.gP λk hk h0=>by
     have bm:k≠g1:=λh=>by rw[h,gD]at h0;rcases h0 with h0|h0<;>cases h0
     have:=hm k ⟨hk,bm⟩;exact⟨.inl (if_pos this.1),this.2⟩)
   simpa using this
  have KX:SWO (ltOf λx y:Fin xs.length=>fR u eT xs[x] xs[y]):=by
   have hv:∀j:Fin xs.length,xs[j]∈xs:=λj=>hV _ (List.getElem_mem _);refine⟨λx=>?_,λx y z h1 h2=>?_,λx y z h1 h2=>?_⟩
   ·simp only[ltOf,decide_eq_false_iff_not];exact hO.irrefl _ (hv x)
   ·simp only[ltOf,decide_eq_true_eq]at h1 h2 ⊢;exact hO.trans _ _ _ (hv x) (hv y) (hv z) h1 h2
   ·simp only[ltOf,decide_eq_false_iff_not]at h1 h2 ⊢;exact hO.ntrans _ _ _ (hv x) (hv y) (hv z) h1 h2
  have main:=AnyQ.slices_SortFunc L u.sz aE zE enc hk dY _ KX g #[] g1 0 cap d w eg amf hH pW (by rw[iv];exact hlen);rw[iv]at main;refine Calls.mono main ?_
  rintro e1 w' ⟨rfl,d',m,os,hp,hs,rfl⟩
  obtain⟨hp1,_,DT⟩:=hp;have Yk:d'.size=xs.length:=hp1.trans iv;have YR:d'.toList.Perm (List.finRange xs.length):=by
   have ea:d'.extract 0 xs.length=d':=Array.extract_eq_self_of_le (by omega);have eb:d.extract 0 xs.length=d:=Array.extract_eq_self_of_le (by omega);rw[ea,eb]at DT;have ec:d.toList=List.finRange xs.length:=by simp[d,List.finRange]
   rw[<-ec];exact DT
  obtain⟨_,ane,K3⟩:=aqn YR;have qb:d'.toList.map (λj=>xs[j])=fi (fR u eT) xs:=by
   refine acj hO hV ?_ ?_
   ·have:=YR.map (λj:Fin xs.length=>xs[j]);refine this.trans (List.Perm.of_eq ?_);apply List.ext_getElem
    ·simp
    ·intro i h1 h2;simp
   ·rw[List.pairwise_map,List.pairwise_iff_getElem];intro i j hi hj nh;have sJ:i<d'.size:=by simpa using hi
    have hj':j<d'.size:=by simpa using hj
    have:=hs i j (Nat.zero_le _) nh (by omega);rw[getElem!_pos d' j hj',getElem!_pos d' i sJ]at this;simpa[ltOf]using this
  let pos:Nat->Nat:=λe=>if h:e<xs.length then d'.toList.idxOf ⟨e,h⟩else e
  have aqr:∀j (h:j<d'.size),pos d'[j].1=j:=λj h=>by
   show (if h:_ then _ else _)=j
   rw[dif_pos d'[j].2];exact ane j h
  have aqq:∀a b,pos a=pos b->a=b:=λa b iW=>by
   have iW:(if h:a<xs.length then d'.toList.idxOf ⟨a,h⟩else a)=(if h:b<xs.length then d'.toList.idxOf ⟨b,h⟩else b):=iW
   by_cases ha:a<xs.length
   ·obtain⟨a1,a2,a3⟩:=K3 ⟨a,ha⟩;by_cases hb:b<xs.length
    ·obtain⟨b1,b2,b3⟩:=K3 ⟨b,hb⟩;rw[dif_pos ha,dif_pos hb]at iW;have:(⟨a,ha⟩:Fin xs.length)=⟨b,hb⟩:=by rw[<-a3,<-b3];congr 1
     exact congrArg (·.1) this
    ·rw[dif_pos ha,dif_neg hb]at iW;omega
   ·by_cases hb:b<xs.length
    ·obtain⟨b1,b2,b3⟩:=K3 ⟨b,hb⟩;rw[dif_neg ha,dif_pos hb]at iW;omega
    ·rw[dif_neg ha,dif_neg hb]at iW;exact iW
  have lM:∀o o',pos (o / u.sz)*u.sz+o % u.sz=pos (o' / u.sz)*u.sz+o' % u.sz->o=o':=λo o' h=>by
   have m1:=Nat.mod_lt o (show u.sz>0 by omega);have m2:=Nat.mod_lt o' (show u.sz>0 by omega);have e1:(pos (o / u.sz)*u.sz+o % u.sz) / u.sz=pos (o / u.sz):=by
    rw[Nat.mul_comm,Nat.mul_add_div (by omega),Nat.div_eq_of_lt m1,Nat.add_zero]
   have e2:(pos (o' / u.sz)*u.sz+o' % u.sz) / u.sz=pos (o' / u.sz):=by
    rw[Nat.mul_comm,Nat.mul_add_div (by omega),Nat.div_eq_of_lt m2,Nat.add_zero]
   have e3:=aqq _ _ (e1.symm.trans ((congrArg (· / u.sz) h).trans e2));rw[e3]at h;have h':o % u.sz=o' % u.sz:=by omega
   rw[<-Nat.div_add_mod o u.sz,<-Nat.div_add_mod o' u.sz,e3,h']
  refine⟨[],kl w (sortWorldK enc u.sz w g1 0 m d' os) L0 u.sz pos,rfl,⟨rfl,rfl,rfl,?_,?_,λk hk h0=>?_,λk hk=>?_,λk k' s q e e'=>?_,λk s q h=>.inr ?_⟩,rfl,?_⟩
  ·rw[MW];omega
  ·show w.drawn<=w.drawn+m;omega
  ·refine⟨MU hk (λo rest h=>?_),EO hk (λh=>?_)⟩
   ·rcases h0 with h0|h0<;>rw[h0]at h<;>cases h
   ·rw[h,gD]at h0;rcases h0 with h0|h0<;>cases h0
  ·have hz:=hk;rw[MW]at hz;unfold kl;rw[if_neg (by omega),if_neg (by omega)]
  ·obtain⟨_,h1⟩:=MV e;obtain⟨_,h2⟩:=MV e';rcases h1 with⟨o,rest,rfl,h3,rfl⟩|⟨h3,h4⟩
   ·rcases h2 with⟨o',fA,_,h5,h6⟩|⟨h5,h6⟩
    ·simp only[List.cons.injEq,true_and]at h6;obtain⟨h7,rfl⟩:=h6;rw[lM _ _ h7]at h3;exact hl.inj _ _ _ _ h3 h5
    ·exact absurd h5 (h6 _ _)
   ·rcases h2 with⟨o',fA,rfl,h5,rfl⟩|⟨h5,h6⟩
    ·exact absurd h3 (h4 _ _)
    ·exact hl.inj _ _ _ _ h3 h5
  ·obtain⟨_,h1⟩:=MV h;rcases h1 with⟨o,rest,rfl,h3,rfl⟩|⟨h3,_⟩
   ·exact Nk hl h3
   ·exact Nk hl h3
  ·refine⟨_,_,[_],rfl,rfl,?_,_,_,rfl,rfl⟩;simp only[Own];have KT:(fi (fR u eT) xs).length=xs.length:=(qF (fR u eT) xs).length_eq;refine .inr ⟨g1,cap,_,by rw[KT],?_,ari KN,by rw[KT];exact DD,YE,by simp[Sort.putCells,oA],λj hj=>?_⟩
   ·rw[MU pW (λo rest h=>by rw[gD]at h;simp at h)];exact gD
   ·have hjn:j<xs.length:=by rw[<-KT];exact hj
    have kJ:j<d'.size:=by rw[Yk];exact hjn
    have he:(fi (fR u eT) xs)[j]=xs[d'[j]]:=by
     rw[List.getElem_of_eq qb.symm hj,List.getElem_map,Array.getElem_toList]
    have hw:=aqY (enc:=enc) hk (dk:=d') (cur:=cur) (by rw[Yk];exact oE) kJ;rw[getElem!_pos d' j kJ]at hw;have hmv:=Own.move (w':=sortWorldK enc u.sz w g1 0 m d' os) (L':=kl w (sortWorldK enc u.sz w g1 0 m d' os) L0 u.sz pos) (S':=λk=>kl w (sortWorldK enc u.sz w g1 0 m d' os) L0 u.sz pos k = .au) (s':=0) (q2:=[0]) (o2:=j*u.sz)
     (λk hk=>by
      have hk:L0 k = .au:=hk;have jP:k<w.heap.size:=ax (by rw[hk];simp);exact⟨by rw[MU jP (λo rest h=>by rw[hk]at h;cases h)];exact hk,EO jP (λh=>by rw[h,gD]at hk;cases hk)⟩)
     (λk dd rest hd hk=>by
      have jP:k<w.heap.size:=ax (by rw[hk];simp);refine⟨?_,EO jP (λh=>by rw[h,gD]at hk;simp at hk)⟩;have iu:dd<u.sz:=hd;rw[arh jP hk];have e1:(d'[j].1*u.sz+dd) / u.sz=d'[j].1:=by rw[Nat.mul_comm,Nat.mul_add_div (by omega),Nat.div_eq_of_lt iu,Nat.add_zero]
      have e2:(d'[j].1*u.sz+dd) % u.sz=dd:=by rw[Nat.mul_comm,Nat.mul_add_mod,Nat.mod_eq_of_lt iu]
      rw[e1,e2,aqr j kJ];rfl) (DH d'[j])
    have amC:Own (sortWorldK enc u.sz w g1 0 m d' os) (kl w (sortWorldK enc u.sz w g1 0 m d' os) L0 u.sz pos) (λk=>kl w (sortWorldK enc u.sz w g1 0 m d' os) L0 u.sz pos k = .au) 0 n' (.agg u) (fi (fR u eT) xs)[j] [0] (j*u.sz) (((Sort.putCells id 0 (flatK enc u.sz d') cur).toList.drop (j*u.sz)).take u.sz):=by
     rw[he,hw];exact hmv
    exact amC
end
end Go.Proofs.YthfgcmoipebheaaGreat.P.Am
