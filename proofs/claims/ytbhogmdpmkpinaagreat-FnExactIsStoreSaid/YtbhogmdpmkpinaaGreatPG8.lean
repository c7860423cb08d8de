/- A part of the proof: Am32,Am33,Am34,Am35,Am36,Am50,Am65,Am51,Am52,Am53. No conditions. -/
import Derived.Test.YtbhogmdpmkpinaaGreatPG7
import Derived.RowKit3
import Derived.ChangeSame
import Derived.Handed
import Derived.Sort.Grow
import Derived.Deep.Draws
import Derived.Shelf.GgSortFunc.InsertionK
import Derived.Shelf.SlSortCmp.NoneTotal
set_option linter.unusedVariables false
set_option linter.unusedSimpArgs false
namespace Go.Proofs.YtbhogmdpmkpinaaGreat.P.Am
variable{α:Type}{t:Ty}{k n:Nat}{a:Addr}{q:List Nat}{e:TypeId}{f:FuncId}{ps:List (Ty×Mode)}
abbrev vJ:=List (Nat×Ty×Nat)
def xm:vJ->TypeId->Option (Ty×Nat)
 | [],_=>none
 | (k,t)::l,T=>cond (k==T) (some t) (xm l T)
def mkCtx(py:vJ):Ctx:={ ty:=λT=>(xm py T).map (·.1),bytes:=λT=>((xm py T).map (·.2)).getD 0 }
def MK:Value->Value->Bool
 | .int k n,.int k' n'=>k==k'&&n==n'
 | .bool b,.bool b'=>b==b'
 | .string s,.string s'=>s.size==0&&s'.size==0
 | .pointer none,.pointer none=>true
 | .nilFunc,.nilFunc=>true
 | .nilIface,.nilIface=>true
 | .slice none a b,.slice none a' b'=>a==a'&&b==b'
 | _,_=>false
def rk:List Value->List Value->Bool
 | [],[]=>true
 | a::l,b::l'=>MK a b&&rk l l'
 | _,_=>false
def ga(t:Ty)(z:Value):Bool:=match t with
 | .agg _=>match z with
  | .agg cs=>rk t.cu cs.toList
  | _=>false
 | _=>rk t.cu [z]
theorem Wc{s:ByteArray}(h:(s.size==0)=true):s=ByteArray.empty:=by
 obtain⟨d⟩:=s;have:d.size=0:=by simpa[ByteArray.size]using h
 have:d=#[]:=Array.eq_empty_of_size_eq_zero this;rw[this];rfl
theorem axl[af]{a b:Value}(h:MK a b=true):a=b:=by
 unfold MK at h;split at h
 ·simp only[Bool.and_eq_true,beq_iff_eq]at h;rw[h.1,h.2]
 ·simp only[beq_iff_eq]at h;rw[h]
 ·simp only[Bool.and_eq_true]at h;rw[Wc h.1,Wc h.2]
 ·rfl
 ·rfl
 ·rfl
 ·simp only[Bool.and_eq_true,beq_iff_eq]at h;rw[h.1,h.2]
 ·cases h
theorem ML[af]:{l l':List Value}->rk l l'=true->l=l'
 | [],[],_=>rfl
 | a::l,b::l',h=>by
  simp only[rk,Bool.and_eq_true]at h;rw[axl h.1,ML h.2]
 | [],_::_,h=>by simp[rk]at h
 | _::_,[],h=>by simp[rk]at h
theorem alf[af]{t:Ty}{z:Value}(h:ga t z=true):Form t t.cu z:=by
 unfold ga at h;split at h
 ·split at h
  ·rename_i cs;have:=ML h;show Value.agg cs=_;rw[this]
  ·cases h
 ·have:=ML h;cases t with
  | agg t=>rename_i hn;exact absurd rfl (hn t)
  | _=>exact this
def v8(C:Ctx)(t:Ty):Nat->List Field->Bool
 | i,[]=>(bB i t).isNone
 | i,f::l=>(match bB i t,C.ty f.type with
  | some (o, t1), some t2 => o == f.offset && decide (t1 = t2) && t1.sz != 0 && f.name != "_"
  | _,_=>false)&&v8 C t (i+1) l
def vZ(te:Ty)(t:Ty):Nat->Nat->Bool
 | k,0=>(bB (k+1) t).isNone
 | k,m+1=>(match bB (k+1) t with
  | some (o,t1)=>o==k*te.sz&&decide (t1=te)
  | none=>false)&&vZ te t (k+1) m
theorem WH{te:Ty}:{m k:Nat}->vZ te t k m=true->(∀j,j<m->bB (k+j+1) t=some ((k+j)*te.sz,te))/\bB (k+m+1) t=none
 | 0,k,h=>⟨λj hj=>absurd hj (by omega),by simpa[vZ]using h⟩
 | m+1,k,h=>by
  simp only[vZ,Bool.and_eq_true]at h;obtain⟨h1,h2⟩:=h;obtain⟨h3,h4⟩:=WH h2;refine⟨λj hj=>?_,by rw[show k+(m+1)+1=k+1+m+1 by omega];exact h4⟩;cases j with
  | zero =>
   split at h1
   ·rename_i o t1 hc;simp only[Bool.and_eq_true,beq_iff_eq,decide_eq_true_eq]at h1;obtain⟨rfl,rfl⟩:=h1;simpa using hc
   ·cases h1
  | succ j =>
   have:=h3 j (by omega)
   rwa [show k+1+j=k+(j+1)by omega]at this
def VZ(C:Ctx)(t:Ty)(n:Nat)(e:TypeId):Bool:=match C.ty e with
 | some te => !te.isAgg&&decide (2<=n)&&vZ te t 0 n
 | none=>false
def MC(P:Program)(C:Ctx)(T:TypeId)(t:Ty):Bool:=match t,P.underlying T with
 | .int k,some (.int k')=>k==k'
 | .bool,some .bool=>true
 | .str,some .string=>true
 | .raw _,some (.pointer _)=>true
 | .raw _,some (.func ..)=>true
 | .raw _,some (.interface _)=>true
 | .agg t',some (.struct fs) => !t'.eN&&(v8 C t' 0 fs.toList && !P.stoodInHeld T && !P.eqGuardType P.depth T)
 | .agg t',some (.array n e)=>t'.eN&&VZ C t' n e
 | .slice e t',some (.slice e')=>e==e'&&decide (C.ty e=some t')
 | _,_=>false
def MA(P:Program)(C:Ctx)(T:TypeId)(t:Ty):Bool:=(match P.info? T with
 | some i=>i.size==t.sz&&i.bytes==C.bytes T&&(match i.zero with
  | some z=>ga t z
  | none=>false)
 | none=>false)&&MC P C T t
theorem Wo{t:Ty}:{i:Nat}->bB i t=none->∀j,i<=j->bB j t=none:=by
 have step:∀(i:Nat) (t:Ty),bB i t=none->bB (i+1) t=none:=by
  intro i;induction i with
  | zero=>intro t h;cases t<;>simp[bB]at h
  | succ i ih =>
   intro t h;cases t with
   | pair a b =>
    simp only[bB,Option.map_eq_none_iff]at h ⊢;exact ih b h
   | _=>rfl
 intro i h j hj;induction hj with
 | refl=>exact h
 | step _ ih=>exact step _ _ ih
theorem WL{C : Ctx}:{i : Nat} -> {l : List Field} -> v8 C t i l = true -> (∀ (j : Nat) (f : Field), l[j]? = some f -> ∃ t1, bB (i + j) t = some (f.offset, t1) /\ C.ty f.type = some t1 /\ t1.sz ≠ 0 /\ f.name ≠ "_") /\ bB (i + l.length) t = none
 | i,[],h=>⟨λj f hj=>by simp at hj,by simpa[v8]using h⟩
 | i,f::l,h=>by
  simp only[v8,Bool.and_eq_true]at h;obtain⟨h1,h2⟩:=h;obtain⟨h3,h4⟩:=WL h2;refine⟨λj f' hj=>?_,by rw[List.length_cons,show i+(l.length+1)=i+1+l.length by omega];exact h4⟩;cases j with
  | zero =>
   simp only[List.getElem?_cons_zero,Option.some.injEq]at hj;subst hj;split at h1
   ·rename_i o t1 t2 hc ht;simp only[Bool.and_eq_true,beq_iff_eq,decide_eq_true_eq,bne_iff_ne]at h1;obtain⟨⟨⟨rfl,rfl⟩,h5⟩,h6⟩:=h1;exact⟨t1,by rw[Nat.add_zero];exact hc,ht,h5,h6⟩
   ·cases h1
  | succ j =>
   have:=h3 j f' (by simpa using hj)
   rwa [show i+1+j=i+(j+1)by omega]at this
theorem aw5[af]{P:Program}{C:Ctx}{T:TypeId}:MC P C T t=true->match t with
  | .int k=>P.underlying T=some (.int k)
  | .bool=>P.underlying T=some .bool
  | .str=>P.underlying T=some .string
  | .raw _=>∃d,P.underlying T=some d/\(∀fs,d ≠ .struct fs)/\∀n e,d ≠ .array n e
  | .agg t'=>(t'.eN=false/\(∃fs,P.underlying T=some (.struct fs)/\JG C t' fs)/\P.stoodInHeld T=false/\P.eqGuardType P.depth T=false)\/(t'.eN=true/\MP P C T t')
  | .slice e t'=>P.underlying T=some (.slice e)/\C.ty e=some t'
  | _=>False:=by
 intro h;unfold MC at h;split at h
 ·rename_i hu;rw[beq_iff_eq]at h;subst h;exact hu
 ·assumption
 ·assumption
 ·rename_i hu;exact⟨_,hu,by simp,by simp⟩
 ·rename_i hu;exact⟨_,hu,by simp,by simp⟩
 ·rename_i hu;exact⟨_,hu,by simp,by simp⟩
 ·rename_i t' fs hu;simp only[Bool.and_eq_true,Bool.not_eq_true']at h;obtain⟨h0,⟨h1,h2⟩,h3⟩:=h;obtain⟨h4,h5⟩:=WL h1;refine .inl ⟨h0,⟨fs,hu,λi f hf=>?_,λi r hr=>?_⟩,h2,h3⟩
  ·have:=h4 i f (by simpa using hf)
   rwa [Nat.zero_add]at this
  ·rcases Nat.lt_or_ge i fs.size with h|h
   ·exact h
   ·rw[Nat.zero_add,Array.length_toList]at h5;rw[Wo h5 i h]at hr;cases hr
 ·rename_i t' n e hu;simp only[Bool.and_eq_true]at h;obtain⟨h0,h1⟩:=h;unfold VZ at h1;split at h1
  ·rename_i te gx;simp only[Bool.and_eq_true,Bool.not_eq_true',decide_eq_true_eq]at h1;obtain⟨⟨h2,h3⟩,h4⟩:=h1;obtain⟨h5,h6⟩:=WH h4;refine .inr ⟨h0,n,e,te,hu,gx,h2,h3,λk hk=>?_,λk r hr=>?_⟩
   ·have:=h5 k hk;simpa using this
   ·rcases Nat.lt_or_ge k n with h|h
    ·exact h
    ·rw[Nat.zero_add]at h6;rw[Wo h6 (k+1) (by omega)]at hr;cases hr
  ·cases h1
 ·rename_i hu;simp only[Bool.and_eq_true,beq_iff_eq,decide_eq_true_eq]at h;obtain⟨rfl,h2⟩:=h;exact⟨hu,h2⟩
 ·cases h
theorem aw4[af]{P:Program}{C:Ctx}{T:TypeId}{t:Ty}(h:MA P C T t=true):jk P C T t:=by
 unfold MA at h;simp only[Bool.and_eq_true]at h;obtain⟨h1,h2⟩:=h;refine⟨?_,by have h3:=aw5 h2;cases t<;>exact h3⟩;split at h1
 ·rename_i i hi;simp only[Bool.and_eq_true,beq_iff_eq]at h1;obtain⟨⟨h3,h4⟩,h5⟩:=h1;split at h5
  ·rename_i z hz;exact⟨i,z,hi,h3,h4,hz,alf h5⟩
  ·cases h5
 ·cases h1
theorem aaf{T:TypeId}{p:Ty×Nat}:{l:vJ}->xm l T=some p->(T,p)∈l
 | [],h=>by cases h
 | (k,t)::l,h=>by
  simp only[xm]at h;cases hk:k==T with
  | true =>
   rw[hk]at h;injection h with h;rw[beq_iff_eq]at hk;subst h hk;simp
  | false =>
   rw[hk]at h;exact List.mem_cons_of_mem _ (aaf h)
theorem akW[af]{P:Program}{py:vJ}(h:py.all (λp=>MA P (mkCtx py) p.1 p.2.1)=true):bD P (mkCtx py):=by
 intro T t ht;obtain⟨p,hp,rfl⟩:=Option.map_eq_some_iff.1 ht;rw[List.all_eq_true]at h;exact aw4 (h _ (aaf hp))
def cY:(t:Ty)->t.den->Prop
 | .int k,x=>k.min<=x/\x<=k.max
 | .bool,_=>True
 | .str,x=>(x:ByteArray).size<=maxLen
 | .raw _,_=>True
 | .cap _ _,_=>True
 | .unit,_=>True
 | .pair a b,x=>cY a x.1/\cY b x.2
 | .agg t,x=>cY t x
 | .slice _ t,xs=>(xs:List t.den).length<=maxLen/\∀x∈(xs:List t.den),cY t x
def Ty.flat:Ty->Bool
 | .raw _=>false
 | .cap _ _=>false
 | .unit=>false
 | .pair a b=>a.flat&&b.flat
 | .agg t=>t.flat
 | .slice _ t=>t.flat
 | _=>true
theorem JM(h:(Ty.agg t).flat=true):t.eN=false:=by
 cases cT:t.eN with
 | false=>rfl
 | true =>
  unfold Ty.eN at cT;split at cT
  ·simp[Ty.flat]at h
  ·cases cT
theorem CH:{t:Ty}->t.flat=true->0<t.sz
 | .int _,_ | .bool,_ | .str,_ | .slice _ _,_=>by simp[Ty.sz]
 | .raw _,h | .cap _ _,h | .unit,h=>by simp[Ty.flat]at h
 | .pair a b,h=>by
  simp only[Ty.flat,Bool.and_eq_true]at h;have:=CH h.1;simp only[Ty.sz];omega
 | .agg t,h=>by simp only[Ty.flat]at h;simpa[Ty.sz]using CH h
theorem JL:{i:Nat}->{t:Ty}->{o:Nat}->{t1:Ty}->bB i t=some (o,t1)->t.flat=true->t1.flat=true
 | 0,.pair a b,o,t1,h,hf=>by simp only[bB,Option.some.injEq,Prod.mk.injEq]at h;obtain⟨rfl,rfl⟩:=h;simp only[Ty.flat,Bool.and_eq_true]at hf;exact hf.1
 | i+1,.pair a b,o,t1,h,hf=>by
  simp only[bB,Option.map_eq_some_iff]at h;obtain⟨⟨o2,t2⟩,h,he⟩:=h;simp only[Prod.mk.injEq]at he;obtain⟨rfl,rfl⟩:=he;simp only[Ty.flat,Bool.and_eq_true]at hf;exact JL h hf.2
 | 0,.int _,_,_,h,hf|0,.bool,_,_,h,hf|0,.str,_,_,h,hf|0,.raw _,_,_,h,hf|0,.cap _ _,_,_,h,hf|0,.unit,_,_,h,hf|0,.agg _,_,_,h,hf|0,.slice _ _,_,_,h,hf=>by
  simp only[bB,Option.some.injEq,Prod.mk.injEq]at h;obtain⟨rfl,rfl⟩:=h;exact hf
def Good(w:World)(t:Ty)(cs:List Value):Prop:=∃x:t.den,Rd w (λk=>k<w.heap.size) t x cs/\cY t x
theorem Xp{w:World}:{t:Ty}->{cs:List Value}->cs.length=t.sz->t ≠ .unit->(∀j r,bB j t=some r->Good w r.2 ((cs.drop r.1).take r.2.sz))->Good w t cs
 | .pair a b,cs,hl,_,h=>by
  obtain⟨x,hx,wx⟩:=h 0 (0,a) rfl;simp only[Ty.sz]at hl;by_cases hb:b = .unit
  ·subst hb;refine⟨(x,()),?_,wx,trivial⟩;simp only[Rd];refine⟨cs,[],by simp,?_,rfl⟩;simp only[List.drop_zero]at hx;rw[List.take_of_length_le (by simp[Ty.sz]at hl;omega)]at hx;exact hx
  ·obtain⟨y,hy,wy⟩:=Xp (t:=b) (cs:=cs.drop a.sz) (by simp;omega) hb (λj r hr=>by
    have:=h (j+1) (a.sz+r.1,r.2) (by simp[bB,hr])
    rwa [<-List.drop_drop]at this)
   refine⟨(x,y),?_,wx,wy⟩;simp only[Rd];exact⟨cs.take a.sz,cs.drop a.sz,by simp,by simpa using hx,hy⟩
 | .int _,cs,hl,_,h | .bool,cs,hl,_,h | .str,cs,hl,_,h | .raw _,cs,hl,_,h | .cap _ _,cs,hl,_,h | .agg _,cs,hl,_,h | .slice _ _,cs,hl,_,h=>by
  have:=h 0 _ rfl;simp only[List.drop_zero]at this
  rwa [List.take_of_length_le (Nat.le_of_eq hl)]at this
 | .unit,cs,_,hu,_=>absurd rfl hu
theorem Dy{β:Type}{f:α->Option β}:{l:List α}->{ys:List β}->l.mapM f=some ys->ys.length=l.length/\∀i (h:i<l.length),∃y,f l[i]=some y/\ys[i]?=some y
 | [],ys,h=>by simp at h;subst h;exact⟨rfl,λi h=>absurd h (by simp)⟩
 | a::l,ys,h=>by
  simp only[List.mapM_cons,Option.bind_eq_bind,Option.bind_eq_some_iff,Option.pure_def,Option.some.injEq]at h;obtain⟨y,hy,MJ,qx,rfl⟩:=h;obtain⟨h1,h2⟩:=Dy qx;refine⟨by simp[h1],λi hi=>?_⟩;cases i with
  | zero=>exact⟨y,hy,rfl⟩
  | succ i =>
   obtain⟨z,hz,fk⟩:=h2 i (by simpa using hi);exact⟨z,by simpa using hz,by simpa using fk⟩
theorem Wl{Q:Nat->α->Prop}:{n:Nat}->(∀i,i<n->∃x,Q i x)->∃xs:List α,xs.length=n/\∀i (h:i<xs.length),Q i xs[i]
 | 0,_=>⟨[],rfl,λi h=>absurd h (by simp)⟩
 | n+1,h=>by
  obtain⟨xs,hl,hq⟩:=Wl (n:=n) (λi hi=>h i (by omega));obtain⟨x,hx⟩:=h n (by omega);refine⟨xs++[x],by simp[hl],λi hi=>?_⟩;by_cases gm:i<xs.length
  ·rw[List.getElem_append_left gm];exact hq i gm
  ·have:i=n:=by simp at hi;omega
   subst this;rw[List.getElem_append_right (by omega)];simpa using hx
theorem Wi[af]{w:World}{base:Nat}{es:List Value}(h:w.cells? base a n=some es):es.length=n/\∀i v,es[i]?=some v->w.cell? (a.add i)=some v:=by
 unfold World.cells? at h;split at h
 ·obtain⟨h1,h2⟩:=Dy h;simp only[List.length_range]at h1;refine⟨h1,λi v hv=>?_⟩;obtain⟨hi,_⟩:=List.getElem?_eq_some_iff.1 hv;obtain⟨y,hy,tp⟩:=h2 i (by simpa using by omega);rw[hv]at tp;injection tp with tp;subst tp;simpa using hy
 ·cases h
theorem Wh{w:World}{v:Value}(h:w.cell? a=some v):a.block<w.heap.size/\a.spot=none:=by
 unfold World.cell? at h;split at h
 ·rename_i c _ _ hh;split at h
  ·cases h
  ·rename_i hs;exact⟨(Array.getElem?_eq_some_iff.1 hh).1,by simpa using hs⟩
 ·cases h
theorem add_add(a:Addr)(i j:Nat)(h:a.spot=none):(a.add i).add j=⟨a.block,a.off+(i+j),none⟩:=by
 obtain⟨b,o,s⟩:=a;subst h;unfold Addr.add;split<;>split<;>simp_all<;>omega
section
variable{H:Type}{enc:TypeId×Value->H}{P:Program}{C:Ctx}{w:World}{base:Nat}{spare:Nat->Bool}{held:Bool}
theorem trod_slice{fuel:Nat}{X:TypeId}{cs:List Value}{r:DataW H×List MemPlace}(hu:P.underlying X=some (.slice e))(h:DataW.trod enc P w base spare held (fuel+1) X cs=some r):
  cs=[.slice none 0 0]\/∃a len cap elems,cs=[.slice (some a) len cap]/\len<=cap/\cap<=maxLen /\
   (List.range len).mapM (λi=>(w.cells? base (a.add (i*P.cellsOf e)) (P.cellsOf e)).bind (DataW.trod enc P w base spare held fuel e))=some elems:=by
 simp only[DataW.trod,hu]at h;rcases cs with _|⟨c,_|⟨c2,cs⟩⟩
 ·simp at h
 ·cases c with
  | slice A len cap =>
   cases A with
   | none =>
    rcases len with _|len<;>rcases cap with _|cap<;>simp at h ⊢
   | some a =>
    right;dsimp only at h;split at h
    ·rename_i hc;obtain⟨elems,h1,_⟩:=Option.bind_eq_some_iff.1 h;exact⟨a,len,cap,elems,rfl,hc.2.1,hc.2.2,h1⟩
    ·cases h
  | _=>simp at h
 ·simp at h
theorem trod_good[af](hC:bD P C):∀(fuel:Nat) (t:Ty) (X:TypeId) (cs:List Value) (r:DataW H×List MemPlace),C.ty X=some t->t.flat=true->DataW.trod enc P w base spare held fuel X cs=some r->Good w t cs:=by
 intro fuel;induction fuel with
 | zero=>intro t X cs r _ _ h;simp[DataW.trod]at h
 | succ fuel ih =>
  intro t X cs r hX hf h;have qt:=hC X t hX;have hu:=qt.b7;obtain⟨inf,z,wH,dq,_⟩:=qt.info;have J4:P.cellsOf X=t.sz:=by simp[Program.cellsOf,wH,dq]
  cases t with
  | int k =>
   simp only[DataW.trod]at h;rw[hu]at h;split at h<;>simp_all;obtain⟨h1,_⟩:=h;obtain⟨rfl,h1⟩:=h1;simp only[Lit.wf,Bool.and_eq_true,decide_eq_true_eq]at h1;exact⟨_,show _=_ from rfl,h1⟩
  | bool =>
   simp only[DataW.trod]at h;rw[hu]at h;split at h<;>simp_all;exact⟨_,show _=_ from rfl,trivial⟩
  | str =>
   simp only[DataW.trod]at h;rw[hu]at h;split at h<;>simp_all;exact⟨_,show _=_ from rfl,h.1⟩
  | raw z=>simp[Ty.flat]at hf
  | cap k0 t0=>simp[Ty.flat]at hf
  | unit=>simp[Ty.flat]at hf
  | pair a b=>exact hu.elim
  | slice e te =>
   obtain⟨hu,he⟩:=hu;have wD:te.flat=true:=hf;have wv:P.cellsOf e=te.sz:=by
    obtain⟨YI,z',wI,wJ,_⟩:=(hC e te he).info;simp[Program.cellsOf,wI,wJ]
   have Kp:=CH wD;rcases trod_slice hu h with rfl|⟨a,len,cap,elems,rfl,X5,CZ,h1⟩
   ·exact⟨[],by simp only[Rd];exact⟨none,0,rfl,by simp,by simp,by simp⟩,by simp[cY,maxLen]⟩
   ·rw[wv]at h1;obtain⟨h2,h3⟩:=Dy h1;have nI:∀i,i<len->∃es,w.cells? base (a.add (i*te.sz)) te.sz=some es/\Good w te es:=by
     intro i hi;obtain⟨y,hy,_⟩:=h3 i (by simpa using hi);simp only[List.getElem_range]at hy;obtain⟨es,nJ,hy⟩:=Option.bind_eq_some_iff.1 hy;exact⟨es,nJ,ih te _ es y he wD hy⟩
    obtain⟨xs,ky,jA⟩:=Wl (Q:=λi x=>∃es,w.cells? base (a.add (i*te.sz)) te.sz=some es/\Rd w (λk=>k<w.heap.size) te x es/\cY te x) (n:=len) (λi hi=>by
     obtain⟨es,nJ,x,hx,wx⟩:=nI i hi;exact⟨x,es,nJ,hx,wx⟩)
    refine⟨xs,?_,?_⟩
    ·simp only[Rd];refine⟨some a,cap,by rw[ky],by rw[ky];exact X5,by simp,λbo=>?_⟩;have h0:0<xs.length:=List.length_pos_iff.2 bo;obtain⟨es,nJ,_⟩:=jA 0 h0;obtain⟨kl,CW⟩:=Wi nJ;obtain⟨v0,KE⟩:∃v,es[0]?=some v:=⟨_,List.getElem?_eq_getElem (by omega)⟩;obtain⟨ax,w7⟩:=Wh (CW 0 v0 KE);have am0:a.spot=none:=by simpa[Addr.add]using w7
     have hblk:a.block<w.heap.size:=by simpa[Addr.add]using ax
     refine⟨a.block,a.off,by obtain⟨b,o,s⟩:=a;simp_all,hblk,λj hj=>?_⟩;obtain⟨es,nJ,bC,_⟩:=jA j hj;refine⟨es,bC,λi v hv=>?_⟩;have:=(Wi nJ).2 i v hv
     rwa [add_add a _ _ am0]at this
    ·refine⟨by rw[ky];omega,λx hx=>?_⟩;obtain⟨i,hi,rfl⟩:=List.mem_iff_getElem.1 hx;obtain⟨es,_,_,wx⟩:=jA i hi;exact wx
  | agg t' =>
   obtain⟨⟨fs,hu,nK,iR⟩,_⟩:=(hC X _ hX).str (JM hf);simp only[DataW.trod]at h;rw[hu]at h;have h':(if cs.length=P.cellsOf X then (fs.toList.mapM λf=>DataW.trod enc P w base spare held fuel f.type ((cs.drop f.offset).take (P.cellsOf f.type))).map λxs=>(DataW.agg (xs.map (·.1)),xs.flatMap (·.2))else none)=some r:=by
    split at h<;>simp_all
   clear h;split at h'
   ·rename_i hl;obtain⟨xs,jA,_⟩:=Option.map_eq_some_iff.1 h';obtain⟨_,h3⟩:=Dy jA;have C4:t'.flat=true:=hf;have bo:t' ≠ .unit:=by rintro rfl;simp[Ty.flat]at C4
    have dT:cs.length=t'.sz:=by rw[hl,J4];rfl
    have:Good w t' cs:=Xp dT bo (λj r hr=>by
     have ax:=iR j r hr;obtain⟨t1,e1,e2,_⟩:=nK j fs[j] (Array.getElem?_eq_getElem ax);rw[hr]at e1;injection e1 with e1;subst e1;obtain⟨y,hy,_⟩:=h3 j (by simpa using ax);simp only[Array.getElem_toList]at hy;obtain⟨YI,z',wI,wJ,_⟩:=(hC _ _ e2).info;have wv:P.cellsOf fs[j].type=t1.sz:=by simp[Program.cellsOf,wI,wJ]
     rw[wv]at hy;exact ih t1 _ _ y e2 (JL hr C4) hy)
    obtain⟨x,hx,wx⟩:=this;exact⟨x,by simp only[Rd];exact hx,wx⟩
   ·cases h'
end
theorem mapM_congr{β:Type}{f g:α->Option β}:{l:List α}->{ys:List β}->l.mapM f=some ys->(∀a y,f a=some y->y∈ys->g a=some y)->l.mapM g=some ys
 | [],ys,h,_=>by simpa using h
 | a::l,ys,h,H=>by
  simp only[List.mapM_cons,Option.bind_eq_bind,Option.bind_eq_some_iff,Option.pure_def,Option.some.injEq]at h;obtain⟨y,hy,MJ,qx,rfl⟩:=h;have h1:=H a y hy (by simp);have h2:=mapM_congr qx (λa y ha hm=>H a y ha (by simp[hm]));simp[h1,h2]
section
variable{H:Type}{enc:TypeId×Value->H}{P:Program}{C:Ctx}{w w':World}{base:Nat}{sp:Nat->Bool}{held:Bool}
theorem akV[af](hH:∀k,k<w.heap.size->w'.heap[k]?=w.heap[k]?){es:List Value}(h:w.cells? base a n=some es):w'.cells? base a n=some es:=by
 unfold World.cells? at h ⊢;split at h
 ·rename_i hb;rw[if_pos hb];refine mapM_congr h (λi v hv _=>?_);have:=(Wh hv).1;rw[World.cell?_of_block (hH _ this)];exact hv
 ·cases h
theorem aqv{a:Addr}{i:Nat}(h:i<n):∃p∈MemPlace.row a n,p.block=a.block:=by
 unfold MemPlace.row;exact⟨_,List.mem_map.2 ⟨i,by simpa using h,rfl⟩,by simp[MemPlace.block]⟩
theorem arO{fuel:Nat}{X:TypeId}{len cap:Nat}{r:DataW H×List MemPlace}{sp:Nat->Bool}(hu:P.underlying X=some (.slice e))(h:DataW.trod enc P w base sp held (fuel+1) X [.slice (some a) len cap]=some r):
  (base<=a.block/\len<=cap/\cap<=maxLen)/\∃elems rest,(List.range len).mapM (λi=>(w.cells? base (a.add (i*P.cellsOf e)) (P.cellsOf e)).bind (DataW.trod enc P w base sp held fuel e))=some elems /\
   (if sp a.block=true then (List.range (cap - len)).mapM (λj=>(w.cells? base (a.add ((len+j)*P.cellsOf e)) (P.cellsOf e)).bind (DataW.trod enc P w base sp held fuel e))else some [])=some rest /\
   r=(.slice (elems.map (·.1)) (rest.map (·.1)),MemPlace.row a ((elems.length+rest.length)*P.cellsOf e)++(elems++rest).flatMap (·.2)):=by
 simp only[DataW.trod,hu]at h;split at h
 ·rename_i hc;obtain⟨elems,h1,h2⟩:=Option.bind_eq_some_iff.1 h;obtain⟨rest,h3,h4⟩:=Option.map_eq_some_iff.1 h2;exact⟨hc,elems,rest,h1,h3,h4.symm⟩
 ·cases h
theorem arN[af](hC:bD P C)(hH:∀k,k<w.heap.size->w'.heap[k]?=w.heap[k]?):∀(fuel:Nat) (t:Ty) (X:TypeId) (cs:List Value) (r:DataW H×List MemPlace),C.ty X=some t->t.flat=true ->
  DataW.trod enc P w base (λ_=>true) held fuel X cs=some r->(∀p∈r.2,sp p.block=true)->DataW.trod enc P w' base sp held fuel X cs=some r:=by
 intro fuel;induction fuel with
 | zero=>intro t X cs r _ _ h;simp[DataW.trod]at h
 | succ fuel ih =>
  intro t X cs r hX hf h hs;have hu:=(hC X t hX).b7;cases t with
  | int k =>
   simp only[DataW.trod,hu]at h ⊢;rcases cs with _|⟨c,_|⟨c2,cs⟩⟩
   ·simp at h
   ·cases c<;>simp at h ⊢<;>exact h
   ·simp at h
  | bool =>
   simp only[DataW.trod,hu]at h ⊢;rcases cs with _|⟨c,_|⟨c2,cs⟩⟩
   ·simp at h
   ·cases c<;>simp at h ⊢<;>exact h
   ·simp at h
  | str =>
   simp only[DataW.trod,hu]at h ⊢;rcases cs with _|⟨c,_|⟨c2,cs⟩⟩
   ·simp at h
   ·cases c<;>simp at h ⊢<;>exact h
   ·simp at h
  | raw z=>simp[Ty.flat]at hf
  | cap k0 t0=>simp[Ty.flat]at hf
  | unit=>simp[Ty.flat]at hf
  | pair a b=>exact hu.elim
  | slice e te =>
   obtain⟨hu,he⟩:=hu;have wD:te.flat=true:=hf;have wv:P.cellsOf e=te.sz:=by
    obtain⟨YI,z',wI,wJ,_⟩:=(hC e te he).info;simp[Program.cellsOf,wI,wJ]
   have Kp:=CH wD;rcases trod_slice hu h with rfl|⟨a,len,cap,_,rfl,_,_,_⟩
   ·simp only[DataW.trod,hu]at h ⊢;simpa using h
   ·obtain⟨hc,elems,rest,h1,h2,rfl⟩:=arO hu h;rw[if_pos rfl]at h2;have xb:∀(i:Nat) (y:DataW H×List MemPlace),((w.cells? base (a.add (i*P.cellsOf e)) (P.cellsOf e)).bind (DataW.trod enc P w base (λ_=>true) held fuel e))=some y->(∀p∈y.2,sp p.block=true) ->
      ((w'.cells? base (a.add (i*P.cellsOf e)) (P.cellsOf e)).bind (DataW.trod enc P w' base sp held fuel e))=some y:=by
     intro i y hy hp;obtain⟨es,nJ,hy⟩:=Option.bind_eq_some_iff.1 hy;rw[akV hH nJ];exact ih te e es y he wD hy hp
    have gn:∀y,(y∈elems\/y∈rest)->∀p∈y.2,sp p.block=true:=λy hy p hp=>hs p (by
     simp only[List.mem_append,List.mem_flatMap];exact .inr ⟨y,hy,hp⟩)
    have g1:=mapM_congr h1 (λi y hy hm=>xb i y hy (gn y (.inl hm)));have g2:=mapM_congr h2 (λj y hy hm=>xb (len+j) y hy (gn y (.inr hm)));simp only[DataW.trod,hu];rw[if_pos hc,g1,Option.bind_some];by_cases w7:sp a.block=true
    ·rw[if_pos w7,g2];rfl
    ·have hz:elems.length+rest.length=0:=by
      apply Classical.byContradiction;intro bo;have:0<(elems.length+rest.length)*P.cellsOf e:=by rw[wv];exact Nat.mul_pos (by omega) Kp
      obtain⟨p,hp,hb⟩:=aqv (a:=a) this;exact w7 (by rw[<-hb];exact hs p (List.mem_append_left _ hp))
     have:rest=[]:=List.eq_nil_of_length_eq_zero (by omega);subst this;rw[if_neg w7];rfl
  | agg t' =>
   obtain⟨⟨fs,hu,nK,iR⟩,_⟩:=(hC X _ hX).str (JM hf);simp only[DataW.trod,hu]at h ⊢;split at h
   ·rename_i hl;rw[if_pos hl];obtain⟨xs,jA,rfl⟩:=Option.map_eq_some_iff.1 h;have C4:t'.flat=true:=hf;have:fs.toList.mapM (λf=>DataW.trod enc P w' base sp held fuel f.type ((cs.drop f.offset).take (P.cellsOf f.type)))=some xs:=by
     have gen:∀(l:List Field) (xs:List (DataW H×List MemPlace)),(∀f∈l,f∈fs.toList)->l.mapM (λf=>DataW.trod enc P w base (λ_=>true) held fuel f.type ((cs.drop f.offset).take (P.cellsOf f.type)))=some xs->(∀y∈xs,∀p∈y.2,sp p.block=true) ->
       l.mapM (λf=>DataW.trod enc P w' base sp held fuel f.type ((cs.drop f.offset).take (P.cellsOf f.type)))=some xs:=by
      intro l;induction l with
      | nil=>intro xs _ h _;simpa using h
      | cons f l ihl =>
       intro xs Yy h hp;simp only[List.mapM_cons,Option.bind_eq_bind,Option.bind_eq_some_iff,Option.pure_def,Option.some.injEq]at h;obtain⟨y,hy,MJ,qx,rfl⟩:=h;obtain⟨j,hj⟩:=List.mem_iff_getElem?.1 (Yy f (by simp));obtain⟨t1,e1,e2,_⟩:=nK j f (by simpa using hj);have g1:=ih t1 _ _ y e2 (JL e1 C4) hy (hp y (by simp));have g2:=ihl MJ (λf hf=>Yy f (by simp[hf])) qx (λz hz=>hp z (by simp[hz]));simp[g1,g2]
     exact gen _ _ (λ_ h=>h) jA (λy hy p hp=>hs p (by
      simp only[List.mem_flatMap];exact⟨y,hy,hp⟩))
    rw[this];rfl
   ·cases h
end
open Go.ChangeShapes Go.WideShapes
section
variable{H:Type}{enc:TypeId×Value->H}{P:Program}{C:Ctx}{w w':World}
theorem apO[af](hC:bD P C){X:TypeId}{t:Ty}{v:Value}{base:Nat}(hX:C.ty X=some t)(hf:t.flat=true)(aC:Value.okWide P w .any base X v):Form t v.cells.toList v:=by
 have hu:=(hC X t hX).b7;unfold Value.okWide at aC;cases t with
 | agg t' =>
  obtain⟨⟨fs,hu,_⟩,_⟩:=(hC X _ hX).str (JM hf);rw[hu]at aC;obtain⟨cs,rfl,_⟩:=aC;simp[Form,Value.cells]
 | int k =>
  rw[hu]at aC;cases v<;>simp[Cell.okWide,Cell.ok,hu]at aC;rfl
 | bool =>
  rw[hu]at aC;cases v<;>simp[Cell.okWide,Cell.ok,hu]at aC;rfl
 | str =>
  rw[hu]at aC;cases v<;>simp[Cell.okWide,Cell.ok,hu]at aC;rfl
 | slice e te =>
  obtain⟨hu,_⟩:=hu;rw[hu]at aC;cases v<;>simp[Cell.okWide,Cell.ok,hu]at aC;rfl
 | raw z=>simp[Ty.flat]at hf
 | cap k0 t0=>simp[Ty.flat]at hf
 | unit=>simp[Ty.flat]at hf
 | pair a b=>exact hu.elim
def iB(C:Ctx):List TypeId->List (Ty×Mode)->Bool
 | [],[]=>true
 | X::Xs,(t,.ro)::ps=>decide (C.ty X=some t)&&t.flat&&iB C Xs ps
 | _,_=>false
def kB(w:World):Nat->aj:=λk=>if k<w.heap.size then .au else .free
theorem VX[af](hC:bD P C){base:Nat}:{Xs:List TypeId}->{ps:List (Ty×Mode)}->{vs:List Value}->{ds:List (DataW H)}->{p:List MemPlace}->{i:Nat}->iB C Xs ps=true ->
  (∀(j:Nat) t v,Xs[j]?=some t->vs[j]?=some v->Value.okWide P w .any base t v)->DataW.TrodAll enc P w 0 (λ_=>true) true Xs vs ds p->∃x,dX w (kB w) i ps x vs/\cY (dj ps) x
 | [],[],vs,ds,p,i,_,_,h=>by
  obtain⟨rfl,_⟩:=trodAll_nil h;exact⟨(),rfl,trivial⟩
 | X::Xs,(t,.ro)::ps,vs,ds,p,i,hb,aC,h=>by
  simp only[iB,Bool.and_eq_true,decide_eq_true_eq]at hb;obtain⟨⟨hX,hf⟩,hb⟩:=hb;obtain⟨v,MD,d,WD,a,b,rfl,rfl,rfl,⟨fuel,h1⟩,h2⟩:=trodAll_cons h;obtain⟨x,hx,wx⟩:=trod_good hC fuel t X _ _ hX hf h1;obtain⟨y,hy,wy⟩:=VX (i:=i+1) hC hb (λj t v' hj hv=>aC (j+1) t v' (by simpa using hj) (by simpa using hv)) h2;refine⟨(x,y),?_,wx,wy⟩;refine⟨v,MD,v.cells.toList,rfl,apO hC hX hf (aC 0 X v rfl rfl),Own.dP (Rd.move (λk hk=>⟨?_,rfl⟩) hx),hy⟩;have hk:k<w.heap.size:=hk;show (kB w) k = .au;unfold kB;rw[if_pos hk]
 | [],_::_,_,_,_,_,hb,_,_=>by simp[iB]at hb
 | _::_,[],_,_,_,_,hb,_,_=>by simp[iB]at hb
 | _::_,(_,.mut _)::_,_,_,_,_,hb,_,_=>by simp[iB]at hb
theorem VW[af](hC:bD P C)(hH:∀k,k<w.heap.size->w'.heap[k]?=w.heap[k]?){sp:Nat->Bool}:{Xs:List TypeId}->{ps:List (Ty×Mode)}->{vs:List Value}->{ds:List (DataW H)}->{p:List MemPlace}->iB C Xs ps=true ->
  DataW.TrodAll enc P w 0 (λ_=>true) true Xs vs ds p->(∀q∈p,sp q.block=true)->DataW.TrodAll enc P w' 0 sp true Xs vs ds p
 | [],[],vs,ds,p,_,h,_=>by
  obtain⟨rfl,rfl,rfl⟩:=trodAll_nil h;exact trodAll_mk0
 | X::Xs,(t,.ro)::ps,vs,ds,p,hb,h,hs=>by
  simp only[iB,Bool.and_eq_true,decide_eq_true_eq]at hb;obtain⟨⟨hX,hf⟩,hb⟩:=hb;obtain⟨v,MD,d,WD,a,b,rfl,rfl,rfl,⟨fuel,h1⟩,h2⟩:=trodAll_cons h;exact⟨a,b,⟨fuel,arN hC hH fuel t X _ _ hX hf h1 (λq hq=>hs q (List.mem_append_left _ hq))⟩,VW hC hH hb h2 (λq hq=>hs q (List.mem_append_right _ hq)),rfl⟩
 | [],_::_,_,_,_,hb,_,_=>by simp[iB]at hb
 | _::_,[],_,_,_,hb,_,_=>by simp[iB]at hb
 | _::_,(_,.mut _)::_,_,_,_,hb,_,_=>by simp[iB]at hb
theorem aph[af](hC:bD P C){an:(dj ps).den->Option (Ty.pair (cV [(.bool,0)]) (cI ps)).den}(aC:ao P f ⟨ps,[(.bool,0)],an⟩)
  (nL:af.ok w (kB w)) (fj:∀x,cY (dj ps) x->∃m,an x=some ((true,()),m)) {Xs:List TypeId} (hb:iB C Xs ps=true) {args:Array Value} {base:Nat} {ds:List (DataW H)} {p:List MemPlace}
  (ek:∀(j:Nat) t v,Xs[j]?=some t->args[j]?=some v->Value.okWide P w .any base t v) (hA:DataW.TrodAll enc P w 0 (λ_=>true) true Xs args.toList ds p) :
  Calls P f args w (λe w'=>e = .returned (.bool true)/\w'.os=w.os/\w'.output=w.output/\w.heap.size<=w'.heap.size/\∀k,k<w.heap.size->w'.heap[k]?=w.heap[k]?):=by
 obtain⟨x,hx,wx⟩:=VX (i:=0) hC hb (λj t v hj hv=>ek j t v hj (by simpa using hv)) hA;obtain⟨m,hm⟩:=fj x wx;have hl:jQ w (kB w) ps:=by
  refine⟨λk hk=>?_,λk k' s q h=>?_,λk s q h=>?_,nL⟩
  ·unfold kB;rw[if_neg (by omega)]
  ·unfold kB at h;split at h<;>cases h
  ·unfold kB at h;split at h<;>cases h
 refine Calls.mono (aC.2 x _ hm w (kB w) args hl hx) ?_
 rintro e w' ⟨cs,L',rfl,bc,cm,_⟩
 have cm:=(jR.low (rs:=[(.bool,0)]) rfl).1 cm;simp only[jj]at cm;obtain⟨c,bl,cells,rfl,h1,h2,rfl⟩:=cm;simp only[Own]at h2;subst h2;have hc:c = .bool true:=((List.cons.inj h1).1).symm;subst hc;exact⟨rfl,bc.os,bc.output,bc.size,λk hk=>(bc.aT k hk (.inl (by unfold kB;rw[if_pos hk]))).2⟩
theorem apk[af]{f:Func}{s:ChangeSpec}{apart fresh handsOn again:Bool}{args:Array Value}{ds gs:List (DataW H)}{before:List MemPlace}(hC:bD P C)(hb:iB C f.params.toList ps=true)
  (hW:DataW.Whole enc P f.params.toList s.vars apart w args.toList ds gs before) (qv:s.vars=[]) (hs:s.fn H (ds++gs)={ results:=[.lit (.bool true)],args:=ds }) {B:TypeId} (cm:f.resultTypes=#[B]) (hB:P.underlying B=some .bool)
  (hos:w'.os=w.os) (wV:w'.output=w.output) (hH:∀k,k<w.heap.size->w'.heap[k]?=w.heap[k]?):s.post enc P f apart fresh handsOn again w args (.bool true) w':=by
 have ax:=hW.lt;have JZ:=hW;obtain⟨p,q,hA,hV,rfl,hz,hn⟩:=hW;rw[qv]at hV;have hq:q=[]/\gs=[]:=by
  cases gs with
  | nil=>exact⟨hV,rfl⟩
  | cons _ _=>exact hV.elim
 obtain⟨rfl,rfl⟩:=hq;have Yt:∀(b:Nat) (sp:Nat->Bool) (hd:Bool),DataW.TrodAll enc P w' b sp hd f.resultTypes.toList ((Value.bool true).resultList f.resultTypes.size) (s.fn H (ds++[])).results []:=by
  intro b sp hd;rw[hs,cm];refine⟨[],[],⟨1,?_⟩,rfl,rfl⟩;simp[DataW.trod,hB,Value.cells]
 have il:∀sp:Nat->Bool,(∀q∈p,sp q.block=true)->DataW.TrodAll enc P w' 0 sp true f.params.toList args.toList (s.fn H (ds++[])).args p:=by
  intro sp h;rw[hs];exact VW hC hH hb hA h
 have hv:∀sp:Nat->Bool,DataW.TrodVars enc P w' sp s.vars (s.fn H (ds++[])).vars []:=by
  intro sp;rw[hs,qv];rfl
 have hkb:w.keptBut w' (λ_=>False):=by
  refine⟨hos,wV,λi hi=>?_⟩;rw[hH i hi];split
  ·rename_i h1 h2;rw[h1]at h2;cases h2;exact⟨rfl,rfl,rfl,λ_ _=>rfl⟩
  ·rename_i h1 h2;rw[h1]at h2;cases h2;exact .inr ⟨rfl,rfl⟩
  ·rfl
 refine⟨ds,[],p++[],[],p,[],JZ,Yt _ _ _,il _ (λq hq=>by simpa using ax q (by simpa using hq)),hv _,World.keptBut_mono (λ_ h=>h.elim) hkb,λ_=>?_⟩;refine⟨λj t r hj hr=>?_,_,_,([]++p)++[],⟨[]++p,[],trodAll_append (il _ (λ_ _=>rfl)) (Yt _ _ _),hv _,rfl,λb off hp=>?_,λha=>?_⟩,λq hq _=>by simpa using hq⟩
 ·rw[cm]at hj hr;cases j with
  | zero =>
   simp[Value.resultList]at hj hr;subst hj hr;simp[Value.okWide,hB,Cell.okWide,Cell.ok]
  | succ j=>simp at hj
 ·have cC:MemPlace.cell b off∈p++[]:=by simpa using hp
  have hb':b<w.heap.size:=ax _ cC;have:=hz b off cC;unfold World.frozen? at this ⊢;dsimp only at this ⊢;rw[hH b hb'];exact this
 ·have:=hn ha;simpa using this
theorem ab1{base:Nat}{sp:Nat->Bool}{held:Bool}:{ts:List TypeId}->{vs:List Value}->{ds:List (DataW H)}->{p:List MemPlace}->DataW.TrodAll enc P w base sp held ts vs ds p->ds.length=ts.length
 | [],_,_,_,h=>by obtain⟨_,rfl,_⟩:=trodAll_nil h;rfl
 | _::_,_,_,_,h=>by
  obtain⟨v,MD,d,WD,a,b,rfl,rfl,rfl,_,h2⟩:=trodAll_cons h;simp[ab1 h2]
theorem apj[af](hC:bD P C){fn:Func}{s:ChangeSpec}{apart fresh handsOn again:Bool}{an:(dj ps).den->Option (Ty.pair (cV [(.bool,0)]) (cI ps)).den}
  (aC:ao P f ⟨ps,[(.bool,0)],an⟩) (fj:∀x,cY (dj ps) x->∃m,an x=some ((true,()),m)) (hb:iB C fn.params.toList ps=true) (qv:s.vars=[])
  (hs:∀ds:List (DataW H),ds.length=fn.params.size->s.fn H ds={ results:=[.lit (.bool true)],args:=ds }) {B:TypeId} (cm:fn.resultTypes=#[B]) (hB:P.underlying B=some .bool)
  (W:World) (base:Nat) (args:Array Value) (ds gs:List (DataW H)) (before:List MemPlace)
  (ek:∀(j:Nat) t v,fn.params[j]?=some t->args[j]?=some v->Value.okWide P W .any base t v) (hW:DataW.Whole enc P fn.params.toList s.vars apart W args.toList ds gs before) (nL:af.ok W (kB W)) :
  Calls P f args W λe W'=>∃v,e = .returned v/\s.post enc P fn apart fresh handsOn again W args v W':=by
 have JZ:=hW;obtain⟨p,q,hA,hV,rfl,hz,hn⟩:=hW;have qi:gs=[]:=by
  rw[qv]at hV;cases gs with
  | nil=>rfl
  | cons _ _=>exact hV.elim
 refine Calls.mono (aph hC aC nL fj hb (λj t v hj hv=>ek j t v (by simpa using hj) hv) hA) ?_
 rintro e W' ⟨rfl,h1,h2,h3,h4⟩
 refine⟨_,rfl,apk hC hb JZ qv ?_ cm hB h1 h2 h4⟩;rw[qi,List.append_nil];exact hs ds (by have:=ab1 hA;simpa using this)
theorem api[af](hC:bD P C){fn:Func}{s:ChangeSpec}{apart fresh handsOn again:Bool}{an:(dj ps).den->Option (Ty.pair (cV [(.bool,0)]) (cI ps)).den}
  (aC:ao P f ⟨ps,[(.bool,0)],an⟩) (fj:∀x,cY (dj ps) x->∃m,an x=some ((true,()),m)) (nL:∀w,af.ok w (kB w)) (hb:iB C fn.params.toList ps=true) (qv:s.vars=[])
  (hs:∀ds:List (DataW H),ds.length=fn.params.size->s.fn H ds={ results:=[.lit (.bool true)],args:=ds }) {B:TypeId} (cm:fn.resultTypes=#[B]) (hB:P.underlying B=some .bool)
  (W:World) (base:Nat) (args:Array Value) (ds gs:List (DataW H)) (before:List MemPlace)
  (ek:∀(j:Nat) t v,fn.params[j]?=some t->args[j]?=some v->Value.okWide P W .any base t v) (hW:DataW.Whole enc P fn.params.toList s.vars apart W args.toList ds gs before) :
  Calls P f args W λe W'=>∃v,e = .returned v/\s.post enc P fn apart fresh handsOn again W args v W' :=
 apj hC aC fj hb qv hs cm hB W base args ds gs before ek hW (nL W)
end
noncomputable def pw(E:Env){R:Type}(c:Code)(k:Ex->List V->Option R)(self:List V->Option R)(T:List V):Option R:=az E c (λe T'=>match e with
 | .bJ=>fF (E.aT (gU c)) T' self
 | .ext i=>k (.ext i) T'
 | .ret=>k .ret T') T
noncomputable def bG(E:Env){R:Type}:List Nat->Code->(Ex->List V->Option R)->Code×(Ex->List V->Option R)
 | [],c,k=>(c,k)
 | 0::p,.seq a b,k=>bG E p a (λe T'=>match e with
  | .bJ=>fF (E.aT (mE b)) T' (az E b k)
  | .ext i=>k (.ext i) T'
  | .ret=>k .ret T')
 | 1::p,.seq a b,k=>bG E p b k
 | 0::p,.cond _ a b,k=>bG E p a k
 | 1::p,.cond _ a b,k=>bG E p b k
 | 0::p,.block id c,k=>bG E p c (λe T'=>match e with
  | .bJ=>k .bJ T'
  | .ext i=>cond (i==id) (k .bJ T') (k (.ext i) T')
  | .ret=>k .ret T')
 | 0::p,.loop c,k=>bG E p c (λe T'=>match e with
  | .bJ=>fF (E.aT (gU c)) T' (gP (pw E c k))
  | .ext i=>k (.ext i) T'
  | .ret=>k .ret T')
 | _,c,k=>(.skip,k)
noncomputable def Le(E:Env){R:Type}(p:List Nat)(c:Code)(k:Ex->List V->Option R)(T:List V):Option R :=
 match bG E p c k with
 | (.loop c',k')=>gP (pw E c' k') T
 | _=>none
noncomputable def shut{α:Type}(a:α):α:=Classical.choose (⟨a,rfl⟩:∃x,x=a)
theorem tV(a:α):shut a=a:=Classical.choose_spec (⟨a,rfl⟩:∃x,x=a)
noncomputable def aJ(E:Env){R:Type}(p:List Nat)(c:Code)(k:Ex->List V->Option R)(T:List V):Option R:=shut (Le E p c k) T
noncomputable def Mt(E:Env){R:Type}(p:List Nat)(c:Code)(k:Ex->List V->Option R)(T:List V):Option R :=
 match bG E p c k with
 | (.loop c',k')=>pw E c' k' (gP (pw E c' k')) T
 | _=>none
theorem apq[af]{R:Type}(E:Env)(p:List Nat)(c:Code)(k:Ex->List V->Option R)(T:List V):aJ E p c k T=Mt E p c k T:=by
 unfold aJ;rw[tV];unfold Le Mt;split
 ·exact alb (ab5 _) T
 ·rfl
noncomputable def Dl(E:Env){R:Type}(p:List Nat)(c:Code)(k:Ex->List V->Option R)(T:List V):Option R :=
 match bG E p c k with
 | (c',k')=>az E c' k' T
noncomputable def gy(E:Env){R:Type}(p:List Nat)(c:Code)(k:Ex->List V->Option R)(T:List V):Option R:=shut (Dl E p c k) T
def qI:List (Nat×List Nat)->Nat->Option (List Nat)
 | [],_=>none
 | (k,p)::l,key=>cond (k==key) (some p) (qI l key)
def pt{α:Type}:List V->Nat->V->(List V->α)->α
 | [],_,_,K=>K []
 | _::l,0,v,K=>K (v::l)
 | a::l,n+1,v,K=>pt l n v λl'=>K (a::l')
theorem D1:(T:List V)->(i:Nat)->(v:V)->(K:List V->α)->pt T i v K=K (T.set i v)
 | [],_,_,_=>rfl
 | _::_,0,_,_=>rfl
 | a::l,n+1,v,K=>by simp only[pt,List.set_cons_succ];rw[D1 l n v]
def oj{α:Type}:List (Nat×V)->List V->(List V->α)->α
 | [],T,K=>K T
 | u::l,T,K=>pt T u.1 u.2 λT'=>oj l T' K
theorem abx[af]:(ups:List (Nat×V))->(T:List V)->(K:List V->α)->oj ups T K=K (ah T ups)
 | [],_,_=>rfl
 | u::l,T,K=>by
  simp only[oj];rw[D1,abx l];rfl
def CI{α:Type}:List V->(List V->α)->α
 | [],K=>K []
 | a::l,K=>CI l λl'=>K (a::l')
theorem WV:(T:List V)->(K:List V->α)->CI T K=K T
 | [],_=>rfl
 | a::l,K=>by simp only[CI];rw[WV l]
def tB{α:Type}(ks:Nat):Nat->List V->(List V->α)->α
 | _,[],K=>K []
 | i,v::l,K=>cond (ks.testBit i) (tB ks (i+1) l λl'=>K (v::l')) (tB ks (i+1) l λl'=>K (.dead::l'))
theorem K3(ks:Nat):(i:Nat)->(T:List V)->(K:List V->α)->tB ks i T K=K (fm ks i T)
 | _,[],_=>rfl
 | i,v::l,K=>by
  simp only[tB,fm];cases ks.testBit i with
  | true=>simp only[cond_true];rw[K3 ks (i+1) l]
  | false=>simp only[cond_false];rw[K3 ks (i+1) l]
def JP{α:Type}(k:Nat)(v:V)(K:V->α):α:=match v with
 | .d l n t x=>K (.d l (min k n) t x)
 | .box l n t x=>K (.box l (min k n) t x)
 | v=>K v
theorem W5(k:Nat)(v:V)(K:V->α):JP k v K=K (fO k v):=by cases v<;>rfl
def tq{α:Type}(m:Nat):Nat->List V->(List V->α)->α
 | _,[],K=>K []
 | i,v::l,K=>cond (m.testBit (1000+i)) (JP 0 v λv'=>tq m (i+1) l λl'=>K (v'::l')) (cond (m.testBit (2000+i)) (JP 1 v λv'=>tq m (i+1) l λl'=>K (v'::l')) (tq m (i+1) l λl'=>K (v::l')))
theorem Dh[af](m:Nat):(i:Nat)->(T:List V)->(K:List V->α)->tq m i T K=K (mD m i T)
 | _,[],_=>rfl
 | i,v::l,K=>by
  simp only[tq,mD];cases m.testBit (1000+i)with
  | true=>simp only[cond_true];rw[W5,Dh m (i+1) l]
  | false =>
   simp only[cond_false];cases m.testBit (2000+i)with
   | true=>simp only[cond_true];rw[W5,Dh m (i+1) l]
   | false=>simp only[cond_false];rw[Dh m (i+1) l]
def qF{R:Type}(ks:Option Nat)(T:List V)(K:List V->Option R):Option R :=
 match ks with
 | none=>K T
 | some m=>cond (qG m T 0 T) (cond (decide (m<2 ^ 1000)) (tB m 0 T K) (tB m 0 T λT'=>cond (qz m T' 0 T') (tq m 0 T' K) none)) none
theorem xi[af]{R:Type}(ks:Option Nat)(T:List V)(K:List V->Option R):qF ks T K=fF ks T K:=by
 cases ks with
 | none=>rfl
 | some m=>simp only[qF,fF,K3,Dh]
def od{R:Type}(E:Env)(ops:Array Oper)(draw:Bool)(K:List V->Option R)(T0:List V):List Oper->List V->List Rec->Option R
 | [],T,recs=>cond (!draw||(kW 0 ops.toList&&lI (gg ops.toList []) [] (recs.map λr=>(mask r.rd,mask r.wr))&&nt T0 recs&&decide (E.N<=bp))) (K T) none
 | o::l,T,recs=>cond (qP E o) (match o.guard with
  | none=>(E.step o).runK T [] λlog ups=>oj ups T λT=>od E ops draw K T0 l T (recs++[(log,ups)])
  | some (j,want)=>match (ops[j]?).bind (·.dst)with
   | none=>none
   | some g=>match T.getD g .dead with
    | .d l0 n0 .bool b=>cond b
      (pt T g (.d l0 n0 .bool true) λT=>cond want
       ((E.step o).runK T [g] λlog ups=>oj ups T λT=>od E ops draw K T0 l T (recs++[(log,ups)]))
       ((lF E o T).bind λu=>oj u.2 T λT=>od E ops draw K T0 l T (recs++[(g::u.1,u.2)])))
      (pt T g (.d l0 n0 .bool false) λT=>cond want
       ((lF E o T).bind λu=>oj u.2 T λT=>od E ops draw K T0 l T (recs++[(g::u.1,u.2)]))
       ((E.step o).runK T [g] λlog ups=>oj ups T λT=>od E ops draw K T0 l T (recs++[(log,ups)])))
    | .bF []=>(lF E o T).bind λu=>oj u.2 T λT=>od E ops draw K T0 l T (recs++[(g::u.1,u.2)])
    | _=>none) none
theorem aaX[af]{R:Type}(E:Env)(ops:Array Oper)(draw:Bool)(K:List V->Option R)(T0:List V):(l:List Oper)->(T:List V)->(recs:List Rec)->od E ops draw K T0 l T recs=eP E ops draw K T0 l T recs
 | [],T,recs=>rfl
 | o::l,T,recs=>by
  simp only[od,eP,abx,D1,aaX E ops draw K T0 l];rfl
section
variable(E:Env){R:Type}(js:List (Nat×List Nat))(c0:Code)(K0:Ex->List V->Option R)
noncomputable def DY(key:Nat)(f:List V->Option R):List V->Option R :=
 match qI js key with
 | some p=>gy E p c0 K0
 | none=>f
noncomputable def Dw(key:Nat)(f:List V->Option R):List V->Option R :=
 match qI js key with
 | some p=>aJ E p c0 K0
 | none=>f
noncomputable def jo:Code->(Ex->List V->Option R)->List V->Option R
 | .skip,k,T=>k .bJ T
 | .label _,k,T=>k .bJ T
 | .region id ops draw,k,T=>qF (E.aT id) T λT=>od E ops draw (k .bJ) T ops.toList T []
 | .seq a b,k,T=>jo a (λe T'=>match e with
  | .bJ=>qF (E.aT (mE b)) T' (DY E js c0 K0 (mE b) (jo b k))
  | .ext i=>k (.ext i) T'
  | .ret=>k .ret T') T
 | .cond (.tmp t) a b,k,T=>match T.getD t .dead with
  | .d l0 n0 .bool x=>cond x (pt T t (.d l0 n0 .bool true) (jo a k)) (pt T t (.d l0 n0 .bool false) (jo b k))
  | _=>none
 | .block id c,k,T=>jo c (λe T'=>match e with
  | .bJ=>k .bJ T'
  | .ext i=>cond (i==id) (k .bJ T') (k (.ext i) T')
  | .ret=>k .ret T') T
 | .exit id,k,T=>k (.ext id) T
 | .loop c,k,T=>qF (E.aT (gU c)) T (Dw E js c0 K0 (gU c) (gP (pw E c k)))
 | .ret,k,T=>k .ret T
 | _,_,_=>none
noncomputable def gO:List Nat->Code->(Ex->List V->Option R)->Code×(Ex->List V->Option R)
 | [],c,k=>(c,k)
 | 0::p,.seq a b,k=>gO p a (λe T'=>match e with
  | .bJ=>qF (E.aT (mE b)) T' (DY E js c0 K0 (mE b) (jo E js c0 K0 b k))
  | .ext i=>k (.ext i) T'
  | .ret=>k .ret T')
 | 1::p,.seq a b,k=>gO p b k
 | 0::p,.cond _ a b,k=>gO p a k
 | 1::p,.cond _ a b,k=>gO p b k
 | 0::p,.block id c,k=>gO p c (λe T'=>match e with
  | .bJ=>k .bJ T'
  | .ext i=>cond (i==id) (k .bJ T') (k (.ext i) T')
  | .ret=>k .ret T')
 | 0::p,.loop c,k=>gO p c (λe T'=>match e with
  | .bJ=>qF (E.aT (gU c)) T' (Dw E js c0 K0 (gU c) (gP (pw E c k)))
  | .ext i=>k (.ext i) T'
  | .ret=>k .ret T')
 | _,c,k=>(.skip,k)
noncomputable def Dm(p:List Nat)(T:List V):Option R :=
 match gO E js c0 K0 p c0 K0 with
 | (c',k')=>CI T λT=>jo E js c0 K0 c' k' T
end
def okB(js:List (Nat×List Nat)):Code->List Nat->Bool
 | .seq a b,q=>(match qI js (mE b)with
  | none=>true
  | some p=>p==q++[1])&&(okB js a (q++[0])&&okB js b (q++[1]))
 | .cond _ a b,q=>okB js a (q++[0])&&okB js b (q++[1])
 | .block _ c,q=>okB js c (q++[0])
 | .loop c,q=>(match qI js (gU c)with
  | none=>true
  | some p=>p==q)&&okB js c (q++[0])
 | _,_=>true
section
variable{E:Env}{R:Type}{js:List (Nat×List Nat)}{c0:Code}{K0:Ex->List V->Option R}
theorem fZ(i:Nat):∀(p:List Nat) (c:Code) (k:Ex->List V->Option R),bG E (p++[i]) c k=bG E [i] (bG E p c k).1 (bG E p c k).2
 | [],c,k=>by simp only[List.nil_append,bG]
 | j::p,c,k=>by
  have hs:∀k:Ex->List V->Option R,bG E [i] .skip k=(.skip,k):=λk=>by
   match i with
   | 0=>rfl
   | 1=>rfl
   | _+2=>rfl
  match j,c with
  | 0,.seq a b=>simp only[List.cons_append,bG];exact fZ i p a _
  | 1,.seq a b=>simp only[List.cons_append,bG];exact fZ i p b _
  | 0,.cond _ a b=>simp only[List.cons_append,bG];exact fZ i p a _
  | 1,.cond _ a b=>simp only[List.cons_append,bG];exact fZ i p b _
  | 0,.block _ c=>simp only[List.cons_append,bG];exact fZ i p c _
  | 0,.loop c=>simp only[List.cons_append,bG];exact fZ i p c _
  | 1,.block _ _|1,.loop _=>exact (hs k).symm
  | 0,.skip|0,.label _|0,.region .. | 0,.exit _|0,.ret|0,.rangeFunc .. | 0,.scope _|0,.goto _|0,.refuse _=>exact (hs k).symm
  | 1,.skip|1,.label _|1,.region .. | 1,.exit _|1,.ret|1,.rangeFunc .. | 1,.scope _|1,.goto _|1,.refuse _=>exact (hs k).symm
  | _+2,_=>exact (hs k).symm
theorem I4[af]{a b:Code}{k:Ex->List V->Option R}(h:bG E q c0 K0=(.seq a b,k)):bG E (q++[0]) c0 K0=(a,λe T'=>match e with
  | .bJ=>fF (E.aT (mE b)) T' (az E b k)
  | .ext i=>k (.ext i) T'
  | .ret=>k .ret T')/\bG E (q++[1]) c0 K0=(b,k):=by
 constructor
 ·rw[fZ,h];rfl
 ·rw[fZ,h];rfl
theorem abj[af]{b:Code}{k:Ex->List V->Option R}{f:List V->Option R}(h:bG E q c0 K0=(b,k))(hf:f=az E b k)
  (aC:(match qI js (mE b)with|none=>true|some p=>p==q)=true):DY E js c0 K0 (mE b) f=az E b k:=by
 unfold DY;split at aC
 ·rename_i hn;rw[hn];exact hf
 ·rename_i p hp;rw[hp];rw[beq_iff_eq]at aC;subst aC;funext T;simp only[gy,tV,Dl,h]
theorem aai[af]{c:Code}{k:Ex->List V->Option R}{f:List V->Option R}(h:bG E q c0 K0=(.loop c,k))(hf:f=gP (pw E c k))
  (aC:(match qI js (gU c)with|none=>true|some p=>p==q)=true):Dw E js c0 K0 (gU c) f=gP (pw E c k):=by
 unfold Dw;split at aC
 ·rename_i hn;rw[hn];exact hf
 ·rename_i p hp;rw[hp];rw[beq_iff_eq]at aC;subst aC;funext T;simp only[aJ,tV,Le,h]
theorem pX[af]:(c:Code)->(k:Ex->List V->Option R)->(q:List Nat)->bG E q c0 K0=(c,k)->okB js c q=true->jo E js c0 K0 c k=az E c k
 | .skip,k,q,h,aC=>rfl
 | .label _,k,q,h,aC=>rfl
 | .region id ops draw,k,q,h,aC=>by
  funext T;simp only[jo,az,xi,aaX]
 | .exit _,k,q,h,aC=>rfl
 | .ret,k,q,h,aC=>rfl
 | .seq a b,k,q,h,aC=>by
  simp only[okB,Bool.and_eq_true]at aC;obtain⟨h1,h2,h3⟩:=aC;obtain⟨e0,e1⟩:=I4 h;have ib:=pX b k (q++[1]) e1 h3;have ia:=pX a _ (q++[0]) e0 h2;funext T;simp only[jo,az,xi];rw[abj e1 ib h1];exact congrFun ia T
 | .cond c a b,k,q,h,aC=>by
  simp only[okB,Bool.and_eq_true]at aC;have e0:bG E (q++[0]) c0 K0=(a,k):=by rw[fZ,h];rfl
  have e1:bG E (q++[1]) c0 K0=(b,k):=by rw[fZ,h];rfl
  have ia:=pX a _ (q++[0]) e0 aC.1;have ib:=pX b _ (q++[1]) e1 aC.2;funext T;cases c<;>simp only[jo,az,ia,ib,D1]<;>rfl
 | .block id c,k,q,h,aC=>by
  simp only[okB]at aC;have e0:bG E (q++[0]) c0 K0=(c,λe T'=>match e with
   | .bJ=>k .bJ T'
   | .ext i=>cond (i==id) (k .bJ T') (k (.ext i) T')
   | .ret=>k .ret T'):=by rw[fZ,h];rfl
  have ic:=pX c _ (q++[0]) e0 aC;funext T;simp only[jo,az];exact congrFun ic T
 | .loop c,k,q,h,aC=>by
  simp only[okB,Bool.and_eq_true]at aC;funext T;simp only[jo,az,xi];rw[aai h rfl aC.1];rfl
 | .rangeFunc ..,k,q,h,aC=>rfl
 | .scope _,k,q,h,aC=>rfl
 | .goto _,k,q,h,aC=>rfl
 | .refuse _,k,q,h,aC=>rfl
theorem pV[af]:(p:List Nat)->(c:Code)->(k:Ex->List V->Option R)->(q:List Nat)->bG E q c0 K0=(c,k)->okB js c q=true->gO E js c0 K0 p c k=bG E p c k/\okB js (bG E p c k).1 (q++p)=true/\bG E (q++p) c0 K0=bG E p c k
 | [],c,k,q,h,aC=>⟨rfl,by simpa[bG]using aC,by simpa[bG]using h⟩
 | j::p,c,k,q,h,aC=>by
  have hs:∀k:Ex->List V->Option R,gO E js c0 K0 (j::p) c k=(.skip,k)->bG E (j::p) c k=(.skip,k)->bG E (q++j::p) c0 K0=bG E (j::p) c k->gO E js c0 K0 (j::p) c k=bG E (j::p) c k/\okB js (bG E (j::p) c k).1 (q++j::p)=true/\bG E (q++j::p) c0 K0=bG E (j::p) c k:=λk h1 h2 h3=>by
   refine⟨by rw[h1,h2],by rw[h2];rfl,h3⟩
  have CY:bG E (q++j::p) c0 K0=bG E (j::p) c k:=by
   have gen:∀(n:Nat) (p q:List Nat) (c:Code) (k:Ex->List V->Option R),p.length=n->bG E q c0 K0=(c,k)->bG E (q++p) c0 K0=bG E p c k:=by
    intro n;induction n with
    | zero =>
     intro p q c k hp h;obtain rfl:=List.eq_nil_of_length_eq_zero hp;simpa[bG]using h
    | succ n ih =>
     intro p q c k hp h;have bo:p≠[]:=by rintro rfl;simp at hp
     obtain⟨p0,i,rfl⟩:∃p0 i,p=p0++[i]:=⟨p.dropLast,p.getLast bo,(List.dropLast_concat_getLast bo).symm⟩;rw[<-List.append_assoc,fZ,ih p0 q c k (by simp at hp;omega) h,<-fZ]
   exact gen _ _ q c k rfl h
  have hq:q++j::p=(q++[j])++p:=by simp
  match j,c with
  | 0,.seq a b =>
   simp only[okB,Bool.and_eq_true]at aC;obtain⟨h1,h2,h3⟩:=aC;obtain⟨e0,e1⟩:=I4 h;have ib:=pX b k (q++[1]) e1 h3;have ia:=pV p a _ (q++[0]) e0 h2;rw[hq];simp only[gO,bG,xi];rw[abj e1 ib h1];exact ia
  | 1,.seq a b =>
   simp only[okB,Bool.and_eq_true]at aC;have ia:=pV p b _ (q++[1]) (I4 h).2 aC.2.2;rw[hq];simp only[gO,bG];exact ia
  | 0,.cond _ a b =>
   simp only[okB,Bool.and_eq_true]at aC;have ia:=pV p a _ (q++[0]) (by rw[fZ,h];rfl) aC.1;rw[hq];simp only[gO,bG];exact ia
  | 1,.cond _ a b =>
   simp only[okB,Bool.and_eq_true]at aC;have ia:=pV p b _ (q++[1]) (by rw[fZ,h];rfl) aC.2;rw[hq];simp only[gO,bG];exact ia
  | 0,.block id c =>
   simp only[okB]at aC;have ia:=pV p c _ (q++[0]) (by rw[fZ,h];rfl) aC;rw[hq];simp only[gO,bG];exact ia
  | 0,.loop c =>
   simp only[okB,Bool.and_eq_true]at aC;have ia:=pV p c _ (q++[0]) (by rw[fZ,h];rfl) aC.2;rw[hq];simp only[gO,bG,xi];rw[aai h rfl aC.1];exact ia
  | 1,.block _ _|1,.loop _=>exact hs k rfl rfl CY
  | 0,.skip|0,.label _|0,.region .. | 0,.exit _|0,.ret|0,.rangeFunc .. | 0,.scope _|0,.goto _|0,.refuse _=>exact hs k rfl rfl CY
  | 1,.skip|1,.label _|1,.region .. | 1,.exit _|1,.ret|1,.rangeFunc .. | 1,.scope _|1,.goto _|1,.refuse _=>exact hs k rfl rfl CY
  | _+2,_=>exact hs k rfl rfl CY
theorem join_eq[af](aC:okB js c0 []=true)(p:List Nat)(T:List V):gy E p c0 K0 T=Dm E js c0 K0 p T:=by
 obtain⟨h1,h2,h3⟩:=pV (E:=E) (js:=js) (c0:=c0) (K0:=K0) p c0 K0 [] rfl aC;rw[List.nil_append]at h2 h3;unfold gy;rw[tV];unfold Dl Dm;rw[h1];simp only[WV];exact (congrFun (pX _ _ p h3 h2) T).symm
theorem all_eq[af](aC:okB js c0 []=true)(T:List V):az E c0 K0 T=Dm E js c0 K0 [] T:=by
 rw[<-join_eq aC];unfold gy;rw[tV];rfl
def ann:Code->Bool
 | .loop _=>true
 | _=>false
theorem aO[af](aC:okB js c0 []=true)(p:List Nat)(hl:ann (bG E p c0 K0).1=true)(T:List V):aJ E p c0 K0 T=Dm E js c0 K0 (p++[0]) T:=by
 rw[<-join_eq aC,apq];unfold Mt gy;rw[tV];unfold Dl;rw[fZ];generalize bG E p c0 K0=ck at hl;obtain⟨c,k⟩:=ck;cases c<;>first|rfl|cases hl
end
def dd:Nat->List V->List V
 | 0,l=>l
 | n+1,l=>.dead::dd n l
structure MF where
 ps:List (Ty×Mode)
 rs:List (Ty×Nat)
 sl:List RV
 vs:List Nat
 aT:Nat->Option Nat
 hx:Hints
def MF.env(M:MF)(C:Ctx)(t:cX)(f:Func):Env:=tH C t M.vs f.ntmps M.aT M.hx M.ps
def MF.out(M:MF)(C:Ctx):Ex->List V->Option (Ty.pair (cV M.rs) (cI M.ps)).den:=JE C M.ps M.rs M.sl
noncomputable def MF.fn(M:MF)(C:Ctx)(t:cX)(f:Func):Fn:=Lm C t M.vs f.ntmps M.aT M.hx M.ps M.rs M.sl (f.body.getD .skip)
def MF.fits(M : MF)(f : Func):Bool := !(f.name == "runtime.NumGoroutine") && f.body.isSome && decide (M.ps.length <= f.ntmps)
theorem MF.ok[af]{P:Program}{C:Ctx}(mn:P.follows .mixedOrders=true)(hC:bD P C){M:MF}{fn:Func}{t:cX}(ht:fC P t)(hf:P.funcs[f]?=some fn)
  (h:(M.fits fn,fn.results.toList)=(true,M.sl.map RV.var)):ao P f (M.fn C t fn):=by
 have h1:M.fits fn=true:=congrArg Prod.fst h;have h2:fn.results.toList=M.sl.map RV.var:=congrArg Prod.snd h;simp only[MF.fits,Bool.and_eq_true,Bool.not_eq_true',decide_eq_true_eq]at h1;obtain⟨⟨h3,h4⟩,h5⟩:=h1;obtain⟨c,hc⟩:=Option.isSome_iff_exists.1 h4;unfold MF.fn;rw[hc];exact aaw mn hC ht hf h3 hc rfl h2 h5
open Go.Sort
structure pJ {α:Type} (V:α->Prop) (cf:α->α->Int):Prop where
 irrefl:∀x,V x->¬cf x x<0
 trans:∀x y z,V x->V y->V z->cf x y<0->cf y z<0->cf x z<0
 ntrans:∀x y z,V x->V y->V z->¬cf x y<0->¬cf y z<0->¬cf x z<0
 IQ:∀x y,V x->V y->¬cf x y<0->¬cf y x<0->x=y
def ft{α:Type}(cf:α->α->Int)(l:List α):List α:=l.mergeSort λx y => !decide (cf y x<0)
theorem qW(cf:α->α->Int)(l:List α):(ft cf l).Perm l:=List.mergeSort_perm _ _
theorem Mc{V:α->Prop}{cf:α->α->Int}(h:pJ V cf){l:List α}(hV:∀a∈l,V a):(ft cf l).Pairwise λx y=>¬cf y x<0:=by
 have e:l=(l.attachWith V hV).map (·.1):=by simp
 have e2:ft cf l=((l.attachWith V hV).mergeSort λx y => !decide (cf y.1 x.1<0)).map (·.1):=by
  rw[List.map_mergeSort (s:=λx y => !decide (cf y x<0)) (λ_ _ _ _=>rfl),<-e];rfl
 rw[e2,List.pairwise_map];have:=List.pairwise_mergeSort (le:=λx y:{a // V a} => !decide (cf y.1 x.1<0)) (λa b c h1 h2=>by
   simp only[Bool.not_eq_true',decide_eq_false_iff_not]at h1 h2 ⊢;exact h.ntrans _ _ _ c.2 b.2 a.2 h2 h1) (λa b=>by
   simp only[Bool.or_eq_true,Bool.not_eq_true',decide_eq_false_iff_not];by_cases h1:cf b.1 a.1<0
   ·exact .inr λh2=>h.irrefl _ a.2 (h.trans _ _ _ a.2 b.2 a.2 h2 h1)
   ·exact .inl h1) (l.attachWith V hV)
 exact this.imp (by simp)
theorem abE{V:α->Prop}{cf:α->α->Int}(h:pJ V cf){l l':List α}(hV:∀a∈l,V a)(hp:l'.Perm l)(hs:l'.Pairwise λx y=>¬cf y x<0):l'=ft cf l:=by
 refine List.Perm.eq_of_pairwise (le:=λx y=>¬cf y x<0) (λa b ha hb h1 h2=>?_) hs (Mc h hV) (hp.trans (qW cf l).symm);exact h.IQ a b (hV a (hp.mem_iff.1 ha)) (hV b ((qW cf l).mem_iff.1 hb)) h2 h1
theorem aqo[af]{P:Program}{g:FuncId}{u:Ty}{e9:(dj [(.agg u,.ro),(.agg u,.ro)]).den->Option (Ty.pair (cV [(.int .i64,0)]) (cI [(.agg u,.ro),(.agg u,.ro)])).den}
  (hg:ao P g ⟨[(.agg u,.ro),(.agg u,.ro)],[(.int .i64,0)],e9⟩) {w:World} {x y:u.den} {cx cy:List Value} {c:Int}
  (hx:Rd w (λk=>k<w.heap.size) u x cx) (hy:Rd w (λk=>k<w.heap.size) u y cy) (he:e9 (x,(y,()))=some ((c,()),())) (nL:af.ok w (λk=>if k<w.heap.size then .au else .free)) :
  Calls P g #[.agg cx.toArray,.agg cy.toArray] w (λe w'=>e = .returned (.int .i64 c)/\∃q os',w'=grow (w.drewN q) os'):=by
 have ba:∀k,k<w.heap.size->(if k<w.heap.size then aj.au else aj.free)=aj.au:=λk hk=>if_pos hk
 refine Calls.mono (hg.2 (x,(y,())) _ he w (λk=>if k<w.heap.size then .au else .free) #[.agg cx.toArray,.agg cy.toArray] ⟨λk hk=>if_neg (by omega),λk k' s q h=>?_,λk s q h=>?_,nL⟩ ?_) ?_
 ·split at h<;>cases h
 ·split at h<;>cases h
 ·exact⟨_,_,cx,rfl,rfl,Own.dP (Rd.move (λk hk=>⟨if_pos hk,rfl⟩) hx),_,_,cy,rfl,rfl,Own.dP (Rd.move (λk hk=>⟨if_pos hk,rfl⟩) hy),rfl⟩
 ·rintro e w' ⟨cs,L',rfl,hl,hr,_⟩
  have hr:=(jR.low (rs:=[(.int .i64,0)]) rfl).1 hr;simp only[jj]at hr;obtain⟨c1,bl,cells,rfl,h1,h2,rfl⟩:=hr;simp only[Own]at h2;subst h2;have hc:=(List.cons.inj h1).1;subst hc;refine⟨rfl,w'.drawn - w.drawn,w'.heap.extract w.heap.size,?_⟩;have hd:=hl.drawn;have hz:=hl.size;have hh:w'.heap=w.heap++w'.heap.extract w.heap.size:=by
   apply Array.ext_getElem?;intro k;rw[Array.getElem?_append];split
   ·rename_i hk;exact (hl.aT k hk (.inl (if_pos hk))).2
   ·rename_i hk;rw[Array.getElem?_extract];split
    ·congr 1;omega
    ·rw[Array.getElem?_eq_none (by omega)]
  have h1:=hl.os;have h2:=hl.tape;have h3:=hl.output;obtain⟨axx,axW,axr,os',axV⟩:=w';simp only at hd hh h1 h2 h3;subst h1 h2 h3;unfold grow World.drewN;simp only[World.mk.injEq,true_and,and_true];exact⟨hh,by omega⟩
open Go.Sort Go.Proofs Go.Shelf Go.RowKit
section
variable{P:Program}{ρ:Ren}
theorem D2[Inhabited α]{enc:α->List Value}{w:World}{jW off m:Nat}{dk:Array α}{os:Array Obj}{i:Nat}(hi:i<w.heap.size)(hb:i≠jW):
  (sortWorldK enc k w jW off m dk os).heap[i]?=w.heap[i]?:=by
 unfold sortWorldK;rw[heap_grow_old _ _ (by unfold putRowK;rw[size_putRow];exact hi)];unfold putRowK putRow mapBlock;simp only[Array.getElem?_modify,if_neg (Ne.symm hb)];rfl
theorem aqR[Inhabited α]{enc:α->List Value}{w:World}{jW off m:Nat}{dk:Array α}{os:Array Obj}{cur:Array Value}{fr:Nat×Nat}(h:w.heap[jW]?=some (.cells cur e fr)):
  (sortWorldK enc k w jW off m dk os).heap[jW]?=some (.cells (Sort.putCells id off (flatK enc k dk) cur) e fr):=by
 have hb:jW<w.heap.size:=by
  rcases Nat.lt_or_ge jW w.heap.size with h1|h1
  ·exact h1
  ·rw[Array.getElem?_eq_none h1]at h;cases h
 unfold sortWorldK;rw[heap_grow_old _ _ (by unfold putRowK;rw[size_putRow];exact hb)];unfold putRowK putRow mapBlock;simp only[Array.getElem?_modify,if_true];rw[show (Sort.ahead w m).heap[jW]?=w.heap[jW]? from rfl,h];rfl
theorem Mg[Inhabited α]{enc:α->List Value}{w:World}{jW off m:Nat}{dk:Array α}{os:Array Obj}:(sortWorldK enc k w jW off m dk os).heap.size=w.heap.size+os.size:=by
 unfold sortWorldK;rw[size_grow];unfold putRowK;rw[size_putRow];rfl
theorem aqw[Inhabited α]{enc:α->List Value}(hk:∀x,(enc x).length=k){dk:Array α}{cur:Array Value}(hc:dk.size*k<=cur.size){j:Nat}(hj:j<dk.size):
  ((Sort.putCells id 0 (flatK enc k dk) cur).toList.drop (j*k)).take k=enc dk[j]! :=by
 apply List.ext_getElem?;intro i;by_cases hi:i<k
 ·have hb:j*k+i<dk.size*k:=by
   have:=Nat.mul_le_mul_right k (show j+1<=dk.size from hj);rw[Nat.add_mul,Nat.one_mul]at this;omega
  rw[MG hi,Array.getElem?_toList];unfold Sort.putCells;rw[Array.getElem?_mapIdx,Array.getElem?_eq_getElem (show j*k+i<cur.size by omega),Option.map_some,if_pos ⟨Nat.zero_le _,by rw[size_flatK];omega⟩,Nat.sub_zero,get_flatK _ _ _ _ hb];have e1:(j*k+i) / k=j:=(blk_iff k j _ (by omega)).1 ⟨by omega,by omega⟩;have e2:(j*k+i) % k=i:=by rw[Nat.mod_eq_sub_div_mul,e1];omega
  rw[e1,e2,List.getElem?_eq_getElem (by rw[hk];exact hi),List.getElem!_eq_getElem?_getD,List.getElem?_eq_getElem (by rw[hk];exact hi)];rfl
 ·rw[List.getElem?_eq_none (by rw[List.length_take];omega),List.getElem?_eq_none (by rw[hk];omega)]
def fY(u:Ty)(e9:(dj [(.agg u,.ro),(.agg u,.ro)]).den->Option (Ty.pair (cV [(.int .i64,0)]) (cI [(.agg u,.ro),(.agg u,.ro)])).den)(a b:u.den):Int :=
 match e9 (a,(b,()))with
 | some r=>r.1.1
 | none=>0
noncomputable def tZ(e:TypeId)(u:Ty)(n:Nat)(g:FuncId)(e9:(dj [(.agg u,.ro),(.agg u,.ro)]).den->Option (Ty.pair (cV [(.int .i64,0)]) (cI [(.agg u,.ro),(.agg u,.ro)])).den):
  (dj [(.slice e (.agg u),.mut n),(.raw 1,.ro)]).den->Option (Ty.pair (cV []) (cI [(.slice e (.agg u),.mut n),(.raw 1,.ro)])).den :=
 λx=>open Classical in
  if x.2.1=Value.func (.func g) #[] #[]/\((∀a∈(x.1:List u.den),∀b∈(x.1:List u.den),e9 (a,(b,()))=some ((fY u e9 a b,()),()))/\pJ (λa=>a∈(x.1:List u.den)) (fY u e9))/\(x.1:List u.den).length<4611686018427387904
  then some ((),(ft (fY u e9) (x.1:List u.den),()))else none
theorem apV{d':Array (Fin n)}(hp:d'.toList.Perm (List.finRange n)):d'.size=n/\(∀j (h:j<d'.size),d'.toList.idxOf d'[j]=j)/\∀e:Fin n,d'.toList.idxOf e<n/\∃h:d'.toList.idxOf e<d'.size,d'[d'.toList.idxOf e]=e:=by
 have hs:d'.size=n:=by have:=hp.length_eq;simpa using this
 have cG:d'.toList.Nodup:=hp.nodup_iff.2 (List.nodup_finRange n);refine⟨hs,λj h=>?_,λe=>?_⟩
 ·have:=cG.idxOf_getElem j (by simpa using h);simpa using this
 ·have hm:e∈d'.toList:=hp.mem_iff.2 (List.mem_finRange e);have:=List.idxOf_lt_length_of_mem hm;refine⟨by simpa[hs]using this,by simpa using this,?_⟩;rw[<-Array.getElem_toList];exact List.getElem_idxOf this
end
open Go.Sort Go.Proofs Go.Shelf Go.RowKit
section
variable{P:Program}{ρ:Ren}
theorem MI[af]{w:World}{L0:Nat->aj}{t1 t2:Ty}(h:jQ w L0 [(t1,.mut n),(t2,.ro)]){s:Nat}(hk:L0 k = .own s q):∃t m,([(t1,Mode.mut n),(t2,.ro)]:List (Ty×Mode))[s]?=some (t,m)/\m.back=true:=by
 obtain⟨t,m,h1,h2|⟨n',rfl⟩⟩:=h.write hk
 ·exact⟨t,m,h1,h2⟩
 ·match s,h1 with
  | 0,h1=>simp at h1
  | 1,h1=>simp at h1
  | s+2,h1=>simp at h1
def kM(w w':World)(L0:Nat->aj)(sz:Nat)(pos:Nat->Nat):Nat->aj:=λk =>
 if k<w.heap.size then match L0 k with
  | .own 0 (0::o::rest)=>.own 0 (0::(pos (o / sz)*sz+o % sz)::rest)
  | l=>l
 else if k<w'.heap.size then .other else .free
theorem Me{w w':World}{L0:Nat->aj}{sz:Nat}{pos:Nat->Nat}(hk:k<w.heap.size)(h:∀o rest,L0 k ≠ .own 0 (0::o::rest)):kM w w' L0 sz pos k=L0 k:=by
 unfold kM;rw[if_pos hk];split
 ·rename_i o rest h1;exact absurd h1 (h o rest)
 ·rfl
theorem aqQ{w w':World}{L0:Nat->aj}{sz:Nat}{pos:Nat->Nat}{o:Nat}{rest:List Nat}(hk:k<w.heap.size)(h:L0 k = .own 0 (0::o::rest)):
  kM w w' L0 sz pos k = .own 0 (0::(pos (o / sz)*sz+o % sz)::rest):=by
 unfold kM;rw[if_pos hk,h];rfl
theorem Mf{w w':World}{L0:Nat->aj}{sz:Nat}{pos:Nat->Nat}{s:Nat}(h:kM w w' L0 sz pos k = .own s q):
  k<w.heap.size/\((∃o rest,s=0/\L0 k = .own 0 (0::o::rest)/\q=0::(pos (o / sz)*sz+o % sz)::rest)\/(L0 k = .own s q/\∀o rest,L0 k ≠ .own 0 (0::o::rest))):=by
 unfold kM at h;split at h
 ·rename_i hk;refine⟨hk,?_⟩;split at h
  ·rename_i o rest h1;injection h with h2 h3;exact .inl ⟨o,rest,h2.symm,h1,h3.symm⟩
  ·rename_i h1;exact .inr ⟨h,λo rest e=>h1 o rest e⟩
 ·split at h<;>cases h
theorem aqS[af](L:SlLaysF0.n6 P ρ){e:TypeId}{u:Ty}{n:Nat}{g:FuncId}(bq:u.sz≠0)(hn:u.depth+1<=n)
  (aE:∀w,(isAgg (ρ.t 24)).run P w = .ok true w) (zE:∀w,(Go.sizeOf (ρ.t 24)).run P w = .ok u.sz w)
  (hf : ∃ fn, P.funcs[ρ.f 6]? = some fn /\ (fn.name == "runtime.NumGoroutine") = false /\ fn.body.isNone = false)
  (eg:∀args w,(callFunc g args).run P w = .ok (.enter g args) w)
  {e9:(dj [(.agg u,.ro),(.agg u,.ro)]).den->Option (Ty.pair (cV [(.int .i64,0)]) (cI [(.agg u,.ro),(.agg u,.ro)])).den}
  (hg:ao P g ⟨[(.agg u,.ro),(.agg u,.ro)],[(.int .i64,0)],e9⟩) :
  ao P (ρ.f 6) ⟨[(.slice e (.agg u),.mut n),(.raw 1,.ro)],[],tZ e u n g e9⟩:=by
 refine⟨hf,λx r hr w L0 args hl ha=>?_⟩;obtain⟨xs,fv,un⟩:=x;change List u.den at xs;change tZ e u n g e9 (xs,fv,un)=some r at hr;unfold tZ at hr;dsimp only at hr;split at hr
 case isFalse=>cases hr
 rename_i hc;injection hr with hr;subst hr;obtain⟨hfv,⟨hcf,hO⟩,hlen⟩:=hc;have hV:∀a∈xs,a∈xs:=λ_ h=>h;simp only[dX]at ha;obtain⟨c1,bl,cells,il,h1,h2,c2,cN,akU,rfl,h3,h4,rfl⟩:=ha;have eA:cells=[c1]:=h1;have dL:akU=[c2]:=h3;subst eA dL;simp only[Own]at h4;have J9:c2=Value.func (.func g) #[] #[]:=by rw[(List.cons.inj h4.1).1];exact hfv
 subst J9;have Xy:args=#[c1,.func (.func g) #[] #[]]:=by rw[<-Array.toArray_toList (xs:=args),il]
 obtain⟨n',rfl⟩:∃n',n=n'+1:=⟨n - 1,by omega⟩;by_cases bo:xs=[]
 ·subst bo;have eC:∃p cap,c1 = .slice p 0 cap:=by
   simp only[Mode.dep,Own]at h2;rcases h2 with⟨h2,_⟩|⟨g1,cap,cur,h2,_⟩
   ·exact⟨none,0,(List.cons.inj h2).1⟩
   ·exact⟨_,cap,(List.cons.inj h2).1⟩
  obtain⟨p,cap,rfl⟩:=eC;rw[Xy];refine Calls.mono (AnyF.slices_SortFunc_none L p cap _ w) ?_
  rintro e1 w' ⟨rfl,rfl⟩
  refine⟨[],L0,rfl,⟨rfl,rfl,rfl,Nat.le_refl _,Nat.le_refl _,λ_ _ _=>⟨rfl,rfl⟩,hl.free,hl.inj,λk s q h=>.inr ?_⟩,rfl,?_⟩
  ·exact MI hl h
  ·refine⟨_,_,_,rfl,rfl,?_,_,_,rfl,rfl⟩;have e0:ft (fY u e9) ([]:List u.den)=[]:=List.Perm.eq_nil (qW (fY u e9) []);have key:∀ys:List u.den,ys=[]->Own w' L0 (λk=>L0 k = .au) 0 (n'+1) (.slice e (.agg u)) ys [] 0 [.slice p 0 cap]:=λys h=>by subst h;exact h2
   exact key _ e0
 ·simp only[Mode.dep,Own]at h2;rcases h2 with⟨_,h2⟩|⟨g1,cap,cur,hc,gS,Kc,CX,X9,oX,nI⟩
  ·exact absurd h2 bo
  have eA:=(List.cons.inj hc).1;subst eA;rw[Xy];have ax:∀{k},L0 k ≠ .free->k<w.heap.size:=λ{k} h=>Nat.lt_of_not_le λhk=>h (hl.free k hk);have qi:g1<w.heap.size:=ax (by rw[gS];simp)
  haveI:Inhabited (Fin xs.length):=⟨⟨0,List.length_pos_iff.2 bo⟩⟩
  let enc:Fin xs.length->List Value:=λj=>(cur.toList.drop (j.1*u.sz)).take u.sz;have C1:∀j:Fin xs.length,Own w L0 (λk=>L0 k = .au) 0 n' (.agg u) xs[j] [0] (j.1*u.sz) (enc j):=λj=>nI j.1 j.2;have hk:∀j,(enc j).length=u.sz:=λj=>(C1 j).len;have ee:∀j,∀v∈enc j,v.oneCell'=true:=λj=>(C1 j).one;let d:Array (Fin xs.length):=Array.ofFn (λj=>j);have iQ:d.size=xs.length:=by simp[d]
  have hdj:∀j (h:j<xs.length),d[j]! = ⟨j,h⟩:=λj h=>by
   rw[getElem!_pos d j (by rw[iQ];exact h)];simp[d]
  have o4:xs.length*u.sz<=cur.size:=by rw[oX];exact Nat.mul_le_mul_right _ CX
  have hH:HoldsK enc u.sz w g1 0 d:=by
   intro t ht;rw[size_flatK,iQ]at ht;have hj:t / u.sz<xs.length:=(Nat.div_lt_iff_lt_mul (by omega)).2 ht;have hm:t % u.sz<u.sz:=Nat.mod_lt _ (by omega);have e2:t / u.sz*u.sz+t % u.sz=t:=by rw[Nat.mul_comm];exact Nat.div_add_mod t u.sz
   rw[get_flatK _ _ _ _ (by rw[iQ];exact ht),hdj _ hj];refine⟨?_,?_⟩
   ·have h6:(enc ⟨t / u.sz,hj⟩)[t % u.sz]?=cur[t]?:=by
     show ((cur.toList.drop (t / u.sz*u.sz)).take u.sz)[t % u.sz]?=_;rw[MG hm,e2,Array.getElem?_toList]
    have h7:t<cur.size:=by omega
    simp only[World.cell?,Kc,Nat.zero_add,Option.isSome_none,Bool.false_eq_true,if_false,id];rw[List.getElem!_eq_getElem?_getD,h6,Array.getElem?_eq_getElem h7];rfl
   ·simp[World.frozen?,Kc]
  have bC:∀j:Fin xs.length,Rd w (λk=>k<w.heap.size/\k≠g1) u xs[j] (enc j):=λj=>by
   have:=Own.fp (w':=w) (L':=L0) (S':=λk=>k<w.heap.size/\k≠g1) (s':=0) (q2:=[0]) (o2:=0) (Nat.zero_le _) (λk hk=>⟨⟨ax (by rw[hk];simp),λh=>by rw[h,gS]at hk;cases hk⟩,rfl⟩)
    (λk dd rest _ hk=>⟨rfl,λh=>absurd h (by omega),λ_=>⟨ax (by rw[hk];simp),λh=>by rw[h,gS]at hk;simp at hk⟩⟩) (C1 j)
   exact Own.eQ (t:=.agg u) this
  have alU:CmpLays P g #[] enc u.sz (λx y=>fY u e9 xs[x] xs[y]) g1 0 d.size w:=by
   intro m os dk XQ x y;have hm:∀k,(k<w.heap.size/\k≠g1)->k<(sortWorldK enc u.sz w g1 0 m dk os).heap.size/\(sortWorldK enc u.sz w g1 0 m dk os).heap[k]?=w.heap[k]?:=λk hk =>
    ⟨by rw[Mg];omega,D2 hk.1 hk.2⟩
   have:=aqo hg (Rd.move hm (bC x)) (Rd.move hm (bC y)) (hcf _ (List.getElem_mem _) _ (List.getElem_mem _))
    (af.aT hl.ij λk hk h0=>by
     have bo:k≠g1:=λh=>by rw[h,gS]at h0;rcases h0 with h0|h0<;>cases h0
     have:=hm k ⟨hk,bo⟩;exact⟨.inl (if_pos this.1),this.2⟩)
   simpa using this
  have Kl:SWO (ltOf λx y:Fin xs.length=>fY u e9 xs[x] xs[y]):=by
   have hv:∀j:Fin xs.length,xs[j]∈xs:=λj=>hV _ (List.getElem_mem _);refine⟨λx=>?_,λx y z h1 h2=>?_,λx y z h1 h2=>?_⟩
   ·simp only[ltOf,decide_eq_false_iff_not];exact hO.irrefl _ (hv x)
   ·simp only[ltOf,decide_eq_true_eq]at h1 h2 ⊢;exact hO.trans _ _ _ (hv x) (hv y) (hv z) h1 h2
   ·simp only[ltOf,decide_eq_false_iff_not]at h1 h2 ⊢;exact hO.ntrans _ _ _ (hv x) (hv y) (hv z) h1 h2
  have main:=AnyQ.slices_SortFunc L u.sz aE zE enc hk ee _ Kl g #[] g1 0 cap d w eg alU hH qi (by rw[iQ];exact hlen);rw[iQ]at main;refine Calls.mono main ?_
  rintro e1 w' ⟨rfl,d',m,os,hp,hs,rfl⟩
  obtain⟨hp1,_,Dc⟩:=hp;have XO:d'.size=xs.length:=hp1.trans iQ;have Ym:d'.toList.Perm (List.finRange xs.length):=by
   have ea:d'.extract 0 xs.length=d':=Array.extract_eq_self_of_le (by omega);have eb:d.extract 0 xs.length=d:=Array.extract_eq_self_of_le (by omega);rw[ea,eb]at Dc;have ec:d.toList=List.finRange xs.length:=by simp[d,List.finRange]
   rw[<-ec];exact Dc
  obtain⟨_,amS,Kq⟩:=apV Ym;have qx:d'.toList.map (λj=>xs[j])=ft (fY u e9) xs:=by
   refine abE hO hV ?_ ?_
   ·have:=Ym.map (λj:Fin xs.length=>xs[j]);refine this.trans (List.Perm.of_eq ?_);apply List.ext_getElem
    ·simp
    ·intro i h1 h2;simp
   ·rw[List.pairwise_map,List.pairwise_iff_getElem];intro i j hi hj nM;have tc:i<d'.size:=by simpa using hi
    have hj':j<d'.size:=by simpa using hj
    have:=hs i j (Nat.zero_le _) nM (by omega);rw[getElem!_pos d' j hj',getElem!_pos d' i tc]at this;simpa[ltOf]using this
  let pos:Nat->Nat:=λe=>if h:e<xs.length then d'.toList.idxOf ⟨e,h⟩else e
  have apZ:∀j (h:j<d'.size),pos d'[j].1=j:=λj h=>by
   show (if h:_ then _ else _)=j
   rw[dif_pos d'[j].2];exact amS j h
  have apY:∀a b,pos a=pos b->a=b:=λa b gk=>by
   have gk:(if h:a<xs.length then d'.toList.idxOf ⟨a,h⟩else a)=(if h:b<xs.length then d'.toList.idxOf ⟨b,h⟩else b):=gk
   by_cases ha:a<xs.length
   ·obtain⟨a1,a2,a3⟩:=Kq ⟨a,ha⟩;by_cases hb:b<xs.length
    ·obtain⟨b1,b2,b3⟩:=Kq ⟨b,hb⟩;rw[dif_pos ha,dif_pos hb]at gk;have:(⟨a,ha⟩:Fin xs.length)=⟨b,hb⟩:=by rw[<-a3,<-b3];congr 1
     exact congrArg (·.1) this
    ·rw[dif_pos ha,dif_neg hb]at gk;omega
   ·by_cases hb:b<xs.length
    ·obtain⟨b1,b2,b3⟩:=Kq ⟨b,hb⟩;rw[dif_neg ha,dif_pos hb]at gk;omega
    ·rw[dif_neg ha,dif_neg hb]at gk;exact gk
  have mn:∀o o',pos (o / u.sz)*u.sz+o % u.sz=pos (o' / u.sz)*u.sz+o' % u.sz->o=o':=λo o' h=>by
   have m1:=Nat.mod_lt o (show u.sz>0 by omega);have m2:=Nat.mod_lt o' (show u.sz>0 by omega);have e1:(pos (o / u.sz)*u.sz+o % u.sz) / u.sz=pos (o / u.sz):=by
    rw[Nat.mul_comm,Nat.mul_add_div (by omega),Nat.div_eq_of_lt m1,Nat.add_zero]
   have e2:(pos (o' / u.sz)*u.sz+o' % u.sz) / u.sz=pos (o' / u.sz):=by
    rw[Nat.mul_comm,Nat.mul_add_div (by omega),Nat.div_eq_of_lt m2,Nat.add_zero]
   have e3:=apY _ _ (e1.symm.trans ((congrArg (· / u.sz) h).trans e2));rw[e3]at h;have h':o % u.sz=o' % u.sz:=by omega
   rw[<-Nat.div_add_mod o u.sz,<-Nat.div_add_mod o' u.sz,e3,h']
  refine⟨[],kM w (sortWorldK enc u.sz w g1 0 m d' os) L0 u.sz pos,rfl,⟨rfl,rfl,rfl,?_,?_,λk hk h0=>?_,λk hk=>?_,λk k' s q e e'=>?_,λk s q h=>.inr ?_⟩,rfl,?_⟩
  ·rw[Mg];omega
  ·show w.drawn<=w.drawn+m;omega
  ·refine⟨Me hk (λo rest h=>?_),D2 hk (λh=>?_)⟩
   ·rcases h0 with h0|h0<;>rw[h0]at h<;>cases h
   ·rw[h,gS]at h0;rcases h0 with h0|h0<;>cases h0
  ·have hz:=hk;rw[Mg]at hz;unfold kM;rw[if_neg (by omega),if_neg (by omega)]
  ·obtain⟨_,h1⟩:=Mf e;obtain⟨_,h2⟩:=Mf e';rcases h1 with⟨o,rest,rfl,h3,rfl⟩|⟨h3,h4⟩
   ·rcases h2 with⟨o',fJ,_,h5,h6⟩|⟨h5,h6⟩
    ·simp only[List.cons.injEq,true_and]at h6;obtain⟨h7,rfl⟩:=h6;rw[mn _ _ h7]at h3;exact hl.inj _ _ _ _ h3 h5
    ·exact absurd h5 (h6 _ _)
   ·rcases h2 with⟨o',fJ,rfl,h5,rfl⟩|⟨h5,h6⟩
    ·exact absurd h3 (h4 _ _)
    ·exact hl.inj _ _ _ _ h3 h5
  ·obtain⟨_,h1⟩:=Mf h;rcases h1 with⟨o,rest,rfl,h3,rfl⟩|⟨h3,_⟩
   ·exact MI hl h3
   ·exact MI hl h3
  ·refine⟨_,_,[_],rfl,rfl,?_,_,_,rfl,rfl⟩;simp only[Own];have Kh:(ft (fY u e9) xs).length=xs.length:=(qW (fY u e9) xs).length_eq;refine .inr ⟨g1,cap,_,by rw[Kh],?_,aqR Kc,by rw[Kh];exact CX,X9,by simp[Sort.putCells,oX],λj hj=>?_⟩
   ·rw[Me qi (λo rest h=>by rw[gS]at h;simp at h)];exact gS
   ·have hjn:j<xs.length:=by rw[<-Kh];exact hj
    have lf:j<d'.size:=by rw[XO];exact hjn
    have he:(ft (fY u e9) xs)[j]=xs[d'[j]]:=by
     rw[List.getElem_of_eq qx.symm hj,List.getElem_map,Array.getElem_toList]
    have hw:=aqw (enc:=enc) hk (dk:=d') (cur:=cur) (by rw[XO];exact o4) lf;rw[getElem!_pos d' j lf]at hw;have hmv:=Own.move (w':=sortWorldK enc u.sz w g1 0 m d' os) (L':=kM w (sortWorldK enc u.sz w g1 0 m d' os) L0 u.sz pos) (S':=λk=>kM w (sortWorldK enc u.sz w g1 0 m d' os) L0 u.sz pos k = .au) (s':=0) (q2:=[0]) (o2:=j*u.sz)
     (λk hk=>by
      have hk:L0 k = .au:=hk;have kj:k<w.heap.size:=ax (by rw[hk];simp);exact⟨by rw[Me kj (λo rest h=>by rw[hk]at h;cases h)];exact hk,D2 kj (λh=>by rw[h,gS]at hk;cases hk)⟩)
     (λk dd rest hd hk=>by
      have kj:k<w.heap.size:=ax (by rw[hk];simp);refine⟨?_,D2 kj (λh=>by rw[h,gS]at hk;simp at hk)⟩;have iP:dd<u.sz:=hd;rw[aqQ kj hk];have e1:(d'[j].1*u.sz+dd) / u.sz=d'[j].1:=by rw[Nat.mul_comm,Nat.mul_add_div (by omega),Nat.div_eq_of_lt iP,Nat.add_zero]
      have e2:(d'[j].1*u.sz+dd) % u.sz=dd:=by rw[Nat.mul_comm,Nat.mul_add_mod,Nat.mod_eq_of_lt iP]
      rw[e1,e2,apZ j lf];rfl) (C1 d'[j])
    have amf:Own (sortWorldK enc u.sz w g1 0 m d' os) (kM w (sortWorldK enc u.sz w g1 0 m d' os) L0 u.sz pos) (λk=>kM w (sortWorldK enc u.sz w g1 0 m d' os) L0 u.sz pos k = .au) 0 n' (.agg u) (ft (fY u e9) xs)[j] [0] (j*u.sz) (((Sort.putCells id 0 (flatK enc u.sz d') cur).toList.drop (j*u.sz)).take u.sz):=by
     rw[he,hw];exact hmv
    exact amf
end
end Go.Proofs.YtbhogmdpmkpinaaGreat.P.Am
