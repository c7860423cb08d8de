/- A part of the proof: Am32,Am33,Am34,Am35,Am36,Am50,Am65,Am51,Am52,Am53. No conditions. -/
import Derived.Test.YtbhogmdpmkpinaaGreatPG7
import Derived.RowKit3
import Derived.ChangeSame
import Derived.Handed
import Derived.Sort.Grow
import Derived.Deep.Draws
import Derived.Shelf.GgSortFunc.InsertionK
import Derived.Shelf.SlSortCmp.NoneTotal
set_option linter.unusedVariables false
set_option linter.unusedSimpArgs false
namespace Go.Proofs.YtbhogmdpmkpinaaGreat.P.Am
variable{α:Type}{t:Ty}{k n:Nat}{a:Addr}{q:List Nat}{e:TypeId}{f:FuncId}{ps:List (Ty×Mode)}
abbrev tA:=List (Nat×Ty×Nat)
def u9:tA->TypeId->Option (Ty×Nat)
 | [],_=>none
 | (k,t)::l,T=>cond (k==T) (some t) (u9 l T)
def mkCtx(oj:tA):Ctx:={ ty:=λT=>(u9 oj T).map (·.1),bytes:=λT=>((u9 oj T).map (·.2)).getD 0 }
def J6:Value->Value->Bool
 | .int k n,.int k' n'=>k==k'&&n==n'
 | .bool b,.bool b'=>b==b'
 | .string s,.string s'=>s.size==0&&s'.size==0
 | .pointer none,.pointer none=>true
 | .nilFunc,.nilFunc=>true
 | .nilIface,.nilIface=>true
 | .slice none a b,.slice none a' b'=>a==a'&&b==b'
 | _,_=>false
def qg:List Value->List Value->Bool
 | [],[]=>true
 | a::l,b::l'=>J6 a b&&qg l l'
 | _,_=>false
def gk(t:Ty)(z:Value):Bool:=match t with
 | .agg _=>match z with
  | .agg cs=>qg t.ca cs.toList
  | _=>false
 | _=>qg t.ca [z]
theorem Rq{s:ByteArray}(h:(s.size==0)=true):s=ByteArray.empty:=by
 obtain⟨d⟩:=s;have:d.size=0:=by simpa[ByteArray.size]using h
 have:d=#[]:=Array.eq_empty_of_size_eq_zero this;rw[this];rfl
theorem aqU[ae]{a b:Value}(h:J6 a b=true):a=b:=by
 unfold J6 at h;split at h
 ·simp only[Bool.and_eq_true,beq_iff_eq]at h;rw[h.1,h.2]
 ·simp only[beq_iff_eq]at h;rw[h]
 ·simp only[Bool.and_eq_true]at h;rw[Rq h.1,Rq h.2]
 ·rfl
 ·rfl
 ·rfl
 ·simp only[Bool.and_eq_true,beq_iff_eq]at h;rw[h.1,h.2]
 ·cases h
theorem J7[ae]:{l l':List Value}->qg l l'=true->l=l'
 | [],[],_=>rfl
 | a::l,b::l',h=>by
  simp only[qg,Bool.and_eq_true]at h;rw[aqU h.1,J7 h.2]
 | [],_::_,h=>by simp[qg]at h
 | _::_,[],h=>by simp[qg]at h
theorem aff[ae]{t:Ty}{z:Value}(h:gk t z=true):Form t t.ca z:=by
 unfold gk at h;split at h
 ·split at h
  ·rename_i cs;have:=J7 h;show Value.agg cs=_;rw[this]
  ·cases h
 ·have:=J7 h;cases t with
  | agg t=>rename_i hn;exact absurd rfl (hn t)
  | _=>exact this
def tU(C:Ctx)(t:Ty):Nat->List Field->Bool
 | i,[]=>(bq i t).isNone
 | i,f::l=>(match bq i t,C.ty f.type with
  | some (o, t1), some t2 => o == f.offset && decide (t1 = t2) && t1.sz != 0 && f.name != "_"
  | _,_=>false)&&tU C t (i+1) l
def tR(te:Ty)(t:Ty):Nat->Nat->Bool
 | k,0=>(bq (k+1) t).isNone
 | k,m+1=>(match bq (k+1) t with
  | some (o,t1)=>o==k*te.sz&&decide (t1=te)
  | none=>false)&&tR te t (k+1) m
theorem RT{te:Ty}:{m k:Nat}->tR te t k m=true->(∀j,j<m->bq (k+j+1) t=some ((k+j)*te.sz,te))/\bq (k+m+1) t=none
 | 0,k,h=>⟨λj hj=>absurd hj (by omega),by simpa[tR]using h⟩
 | m+1,k,h=>by
  simp only[tR,Bool.and_eq_true]at h;obtain⟨h1,h2⟩:=h;obtain⟨h3,h4⟩:=RT h2;refine⟨λj hj=>?_,by rw[show k+(m+1)+1=k+1+m+1 by omega];exact h4⟩;cases j with
  | zero =>
   split at h1
   ·rename_i o t1 hc;simp only[Bool.and_eq_true,beq_iff_eq,decide_eq_true_eq]at h1;obtain⟨rfl,rfl⟩:=h1;simpa using hc
   ·cases h1
  | succ j =>
   have:=h3 j (by omega)
   rwa [show k+1+j=k+(j+1)by omega]at this
def Rh(C:Ctx)(t:Ty)(n:Nat)(e:TypeId):Bool:=match C.ty e with
 | some te => !te.isAgg&&decide (2<=n)&&tR te t 0 n
 | none=>false
def JT(P:Program)(C:Ctx)(T:TypeId)(t:Ty):Bool:=match t,P.underlying T with
 | .int k,some (.int k')=>k==k'
 | .bool,some .bool=>true
 | .str,some .string=>true
 | .raw _,some (.pointer _)=>true
 | .raw _,some (.func ..)=>true
 | .raw _,some (.interface _)=>true
 | .agg t',some (.struct fs) => !t'.dZ&&(tU C t' 0 fs.toList && !P.stoodInHeld T && !P.eqGuardType P.depth T)
 | .agg t',some (.array n e)=>t'.dZ&&Rh C t' n e
 | .slice e t',some (.slice e')=>e==e'&&decide (C.ty e=some t')
 | _,_=>false
def JR(P:Program)(C:Ctx)(T:TypeId)(t:Ty):Bool:=(match P.info? T with
 | some i=>i.size==t.sz&&i.bytes==C.bytes T&&(match i.zero with
  | some z=>gk t z
  | none=>false)
 | none=>false)&&JT P C T t
theorem RC{t:Ty}:{i:Nat}->bq i t=none->∀j,i<=j->bq j t=none:=by
 have step:∀(i:Nat) (t:Ty),bq i t=none->bq (i+1) t=none:=by
  intro i;induction i with
  | zero=>intro t h;cases t<;>simp[bq]at h
  | succ i ih =>
   intro t h;cases t with
   | pair a b =>
    simp only[bq,Option.map_eq_none_iff]at h ⊢;exact ih b h
   | _=>rfl
 intro i h j hj;induction hj with
 | refl=>exact h
 | step _ ih=>exact step _ _ ih
theorem RZ{C : Ctx}:{i : Nat} -> {l : List Field} -> tU C t i l = true -> (∀ (j : Nat) (f : Field), l[j]? = some f -> ∃ t1, bq (i + j) t = some (f.offset, t1) /\ C.ty f.type = some t1 /\ t1.sz ≠ 0 /\ f.name ≠ "_") /\ bq (i + l.length) t = none
 | i,[],h=>⟨λj f hj=>by simp at hj,by simpa[tU]using h⟩
 | i,f::l,h=>by
  simp only[tU,Bool.and_eq_true]at h;obtain⟨h1,h2⟩:=h;obtain⟨h3,h4⟩:=RZ h2;refine⟨λj f' hj=>?_,by rw[List.length_cons,show i+(l.length+1)=i+1+l.length by omega];exact h4⟩;cases j with
  | zero =>
   simp only[List.getElem?_cons_zero,Option.some.injEq]at hj;subst hj;split at h1
   ·rename_i o t1 t2 hc ht;simp only[Bool.and_eq_true,beq_iff_eq,decide_eq_true_eq,bne_iff_ne]at h1;obtain⟨⟨⟨rfl,rfl⟩,h5⟩,h6⟩:=h1;exact⟨t1,by rw[Nat.add_zero];exact hc,ht,h5,h6⟩
   ·cases h1
  | succ j =>
   have:=h3 j f' (by simpa using hj)
   rwa [show i+1+j=i+(j+1)by omega]at this
theorem aqG[ae]{P:Program}{C:Ctx}{T:TypeId}:JT P C T t=true->match t with
  | .int k=>P.underlying T=some (.int k)
  | .bool=>P.underlying T=some .bool
  | .str=>P.underlying T=some .string
  | .raw _=>∃d,P.underlying T=some d/\(∀fs,d ≠ .struct fs)/\∀n e,d ≠ .array n e
  | .agg t'=>(t'.dZ=false/\(∃fs,P.underlying T=some (.struct fs)/\GY C t' fs)/\P.stoodInHeld T=false/\P.eqGuardType P.depth T=false)\/(t'.dZ=true/\Kb P C T t')
  | .slice e t'=>P.underlying T=some (.slice e)/\C.ty e=some t'
  | _=>False:=by
 intro h;unfold JT at h;split at h
 ·rename_i hu;rw[beq_iff_eq]at h;subst h;exact hu
 ·assumption
 ·assumption
 ·rename_i hu;exact⟨_,hu,by simp,by simp⟩
 ·rename_i hu;exact⟨_,hu,by simp,by simp⟩
 ·rename_i hu;exact⟨_,hu,by simp,by simp⟩
 ·rename_i t' fs hu;simp only[Bool.and_eq_true,Bool.not_eq_true']at h;obtain⟨h0,⟨h1,h2⟩,h3⟩:=h;obtain⟨h4,h5⟩:=RZ h1;refine .inl ⟨h0,⟨fs,hu,λi f hf=>?_,λi r hr=>?_⟩,h2,h3⟩
  ·have:=h4 i f (by simpa using hf)
   rwa [Nat.zero_add]at this
  ·rcases Nat.lt_or_ge i fs.size with h|h
   ·exact h
   ·rw[Nat.zero_add,Array.length_toList]at h5;rw[RC h5 i h]at hr;cases hr
 ·rename_i t' n e hu;simp only[Bool.and_eq_true]at h;obtain⟨h0,h1⟩:=h;unfold Rh at h1;split at h1
  ·rename_i te fL;simp only[Bool.and_eq_true,Bool.not_eq_true',decide_eq_true_eq]at h1;obtain⟨⟨h2,h3⟩,h4⟩:=h1;obtain⟨h5,h6⟩:=RT h4;refine .inr ⟨h0,n,e,te,hu,fL,h2,h3,λk hk=>?_,λk r hr=>?_⟩
   ·have:=h5 k hk;simpa using this
   ·rcases Nat.lt_or_ge k n with h|h
    ·exact h
    ·rw[Nat.zero_add]at h6;rw[RC h6 (k+1) (by omega)]at hr;cases hr
  ·cases h1
 ·rename_i hu;simp only[Bool.and_eq_true,beq_iff_eq,decide_eq_true_eq]at h;obtain⟨rfl,h2⟩:=h;exact⟨hu,h2⟩
 ·cases h
theorem aqF[ae]{P:Program}{C:Ctx}{T:TypeId}{t:Ty}(h:JR P C T t=true):iq P C T t:=by
 unfold JR at h;simp only[Bool.and_eq_true]at h;obtain⟨h1,h2⟩:=h;refine⟨?_,by have h3:=aqG h2;cases t<;>exact h3⟩;split at h1
 ·rename_i i hi;simp only[Bool.and_eq_true,beq_iff_eq]at h1;obtain⟨⟨h3,h4⟩,h5⟩:=h1;split at h5
  ·rename_i z hz;exact⟨i,z,hi,h3,h4,hz,aff h5⟩
  ·cases h5
 ·cases h1
theorem Vm{T:TypeId}{p:Ty×Nat}:{l:tA}->u9 l T=some p->(T,p)∈l
 | [],h=>by cases h
 | (k,t)::l,h=>by
  simp only[u9]at h;cases hk:k==T with
  | true =>
   rw[hk]at h;injection h with h;rw[beq_iff_eq]at hk;subst h hk;simp
  | false =>
   rw[hk]at h;exact List.mem_cons_of_mem _ (Vm h)
theorem aeY[ae]{P:Program}{oj:tA}(h:oj.all (λp=>JR P (mkCtx oj) p.1 p.2.1)=true):bt P (mkCtx oj):=by
 intro T t ht;obtain⟨p,hp,rfl⟩:=Option.map_eq_some_iff.1 ht;rw[List.all_eq_true]at h;exact aqF (h _ (Vm hp))
def cA:(t:Ty)->t.den->Prop
 | .int k,x=>k.min<=x/\x<=k.max
 | .bool,_=>True
 | .str,x=>(x:ByteArray).size<=maxLen
 | .raw _,_=>True
 | .cap _ _,_=>True
 | .unit,_=>True
 | .pair a b,x=>cA a x.1/\cA b x.2
 | .agg t,x=>cA t x
 | .slice _ t,xs=>(xs:List t.den).length<=maxLen/\∀x∈(xs:List t.den),cA t x
def Ty.flat:Ty->Bool
 | .raw _=>false
 | .cap _ _=>false
 | .unit=>false
 | .pair a b=>a.flat&&b.flat
 | .agg t=>t.flat
 | .slice _ t=>t.flat
 | _=>true
theorem G4(h:(Ty.agg t).flat=true):t.dZ=false:=by
 cases cE:t.dZ with
 | false=>rfl
 | true =>
  unfold Ty.dZ at cE;split at cE
  ·simp[Ty.flat]at h
  ·cases cE
theorem A5:{t:Ty}->t.flat=true->0<t.sz
 | .int _,_ | .bool,_ | .str,_ | .slice _ _,_=>by simp[Ty.sz]
 | .raw _,h | .cap _ _,h | .unit,h=>by simp[Ty.flat]at h
 | .pair a b,h=>by
  simp only[Ty.flat,Bool.and_eq_true]at h;have:=A5 h.1;simp only[Ty.sz];omega
 | .agg t,h=>by simp only[Ty.flat]at h;simpa[Ty.sz]using A5 h
theorem G3:{i:Nat}->{t:Ty}->{o:Nat}->{t1:Ty}->bq i t=some (o,t1)->t.flat=true->t1.flat=true
 | 0,.pair a b,o,t1,h,hf=>by simp only[bq,Option.some.injEq,Prod.mk.injEq]at h;obtain⟨rfl,rfl⟩:=h;simp only[Ty.flat,Bool.and_eq_true]at hf;exact hf.1
 | i+1,.pair a b,o,t1,h,hf=>by
  simp only[bq,Option.map_eq_some_iff]at h;obtain⟨⟨o2,t2⟩,h,he⟩:=h;simp only[Prod.mk.injEq]at he;obtain⟨rfl,rfl⟩:=he;simp only[Ty.flat,Bool.and_eq_true]at hf;exact G3 h hf.2
 | 0,.int _,_,_,h,hf|0,.bool,_,_,h,hf|0,.str,_,_,h,hf|0,.raw _,_,_,h,hf|0,.cap _ _,_,_,h,hf|0,.unit,_,_,h,hf|0,.agg _,_,_,h,hf|0,.slice _ _,_,_,h,hf=>by
  simp only[bq,Option.some.injEq,Prod.mk.injEq]at h;obtain⟨rfl,rfl⟩:=h;exact hf
def Good(w:World)(t:Ty)(cs:List Value):Prop:=∃x:t.den,Rd w (λk=>k<w.heap.size) t x cs/\cA t x
theorem Su{w:World}:{t:Ty}->{cs:List Value}->cs.length=t.sz->t ≠ .unit->(∀j r,bq j t=some r->Good w r.2 ((cs.drop r.1).take r.2.sz))->Good w t cs
 | .pair a b,cs,hl,_,h=>by
  obtain⟨x,hx,wx⟩:=h 0 (0,a) rfl;simp only[Ty.sz]at hl;by_cases hb:b = .unit
  ·subst hb;refine⟨(x,()),?_,wx,trivial⟩;simp only[Rd];refine⟨cs,[],by simp,?_,rfl⟩;simp only[List.drop_zero]at hx;rw[List.take_of_length_le (by simp[Ty.sz]at hl;omega)]at hx;exact hx
  ·obtain⟨y,hy,wy⟩:=Su (t:=b) (cs:=cs.drop a.sz) (by simp;omega) hb (λj r hr=>by
    have:=h (j+1) (a.sz+r.1,r.2) (by simp[bq,hr])
    rwa [<-List.drop_drop]at this)
   refine⟨(x,y),?_,wx,wy⟩;simp only[Rd];exact⟨cs.take a.sz,cs.drop a.sz,by simp,by simpa using hx,hy⟩
 | .int _,cs,hl,_,h | .bool,cs,hl,_,h | .str,cs,hl,_,h | .raw _,cs,hl,_,h | .cap _ _,cs,hl,_,h | .agg _,cs,hl,_,h | .slice _ _,cs,hl,_,h=>by
  have:=h 0 _ rfl;simp only[List.drop_zero]at this
  rwa [List.take_of_length_le (Nat.le_of_eq hl)]at this
 | .unit,cs,_,hu,_=>absurd rfl hu
theorem BS{β:Type}{f:α->Option β}:{l:List α}->{ys:List β}->l.mapM f=some ys->ys.length=l.length/\∀i (h:i<l.length),∃y,f l[i]=some y/\ys[i]?=some y
 | [],ys,h=>by simp at h;subst h;exact⟨rfl,λi h=>absurd h (by simp)⟩
 | a::l,ys,h=>by
  simp only[List.mapM_cons,Option.bind_eq_bind,Option.bind_eq_some_iff,Option.pure_def,Option.some.injEq]at h;obtain⟨y,hy,J4,pv,rfl⟩:=h;obtain⟨h1,h2⟩:=BS pv;refine⟨by simp[h1],λi hi=>?_⟩;cases i with
  | zero=>exact⟨y,hy,rfl⟩
  | succ i =>
   obtain⟨z,hz,dj⟩:=h2 i (by simpa using hi);exact⟨z,by simpa using hz,by simpa using dj⟩
theorem Rz{Q:Nat->α->Prop}:{n:Nat}->(∀i,i<n->∃x,Q i x)->∃xs:List α,xs.length=n/\∀i (h:i<xs.length),Q i xs[i]
 | 0,_=>⟨[],rfl,λi h=>absurd h (by simp)⟩
 | n+1,h=>by
  obtain⟨xs,hl,hq⟩:=Rz (n:=n) (λi hi=>h i (by omega));obtain⟨x,hx⟩:=h n (by omega);refine⟨xs++[x],by simp[hl],λi hi=>?_⟩;by_cases fD:i<xs.length
  ·rw[List.getElem_append_left fD];exact hq i fD
  ·have:i=n:=by simp at hi;omega
   subst this;rw[List.getElem_append_right (by omega)];simpa using hx
theorem Rv[ae]{w:World}{base:Nat}{es:List Value}(h:w.cells? base a n=some es):es.length=n/\∀i v,es[i]?=some v->w.cell? (a.add i)=some v:=by
 unfold World.cells? at h;split at h
 ·obtain⟨h1,h2⟩:=BS h;simp only[List.length_range]at h1;refine⟨h1,λi v hv=>?_⟩;obtain⟨hi,_⟩:=List.getElem?_eq_some_iff.1 hv;obtain⟨y,hy,rO⟩:=h2 i (by simpa using by omega);rw[hv]at rO;injection rO with rO;subst rO;simpa using hy
 ·cases h
theorem Ru{w:World}{v:Value}(h:w.cell? a=some v):a.block<w.heap.size/\a.spot=none:=by
 unfold World.cell? at h;split at h
 ·rename_i c _ _ hh;split at h
  ·cases h
  ·rename_i hs;exact⟨(Array.getElem?_eq_some_iff.1 hh).1,by simpa using hs⟩
 ·cases h
theorem add_add(a:Addr)(i j:Nat)(h:a.spot=none):(a.add i).add j=⟨a.block,a.off+(i+j),none⟩:=by
 obtain⟨b,o,s⟩:=a;subst h;unfold Addr.add;split<;>split<;>simp_all<;>omega
section
variable{H:Type}{enc:TypeId×Value->H}{P:Program}{C:Ctx}{w:World}{base:Nat}{spare:Nat->Bool}{held:Bool}
theorem trod_slice{fuel:Nat}{X:TypeId}{cs:List Value}{r:DataW H×List MemPlace}(hu:P.underlying X=some (.slice e))(h:DataW.trod enc P w base spare held (fuel+1) X cs=some r):
  cs=[.slice none 0 0]\/∃a len cap elems,cs=[.slice (some a) len cap]/\len<=cap/\cap<=maxLen /\
   (List.range len).mapM (λi=>(w.cells? base (a.add (i*P.cellsOf e)) (P.cellsOf e)).bind (DataW.trod enc P w base spare held fuel e))=some elems:=by
 simp only[DataW.trod,hu]at h;rcases cs with _|⟨c,_|⟨c2,cs⟩⟩
 ·simp at h
 ·cases c with
  | slice A len cap =>
   cases A with
   | none =>
    rcases len with _|len<;>rcases cap with _|cap<;>simp at h ⊢
   | some a =>
    right;dsimp only at h;split at h
    ·rename_i hc;obtain⟨elems,h1,_⟩:=Option.bind_eq_some_iff.1 h;exact⟨a,len,cap,elems,rfl,hc.2.1,hc.2.2,h1⟩
    ·cases h
  | _=>simp at h
 ·simp at h
theorem trod_good[ae](hC:bt P C):∀(fuel:Nat) (t:Ty) (X:TypeId) (cs:List Value) (r:DataW H×List MemPlace),C.ty X=some t->t.flat=true->DataW.trod enc P w base spare held fuel X cs=some r->Good w t cs:=by
 intro fuel;induction fuel with
 | zero=>intro t X cs r _ _ h;simp[DataW.trod]at h
 | succ fuel ih =>
  intro t X cs r hX hf h;have po:=hC X t hX;have hu:=po.bT;obtain⟨inf,z,uw,ep,_⟩:=po.info;have Hi:P.cellsOf X=t.sz:=by simp[Program.cellsOf,uw,ep]
  cases t with
  | int k =>
   simp only[DataW.trod]at h;rw[hu]at h;split at h<;>simp_all;obtain⟨h1,_⟩:=h;obtain⟨rfl,h1⟩:=h1;simp only[Lit.wf,Bool.and_eq_true,decide_eq_true_eq]at h1;exact⟨_,show _=_ from rfl,h1⟩
  | bool =>
   simp only[DataW.trod]at h;rw[hu]at h;split at h<;>simp_all;exact⟨_,show _=_ from rfl,trivial⟩
  | str =>
   simp only[DataW.trod]at h;rw[hu]at h;split at h<;>simp_all;exact⟨_,show _=_ from rfl,h.1⟩
  | raw z=>simp[Ty.flat]at hf
  | cap k0 t0=>simp[Ty.flat]at hf
  | unit=>simp[Ty.flat]at hf
  | pair a b=>exact hu.elim
  | slice e te =>
   obtain⟨hu,he⟩:=hu;have uo:te.flat=true:=hf;have uf:P.cellsOf e=te.sz:=by
    obtain⟨TR,z',ux,uy,_⟩:=(hC e te he).info;simp[Program.cellsOf,ux,uy]
   have HF:=A5 uo;rcases trod_slice hu h with rfl|⟨a,len,cap,elems,rfl,Td,fY,h1⟩
   ·exact⟨[],by simp only[Rd];exact⟨none,0,rfl,by simp,by simp,by simp⟩,by simp[cA,maxLen]⟩
   ·rw[uf]at h1;obtain⟨h2,h3⟩:=BS h1;have ma:∀i,i<len->∃es,w.cells? base (a.add (i*te.sz)) te.sz=some es/\Good w te es:=by
     intro i hi;obtain⟨y,hy,_⟩:=h3 i (by simpa using hi);simp only[List.getElem_range]at hy;obtain⟨es,mb,hy⟩:=Option.bind_eq_some_iff.1 hy;exact⟨es,mb,ih te _ es y he uo hy⟩
    obtain⟨xs,nX,iI⟩:=Rz (Q:=λi x=>∃es,w.cells? base (a.add (i*te.sz)) te.sz=some es/\Rd w (λk=>k<w.heap.size) te x es/\cA te x) (n:=len) (λi hi=>by
     obtain⟨es,mb,x,hx,wx⟩:=ma i hi;exact⟨x,es,mb,hx,wx⟩)
    refine⟨xs,?_,?_⟩
    ·simp only[Rd];refine⟨some a,cap,by rw[nX],by rw[nX];exact Td,by simp,λa8=>?_⟩;have h0:0<xs.length:=List.length_pos_iff.2 a8;obtain⟨es,mb,_⟩:=iI 0 h0;obtain⟨jm,Bj⟩:=Rv mb;obtain⟨v0,HV⟩:∃v,es[0]?=some v:=⟨_,List.getElem?_eq_getElem (by omega)⟩;obtain⟨au,uQ⟩:=Ru (Bj 0 v0 HV);have agR:a.spot=none:=by simpa[Addr.add]using uQ
     have hblk:a.block<w.heap.size:=by simpa[Addr.add]using au
     refine⟨a.block,a.off,by obtain⟨b,o,s⟩:=a;simp_all,hblk,λj hj=>?_⟩;obtain⟨es,mb,br,_⟩:=iI j hj;refine⟨es,br,λi v hv=>?_⟩;have:=(Rv mb).2 i v hv
     rwa [add_add a _ _ agR]at this
    ·refine⟨by rw[nX];omega,λx hx=>?_⟩;obtain⟨i,hi,rfl⟩:=List.mem_iff_getElem.1 hx;obtain⟨es,_,_,wx⟩:=iI i hi;exact wx
  | agg t' =>
   obtain⟨⟨fs,hu,mc,gO⟩,_⟩:=(hC X _ hX).str (G4 hf);simp only[DataW.trod]at h;rw[hu]at h;have h':(if cs.length=P.cellsOf X then (fs.toList.mapM λf=>DataW.trod enc P w base spare held fuel f.type ((cs.drop f.offset).take (P.cellsOf f.type))).map λxs=>(DataW.agg (xs.map (·.1)),xs.flatMap (·.2))else none)=some r:=by
    split at h<;>simp_all
   clear h;split at h'
   ·rename_i hl;obtain⟨xs,iI,_⟩:=Option.map_eq_some_iff.1 h';obtain⟨_,h3⟩:=BS iI;have Bq:t'.flat=true:=hf;have a8:t' ≠ .unit:=by rintro rfl;simp[Ty.flat]at Bq
    have dB:cs.length=t'.sz:=by rw[hl,Hi];rfl
    have:Good w t' cs:=Su dB a8 (λj r hr=>by
     have au:=gO j r hr;obtain⟨t1,e1,e2,_⟩:=mc j fs[j] (Array.getElem?_eq_getElem au);rw[hr]at e1;injection e1 with e1;subst e1;obtain⟨y,hy,_⟩:=h3 j (by simpa using au);simp only[Array.getElem_toList]at hy;obtain⟨TR,z',ux,uy,_⟩:=(hC _ _ e2).info;have uf:P.cellsOf fs[j].type=t1.sz:=by simp[Program.cellsOf,ux,uy]
     rw[uf]at hy;exact ih t1 _ _ y e2 (G3 hr Bq) hy)
    obtain⟨x,hx,wx⟩:=this;exact⟨x,by simp only[Rd];exact hx,wx⟩
   ·cases h'
end
theorem mapM_congr{β:Type}{f g:α->Option β}:{l:List α}->{ys:List β}->l.mapM f=some ys->(∀a y,f a=some y->y∈ys->g a=some y)->l.mapM g=some ys
 | [],ys,h,_=>by simpa using h
 | a::l,ys,h,H=>by
  simp only[List.mapM_cons,Option.bind_eq_bind,Option.bind_eq_some_iff,Option.pure_def,Option.some.injEq]at h;obtain⟨y,hy,J4,pv,rfl⟩:=h;have h1:=H a y hy (by simp);have h2:=mapM_congr pv (λa y ha hm=>H a y ha (by simp[hm]));simp[h1,h2]
section
variable{H:Type}{enc:TypeId×Value->H}{P:Program}{C:Ctx}{w w':World}{base:Nat}{sp:Nat->Bool}{held:Bool}
theorem aeX[ae](hH:∀k,k<w.heap.size->w'.heap[k]?=w.heap[k]?){es:List Value}(h:w.cells? base a n=some es):w'.cells? base a n=some es:=by
 unfold World.cells? at h ⊢;split at h
 ·rename_i hb;rw[if_pos hb];refine mapM_congr h (λi v hv _=>?_);have:=(Ru hv).1;rw[World.cell?_of_block (hH _ this)];exact hv
 ·cases h
theorem aj9{a:Addr}{i:Nat}(h:i<n):∃p∈MemPlace.row a n,p.block=a.block:=by
 unfold MemPlace.row;exact⟨_,List.mem_map.2 ⟨i,by simpa using h,rfl⟩,by simp[MemPlace.block]⟩
theorem alo{fuel:Nat}{X:TypeId}{len cap:Nat}{r:DataW H×List MemPlace}{sp:Nat->Bool}(hu:P.underlying X=some (.slice e))(h:DataW.trod enc P w base sp held (fuel+1) X [.slice (some a) len cap]=some r):
  (base<=a.block/\len<=cap/\cap<=maxLen)/\∃elems rest,(List.range len).mapM (λi=>(w.cells? base (a.add (i*P.cellsOf e)) (P.cellsOf e)).bind (DataW.trod enc P w base sp held fuel e))=some elems /\
   (if sp a.block=true then (List.range (cap - len)).mapM (λj=>(w.cells? base (a.add ((len+j)*P.cellsOf e)) (P.cellsOf e)).bind (DataW.trod enc P w base sp held fuel e))else some [])=some rest /\
   r=(.slice (elems.map (·.1)) (rest.map (·.1)),MemPlace.row a ((elems.length+rest.length)*P.cellsOf e)++(elems++rest).flatMap (·.2)):=by
 simp only[DataW.trod,hu]at h;split at h
 ·rename_i hc;obtain⟨elems,h1,h2⟩:=Option.bind_eq_some_iff.1 h;obtain⟨rest,h3,h4⟩:=Option.map_eq_some_iff.1 h2;exact⟨hc,elems,rest,h1,h3,h4.symm⟩
 ·cases h
theorem aln[ae](hC:bt P C)(hH:∀k,k<w.heap.size->w'.heap[k]?=w.heap[k]?):∀(fuel:Nat) (t:Ty) (X:TypeId) (cs:List Value) (r:DataW H×List MemPlace),C.ty X=some t->t.flat=true ->
  DataW.trod enc P w base (λ_=>true) held fuel X cs=some r->(∀p∈r.2,sp p.block=true)->DataW.trod enc P w' base sp held fuel X cs=some r:=by
 intro fuel;induction fuel with
 | zero=>intro t X cs r _ _ h;simp[DataW.trod]at h
 | succ fuel ih =>
  intro t X cs r hX hf h hs;have hu:=(hC X t hX).bT;cases t with
  | int k =>
   simp only[DataW.trod,hu]at h ⊢;rcases cs with _|⟨c,_|⟨c2,cs⟩⟩
   ·simp at h
   ·cases c<;>simp at h ⊢<;>exact h
   ·simp at h
  | bool =>
   simp only[DataW.trod,hu]at h ⊢;rcases cs with _|⟨c,_|⟨c2,cs⟩⟩
   ·simp at h
   ·cases c<;>simp at h ⊢<;>exact h
   ·simp at h
  | str =>
   simp only[DataW.trod,hu]at h ⊢;rcases cs with _|⟨c,_|⟨c2,cs⟩⟩
   ·simp at h
   ·cases c<;>simp at h ⊢<;>exact h
   ·simp at h
  | raw z=>simp[Ty.flat]at hf
  | cap k0 t0=>simp[Ty.flat]at hf
  | unit=>simp[Ty.flat]at hf
  | pair a b=>exact hu.elim
  | slice e te =>
   obtain⟨hu,he⟩:=hu;have uo:te.flat=true:=hf;have uf:P.cellsOf e=te.sz:=by
    obtain⟨TR,z',ux,uy,_⟩:=(hC e te he).info;simp[Program.cellsOf,ux,uy]
   have HF:=A5 uo;rcases trod_slice hu h with rfl|⟨a,len,cap,_,rfl,_,_,_⟩
   ·simp only[DataW.trod,hu]at h ⊢;simpa using h
   ·obtain⟨hc,elems,rest,h1,h2,rfl⟩:=alo hu h;rw[if_pos rfl]at h2;have uT:∀(i:Nat) (y:DataW H×List MemPlace),((w.cells? base (a.add (i*P.cellsOf e)) (P.cellsOf e)).bind (DataW.trod enc P w base (λ_=>true) held fuel e))=some y->(∀p∈y.2,sp p.block=true) ->
      ((w'.cells? base (a.add (i*P.cellsOf e)) (P.cellsOf e)).bind (DataW.trod enc P w' base sp held fuel e))=some y:=by
     intro i y hy hp;obtain⟨es,mb,hy⟩:=Option.bind_eq_some_iff.1 hy;rw[aeX hH mb];exact ih te e es y he uo hy hp
    have fE:∀y,(y∈elems\/y∈rest)->∀p∈y.2,sp p.block=true:=λy hy p hp=>hs p (by
     simp only[List.mem_append,List.mem_flatMap];exact .inr ⟨y,hy,hp⟩)
    have g1:=mapM_congr h1 (λi y hy hm=>uT i y hy (fE y (.inl hm)));have g2:=mapM_congr h2 (λj y hy hm=>uT (len+j) y hy (fE y (.inr hm)));simp only[DataW.trod,hu];rw[if_pos hc,g1,Option.bind_some];by_cases uQ:sp a.block=true
    ·rw[if_pos uQ,g2];rfl
    ·have hz:elems.length+rest.length=0:=by
      apply Classical.byContradiction;intro a8;have:0<(elems.length+rest.length)*P.cellsOf e:=by rw[uf];exact Nat.mul_pos (by omega) HF
      obtain⟨p,hp,hb⟩:=aj9 (a:=a) this;exact uQ (by rw[<-hb];exact hs p (List.mem_append_left _ hp))
     have:rest=[]:=List.eq_nil_of_length_eq_zero (by omega);subst this;rw[if_neg uQ];rfl
  | agg t' =>
   obtain⟨⟨fs,hu,mc,gO⟩,_⟩:=(hC X _ hX).str (G4 hf);simp only[DataW.trod,hu]at h ⊢;split at h
   ·rename_i hl;rw[if_pos hl];obtain⟨xs,iI,rfl⟩:=Option.map_eq_some_iff.1 h;have Bq:t'.flat=true:=hf;have:fs.toList.mapM (λf=>DataW.trod enc P w' base sp held fuel f.type ((cs.drop f.offset).take (P.cellsOf f.type)))=some xs:=by
     have gen:∀(l:List Field) (xs:List (DataW H×List MemPlace)),(∀f∈l,f∈fs.toList)->l.mapM (λf=>DataW.trod enc P w base (λ_=>true) held fuel f.type ((cs.drop f.offset).take (P.cellsOf f.type)))=some xs->(∀y∈xs,∀p∈y.2,sp p.block=true) ->
       l.mapM (λf=>DataW.trod enc P w' base sp held fuel f.type ((cs.drop f.offset).take (P.cellsOf f.type)))=some xs:=by
      intro l;induction l with
      | nil=>intro xs _ h _;simpa using h
      | cons f l ihl =>
       intro xs TI h hp;simp only[List.mapM_cons,Option.bind_eq_bind,Option.bind_eq_some_iff,Option.pure_def,Option.some.injEq]at h;obtain⟨y,hy,J4,pv,rfl⟩:=h;obtain⟨j,hj⟩:=List.mem_iff_getElem?.1 (TI f (by simp));obtain⟨t1,e1,e2,_⟩:=mc j f (by simpa using hj);have g1:=ih t1 _ _ y e2 (G3 e1 Bq) hy (hp y (by simp));have g2:=ihl J4 (λf hf=>TI f (by simp[hf])) pv (λz hz=>hp z (by simp[hz]));simp[g1,g2]
     exact gen _ _ (λ_ h=>h) iI (λy hy p hp=>hs p (by
      simp only[List.mem_flatMap];exact⟨y,hy,hp⟩))
    rw[this];rfl
   ·cases h
end
open Go.ChangeShapes Go.WideShapes
section
variable{H:Type}{enc:TypeId×Value->H}{P:Program}{C:Ctx}{w w':World}
theorem ajs[ae](hC:bt P C){X:TypeId}{t:Ty}{v:Value}{base:Nat}(hX:C.ty X=some t)(hf:t.flat=true)(aI:Value.okWide P w .any base X v):Form t v.cells.toList v:=by
 have hu:=(hC X t hX).bT;unfold Value.okWide at aI;cases t with
 | agg t' =>
  obtain⟨⟨fs,hu,_⟩,_⟩:=(hC X _ hX).str (G4 hf);rw[hu]at aI;obtain⟨cs,rfl,_⟩:=aI;simp[Form,Value.cells]
 | int k =>
  rw[hu]at aI;cases v<;>simp[Cell.okWide,Cell.ok,hu]at aI;rfl
 | bool =>
  rw[hu]at aI;cases v<;>simp[Cell.okWide,Cell.ok,hu]at aI;rfl
 | str =>
  rw[hu]at aI;cases v<;>simp[Cell.okWide,Cell.ok,hu]at aI;rfl
 | slice e te =>
  obtain⟨hu,_⟩:=hu;rw[hu]at aI;cases v<;>simp[Cell.okWide,Cell.ok,hu]at aI;rfl
 | raw z=>simp[Ty.flat]at hf
 | cap k0 t0=>simp[Ty.flat]at hf
 | unit=>simp[Ty.flat]at hf
 | pair a b=>exact hu.elim
def gy(C:Ctx):List TypeId->List (Ty×Mode)->Bool
 | [],[]=>true
 | X::Xs,(t,.ro)::ps=>decide (C.ty X=some t)&&t.flat&&gy C Xs ps
 | _,_=>false
def ju(w:World):Nat->aj:=λk=>if k<w.heap.size then .al else .free
theorem Rg[ae](hC:bt P C){base:Nat}:{Xs:List TypeId}->{ps:List (Ty×Mode)}->{vs:List Value}->{ds:List (DataW H)}->{p:List MemPlace}->{i:Nat}->gy C Xs ps=true ->
  (∀(j:Nat) t v,Xs[j]?=some t->vs[j]?=some v->Value.okWide P w .any base t v)->DataW.TrodAll enc P w 0 (λ_=>true) true Xs vs ds p->∃x,dE w (ju w) i ps x vs/\cA (cW ps) x
 | [],[],vs,ds,p,i,_,_,h=>by
  obtain⟨rfl,_⟩:=trodAll_nil h;exact⟨(),rfl,trivial⟩
 | X::Xs,(t,.ro)::ps,vs,ds,p,i,hb,aI,h=>by
  simp only[gy,Bool.and_eq_true,decide_eq_true_eq]at hb;obtain⟨⟨hX,hf⟩,hb⟩:=hb;obtain⟨v,JV,d,RQ,a,b,rfl,rfl,rfl,⟨fuel,h1⟩,h2⟩:=trodAll_cons h;obtain⟨x,hx,wx⟩:=trod_good hC fuel t X _ _ hX hf h1;obtain⟨y,hy,wy⟩:=Rg (i:=i+1) hC hb (λj t v' hj hv=>aI (j+1) t v' (by simpa using hj) (by simpa using hv)) h2;refine⟨(x,y),?_,wx,wy⟩;refine⟨v,JV,v.cells.toList,rfl,ajs hC hX hf (aI 0 X v rfl rfl),Own.du (Rd.move (λk hk=>⟨?_,rfl⟩) hx),hy⟩;have hk:k<w.heap.size:=hk;show (ju w) k = .al;unfold ju;rw[if_pos hk]
 | [],_::_,_,_,_,_,hb,_,_=>by simp[gy]at hb
 | _::_,[],_,_,_,_,hb,_,_=>by simp[gy]at hb
 | _::_,(_,.mut _)::_,_,_,_,_,hb,_,_=>by simp[gy]at hb
theorem Rf[ae](hC:bt P C)(hH:∀k,k<w.heap.size->w'.heap[k]?=w.heap[k]?){sp:Nat->Bool}:{Xs:List TypeId}->{ps:List (Ty×Mode)}->{vs:List Value}->{ds:List (DataW H)}->{p:List MemPlace}->gy C Xs ps=true ->
  DataW.TrodAll enc P w 0 (λ_=>true) true Xs vs ds p->(∀q∈p,sp q.block=true)->DataW.TrodAll enc P w' 0 sp true Xs vs ds p
 | [],[],vs,ds,p,_,h,_=>by
  obtain⟨rfl,rfl,rfl⟩:=trodAll_nil h;exact trodAll_mk0
 | X::Xs,(t,.ro)::ps,vs,ds,p,hb,h,hs=>by
  simp only[gy,Bool.and_eq_true,decide_eq_true_eq]at hb;obtain⟨⟨hX,hf⟩,hb⟩:=hb;obtain⟨v,JV,d,RQ,a,b,rfl,rfl,rfl,⟨fuel,h1⟩,h2⟩:=trodAll_cons h;exact⟨a,b,⟨fuel,aln hC hH fuel t X _ _ hX hf h1 (λq hq=>hs q (List.mem_append_left _ hq))⟩,Rf hC hH hb h2 (λq hq=>hs q (List.mem_append_right _ hq)),rfl⟩
 | [],_::_,_,_,_,hb,_,_=>by simp[gy]at hb
 | _::_,[],_,_,_,hb,_,_=>by simp[gy]at hb
 | _::_,(_,.mut _)::_,_,_,_,hb,_,_=>by simp[gy]at hb
theorem aiU[ae](hC:bt P C){ao:(cW ps).den->Option (Ty.pair (cG [(.bool,0)]) (cm ps)).den}(aI:aq P f ⟨ps,[(.bool,0)],ao⟩)
  (o5:ae.ok w (ju w)) (eH:∀x,cA (cW ps) x->∃m,ao x=some ((true,()),m)) {Xs:List TypeId} (hb:gy C Xs ps=true) {args:Array Value} {base:Nat} {ds:List (DataW H)} {p:List MemPlace}
  (dK:∀(j:Nat) t v,Xs[j]?=some t->args[j]?=some v->Value.okWide P w .any base t v) (hA:DataW.TrodAll enc P w 0 (λ_=>true) true Xs args.toList ds p) :
  Calls P f args w (λe w'=>e = .returned (.bool true)/\w'.os=w.os/\w'.output=w.output/\w.heap.size<=w'.heap.size/\∀k,k<w.heap.size->w'.heap[k]?=w.heap[k]?):=by
 obtain⟨x,hx,wx⟩:=Rg (i:=0) hC hb (λj t v hj hv=>dK j t v hj (by simpa using hv)) hA;obtain⟨m,hm⟩:=eH x wx;have hl:jb w (ju w) ps:=by
  refine⟨λk hk=>?_,λk k' s q h=>?_,λk s q h=>?_,o5⟩
  ·unfold ju;rw[if_neg (by omega)]
  ·unfold ju at h;split at h<;>cases h
  ·unfold ju at h;split at h<;>cases h
 refine Calls.mono (aI.2 x _ hm w (ju w) args hl hx) ?_
 rintro e w' ⟨cs,L',rfl,aZ,bX,_⟩
 have bX:=(jc.low (rs:=[(.bool,0)]) rfl).1 bX;simp only[im]at bX;obtain⟨c,a7,cells,rfl,h1,h2,rfl⟩:=bX;simp only[Own]at h2;subst h2;have hc:c = .bool true:=((List.cons.inj h1).1).symm;subst hc;exact⟨rfl,aZ.os,aZ.output,aZ.size,λk hk=>(aZ.aO k hk (.inl (by unfold ju;rw[if_pos hk]))).2⟩
theorem aiX[ae]{f:Func}{s:ChangeSpec}{apart fresh handsOn again:Bool}{args:Array Value}{ds gs:List (DataW H)}{before:List MemPlace}(hC:bt P C)(hb:gy C f.params.toList ps=true)
  (hW:DataW.Whole enc P f.params.toList s.vars apart w args.toList ds gs before) (pr:s.vars=[]) (hs:s.fn H (ds++gs)={ results:=[.lit (.bool true)],args:=ds }) {B:TypeId} (bX:f.resultTypes=#[B]) (hB:P.underlying B=some .bool)
  (hos:w'.os=w.os) (uJ:w'.output=w.output) (hH:∀k,k<w.heap.size->w'.heap[k]?=w.heap[k]?):s.post enc P f apart fresh handsOn again w args (.bool true) w':=by
 have au:=hW.lt;have Hd:=hW;obtain⟨p,q,hA,hV,rfl,hz,hn⟩:=hW;rw[pr]at hV;have hq:q=[]/\gs=[]:=by
  cases gs with
  | nil=>exact⟨hV,rfl⟩
  | cons _ _=>exact hV.elim
 obtain⟨rfl,rfl⟩:=hq;have TD:∀(b:Nat) (sp:Nat->Bool) (hd:Bool),DataW.TrodAll enc P w' b sp hd f.resultTypes.toList ((Value.bool true).resultList f.resultTypes.size) (s.fn H (ds++[])).results []:=by
  intro b sp hd;rw[hs,bX];refine⟨[],[],⟨1,?_⟩,rfl,rfl⟩;simp[DataW.trod,hB,Value.cells]
 have gn:∀sp:Nat->Bool,(∀q∈p,sp q.block=true)->DataW.TrodAll enc P w' 0 sp true f.params.toList args.toList (s.fn H (ds++[])).args p:=by
  intro sp h;rw[hs];exact Rf hC hH hb hA h
 have hv:∀sp:Nat->Bool,DataW.TrodVars enc P w' sp s.vars (s.fn H (ds++[])).vars []:=by
  intro sp;rw[hs,pr];rfl
 have hkb:w.keptBut w' (λ_=>False):=by
  refine⟨hos,uJ,λi hi=>?_⟩;rw[hH i hi];split
  ·rename_i h1 h2;rw[h1]at h2;cases h2;exact⟨rfl,rfl,rfl,λ_ _=>rfl⟩
  ·rename_i h1 h2;rw[h1]at h2;cases h2;exact .inr ⟨rfl,rfl⟩
  ·rfl
 refine⟨ds,[],p++[],[],p,[],Hd,TD _ _ _,gn _ (λq hq=>by simpa using au q (by simpa using hq)),hv _,World.keptBut_mono (λ_ h=>h.elim) hkb,λ_=>?_⟩;refine⟨λj t r hj hr=>?_,_,_,([]++p)++[],⟨[]++p,[],trodAll_append (gn _ (λ_ _=>rfl)) (TD _ _ _),hv _,rfl,λb off hp=>?_,λha=>?_⟩,λq hq _=>by simpa using hq⟩
 ·rw[bX]at hj hr;cases j with
  | zero =>
   simp[Value.resultList]at hj hr;subst hj hr;simp[Value.okWide,hB,Cell.okWide,Cell.ok]
  | succ j=>simp at hj
 ·have cc:MemPlace.cell b off∈p++[]:=by simpa using hp
  have hb':b<w.heap.size:=au _ cc;have:=hz b off cc;unfold World.frozen? at this ⊢;dsimp only at this ⊢;rw[hH b hb'];exact this
 ·have:=hn ha;simpa using this
theorem WV{base:Nat}{sp:Nat->Bool}{held:Bool}:{ts:List TypeId}->{vs:List Value}->{ds:List (DataW H)}->{p:List MemPlace}->DataW.TrodAll enc P w base sp held ts vs ds p->ds.length=ts.length
 | [],_,_,_,h=>by obtain⟨_,rfl,_⟩:=trodAll_nil h;rfl
 | _::_,_,_,_,h=>by
  obtain⟨v,JV,d,RQ,a,b,rfl,rfl,rfl,_,h2⟩:=trodAll_cons h;simp[WV h2]
theorem aiW[ae](hC:bt P C){fn:Func}{s:ChangeSpec}{apart fresh handsOn again:Bool}{ao:(cW ps).den->Option (Ty.pair (cG [(.bool,0)]) (cm ps)).den}
  (aI:aq P f ⟨ps,[(.bool,0)],ao⟩) (eH:∀x,cA (cW ps) x->∃m,ao x=some ((true,()),m)) (hb:gy C fn.params.toList ps=true) (pr:s.vars=[])
  (hs:∀ds:List (DataW H),ds.length=fn.params.size->s.fn H ds={ results:=[.lit (.bool true)],args:=ds }) {B:TypeId} (bX:fn.resultTypes=#[B]) (hB:P.underlying B=some .bool)
  (W:World) (base:Nat) (args:Array Value) (ds gs:List (DataW H)) (before:List MemPlace)
  (dK:∀(j:Nat) t v,fn.params[j]?=some t->args[j]?=some v->Value.okWide P W .any base t v) (hW:DataW.Whole enc P fn.params.toList s.vars apart W args.toList ds gs before) (o5:ae.ok W (ju W)) :
  Calls P f args W λe W'=>∃v,e = .returned v/\s.post enc P fn apart fresh handsOn again W args v W':=by
 have Hd:=hW;obtain⟨p,q,hA,hV,rfl,hz,hn⟩:=hW;have o7:gs=[]:=by
  rw[pr]at hV;cases gs with
  | nil=>rfl
  | cons _ _=>exact hV.elim
 refine Calls.mono (aiU hC aI o5 eH hb (λj t v hj hv=>dK j t v (by simpa using hj) hv) hA) ?_
 rintro e W' ⟨rfl,h1,h2,h3,h4⟩
 refine⟨_,rfl,aiX hC hb Hd pr ?_ bX hB h1 h2 h4⟩;rw[o7,List.append_nil];exact hs ds (by have:=WV hA;simpa using this)
theorem aiV[ae](hC:bt P C){fn:Func}{s:ChangeSpec}{apart fresh handsOn again:Bool}{ao:(cW ps).den->Option (Ty.pair (cG [(.bool,0)]) (cm ps)).den}
  (aI:aq P f ⟨ps,[(.bool,0)],ao⟩) (eH:∀x,cA (cW ps) x->∃m,ao x=some ((true,()),m)) (o5:∀w,ae.ok w (ju w)) (hb:gy C fn.params.toList ps=true) (pr:s.vars=[])
  (hs:∀ds:List (DataW H),ds.length=fn.params.size->s.fn H ds={ results:=[.lit (.bool true)],args:=ds }) {B:TypeId} (bX:fn.resultTypes=#[B]) (hB:P.underlying B=some .bool)
  (W:World) (base:Nat) (args:Array Value) (ds gs:List (DataW H)) (before:List MemPlace)
  (dK:∀(j:Nat) t v,fn.params[j]?=some t->args[j]?=some v->Value.okWide P W .any base t v) (hW:DataW.Whole enc P fn.params.toList s.vars apart W args.toList ds gs before) :
  Calls P f args W λe W'=>∃v,e = .returned v/\s.post enc P fn apart fresh handsOn again W args v W' :=
 aiW hC aI eH hb pr hs bX hB W base args ds gs before dK hW (o5 W)
end
noncomputable def oh(E:Env){R:Type}(c:Code)(k:Ex->List V->Option R)(self:List V->Option R)(T:List V):Option R:=aw E c (λe T'=>match e with
 | .bF=>eX (E.aO (fZ c)) T' self
 | .ext i=>k (.ext i) T'
 | .ret=>k .ret T') T
noncomputable def bC(E:Env){R:Type}:List Nat->Code->(Ex->List V->Option R)->Code×(Ex->List V->Option R)
 | [],c,k=>(c,k)
 | 0::p,.seq a b,k=>bC E p a (λe T'=>match e with
  | .bF=>eX (E.aO (lx b)) T' (aw E b k)
  | .ext i=>k (.ext i) T'
  | .ret=>k .ret T')
 | 1::p,.seq a b,k=>bC E p b k
 | 0::p,.cond _ a b,k=>bC E p a k
 | 1::p,.cond _ a b,k=>bC E p b k
 | 0::p,.block id c,k=>bC E p c (λe T'=>match e with
  | .bF=>k .bF T'
  | .ext i=>cond (i==id) (k .bF T') (k (.ext i) T')
  | .ret=>k .ret T')
 | 0::p,.loop c,k=>bC E p c (λe T'=>match e with
  | .bF=>eX (E.aO (fZ c)) T' (fW (oh E c k))
  | .ext i=>k (.ext i) T'
  | .ret=>k .ret T')
 | _,c,k=>(.skip,k)
noncomputable def Ix(E:Env){R:Type}(p:List Nat)(c:Code)(k:Ex->List V->Option R)(T:List V):Option R :=
 match bC E p c k with
 | (.loop c',k')=>fW (oh E c' k') T
 | _=>none
noncomputable def shut{α:Type}(a:α):α:=Classical.choose (⟨a,rfl⟩:∃x,x=a)
theorem sf(a:α):shut a=a:=Classical.choose_spec (⟨a,rfl⟩:∃x,x=a)
noncomputable def aN(E:Env){R:Type}(p:List Nat)(c:Code)(k:Ex->List V->Option R)(T:List V):Option R:=shut (Ix E p c k) T
noncomputable def JF(E:Env){R:Type}(p:List Nat)(c:Code)(k:Ex->List V->Option R)(T:List V):Option R :=
 match bC E p c k with
 | (.loop c',k')=>oh E c' k' (fW (oh E c' k')) T
 | _=>none
theorem ai1[ae]{R:Type}(E:Env)(p:List Nat)(c:Code)(k:Ex->List V->Option R)(T:List V):aN E p c k T=JF E p c k T:=by
 unfold aN;rw[sf];unfold Ix JF;split
 ·exact afc (WZ _) T
 ·rfl
noncomputable def BI(E:Env){R:Type}(p:List Nat)(c:Code)(k:Ex->List V->Option R)(T:List V):Option R :=
 match bC E p c k with
 | (c',k')=>aw E c' k' T
noncomputable def gw(E:Env){R:Type}(p:List Nat)(c:Code)(k:Ex->List V->Option R)(T:List V):Option R:=shut (BI E p c k) T
def pF:List (Nat×List Nat)->Nat->Option (List Nat)
 | [],_=>none
 | (k,p)::l,key=>cond (k==key) (some p) (pF l key)
def od{α:Type}:List V->Nat->V->(List V->α)->α
 | [],_,_,K=>K []
 | _::l,0,v,K=>K (v::l)
 | a::l,n+1,v,K=>od l n v λl'=>K (a::l')
theorem Cp:(T:List V)->(i:Nat)->(v:V)->(K:List V->α)->od T i v K=K (T.set i v)
 | [],_,_,_=>rfl
 | _::_,0,_,_=>rfl
 | a::l,n+1,v,K=>by simp only[od,List.set_cons_succ];rw[Cp l n v]
def mW{α:Type}:List (Nat×V)->List V->(List V->α)->α
 | [],T,K=>K T
 | u::l,T,K=>od T u.1 u.2 λT'=>mW l T' K
theorem Wu[ae]:(ups:List (Nat×V))->(T:List V)->(K:List V->α)->mW ups T K=K (ah T ups)
 | [],_,_=>rfl
 | u::l,T,K=>by
  simp only[mW];rw[Cp,Wu l];rfl
def A6{α:Type}:List V->(List V->α)->α
 | [],K=>K []
 | a::l,K=>A6 l λl'=>K (a::l')
theorem R9:(T:List V)->(K:List V->α)->A6 T K=K T
 | [],_=>rfl
 | a::l,K=>by simp only[A6];rw[R9 l]
def rT{α:Type}(ks:Nat):Nat->List V->(List V->α)->α
 | _,[],K=>K []
 | i,v::l,K=>cond (ks.testBit i) (rT ks (i+1) l λl'=>K (v::l')) (rT ks (i+1) l λl'=>K (.dead::l'))
theorem Ik(ks:Nat):(i:Nat)->(T:List V)->(K:List V->α)->rT ks i T K=K (eI ks i T)
 | _,[],_=>rfl
 | i,v::l,K=>by
  simp only[rT,eI];cases ks.testBit i with
  | true=>simp only[cond_true];rw[Ik ks (i+1) l]
  | false=>simp only[cond_false];rw[Ik ks (i+1) l]
def G5{α:Type}(k:Nat)(v:V)(K:V->α):α:=match v with
 | .d l n t x=>K (.d l (min k n) t x)
 | .box l n t x=>K (.box l (min k n) t x)
 | v=>K v
theorem Sa(k:Nat)(v:V)(K:V->α):G5 k v K=K (iy k v):=by cases v<;>rfl
def rP{α:Type}(m:Nat):Nat->List V->(List V->α)->α
 | _,[],K=>K []
 | i,v::l,K=>cond (m.testBit (1000+i)) (G5 0 v λv'=>rP m (i+1) l λl'=>K (v'::l')) (cond (m.testBit (2000+i)) (G5 1 v λv'=>rP m (i+1) l λl'=>K (v'::l')) (rP m (i+1) l λl'=>K (v::l')))
theorem BE[ae](m:Nat):(i:Nat)->(T:List V)->(K:List V->α)->rP m i T K=K (lq m i T)
 | _,[],_=>rfl
 | i,v::l,K=>by
  simp only[rP,lq];cases m.testBit (1000+i)with
  | true=>simp only[cond_true];rw[Sa,BE m (i+1) l]
  | false =>
   simp only[cond_false];cases m.testBit (2000+i)with
   | true=>simp only[cond_true];rw[Sa,BE m (i+1) l]
   | false=>simp only[cond_false];rw[BE m (i+1) l]
def pC{R:Type}(ks:Option Nat)(T:List V)(K:List V->Option R):Option R :=
 match ks with
 | none=>K T
 | some m=>cond (pD m T 0 T) (cond (decide (m<2 ^ 1000)) (rT m 0 T K) (rT m 0 T λT'=>cond (px m T' 0 T') (rP m 0 T' K) none)) none
theorem u4[ae]{R:Type}(ks:Option Nat)(T:List V)(K:List V->Option R):pC ks T K=eX ks T K:=by
 cases ks with
 | none=>rfl
 | some m=>simp only[pC,eX,Ik,BE]
def mM{R:Type}(E:Env)(ops:Array Oper)(draw:Bool)(K:List V->Option R)(T0:List V):List Oper->List V->List Rec->Option R
 | [],T,recs=>cond (!draw||(jO 0 ops.toList&&kD (fx ops.toList []) [] (recs.map λr=>(mask r.rd,mask r.wr))&&lR T0 recs&&decide (E.N<=bb))) (K T) none
 | o::l,T,recs=>cond (pO E o) (match o.guard with
  | none=>(E.step o).runK T [] λlog ups=>mW ups T λT=>mM E ops draw K T0 l T (recs++[(log,ups)])
  | some (j,want)=>match (ops[j]?).bind (·.dst)with
   | none=>none
   | some g=>match T.getD g .dead with
    | .d l0 n0 .bool b=>cond b
      (od T g (.d l0 n0 .bool true) λT=>cond want
       ((E.step o).runK T [g] λlog ups=>mW ups T λT=>mM E ops draw K T0 l T (recs++[(log,ups)]))
       ((kB E o T).bind λu=>mW u.2 T λT=>mM E ops draw K T0 l T (recs++[(g::u.1,u.2)])))
      (od T g (.d l0 n0 .bool false) λT=>cond want
       ((kB E o T).bind λu=>mW u.2 T λT=>mM E ops draw K T0 l T (recs++[(g::u.1,u.2)]))
       ((E.step o).runK T [g] λlog ups=>mW ups T λT=>mM E ops draw K T0 l T (recs++[(log,ups)])))
    | .bB []=>(kB E o T).bind λu=>mW u.2 T λT=>mM E ops draw K T0 l T (recs++[(g::u.1,u.2)])
    | _=>none) none
theorem V1[ae]{R:Type}(E:Env)(ops:Array Oper)(draw:Bool)(K:List V->Option R)(T0:List V):(l:List Oper)->(T:List V)->(recs:List Rec)->mM E ops draw K T0 l T recs=ed E ops draw K T0 l T recs
 | [],T,recs=>rfl
 | o::l,T,recs=>by
  simp only[mM,ed,Wu,Cp,V1 E ops draw K T0 l];rfl
section
variable(E:Env){R:Type}(js:List (Nat×List Nat))(c0:Code)(K0:Ex->List V->Option R)
noncomputable def Cm(key:Nat)(f:List V->Option R):List V->Option R :=
 match pF js key with
 | some p=>gw E p c0 K0
 | none=>f
noncomputable def BR(key:Nat)(f:List V->Option R):List V->Option R :=
 match pF js key with
 | some p=>aN E p c0 K0
 | none=>f
noncomputable def ix:Code->(Ex->List V->Option R)->List V->Option R
 | .skip,k,T=>k .bF T
 | .label _,k,T=>k .bF T
 | .region id ops draw,k,T=>pC (E.aO id) T λT=>mM E ops draw (k .bF) T ops.toList T []
 | .seq a b,k,T=>ix a (λe T'=>match e with
  | .bF=>pC (E.aO (lx b)) T' (Cm E js c0 K0 (lx b) (ix b k))
  | .ext i=>k (.ext i) T'
  | .ret=>k .ret T') T
 | .cond (.tmp t) a b,k,T=>match T.getD t .dead with
  | .d l0 n0 .bool x=>cond x (od T t (.d l0 n0 .bool true) (ix a k)) (od T t (.d l0 n0 .bool false) (ix b k))
  | _=>none
 | .block id c,k,T=>ix c (λe T'=>match e with
  | .bF=>k .bF T'
  | .ext i=>cond (i==id) (k .bF T') (k (.ext i) T')
  | .ret=>k .ret T') T
 | .exit id,k,T=>k (.ext id) T
 | .loop c,k,T=>pC (E.aO (fZ c)) T (BR E js c0 K0 (fZ c) (fW (oh E c k)))
 | .ret,k,T=>k .ret T
 | _,_,_=>none
noncomputable def fV:List Nat->Code->(Ex->List V->Option R)->Code×(Ex->List V->Option R)
 | [],c,k=>(c,k)
 | 0::p,.seq a b,k=>fV p a (λe T'=>match e with
  | .bF=>pC (E.aO (lx b)) T' (Cm E js c0 K0 (lx b) (ix E js c0 K0 b k))
  | .ext i=>k (.ext i) T'
  | .ret=>k .ret T')
 | 1::p,.seq a b,k=>fV p b k
 | 0::p,.cond _ a b,k=>fV p a k
 | 1::p,.cond _ a b,k=>fV p b k
 | 0::p,.block id c,k=>fV p c (λe T'=>match e with
  | .bF=>k .bF T'
  | .ext i=>cond (i==id) (k .bF T') (k (.ext i) T')
  | .ret=>k .ret T')
 | 0::p,.loop c,k=>fV p c (λe T'=>match e with
  | .bF=>pC (E.aO (fZ c)) T' (BR E js c0 K0 (fZ c) (fW (oh E c k)))
  | .ext i=>k (.ext i) T'
  | .ret=>k .ret T')
 | _,c,k=>(.skip,k)
noncomputable def BJ(p:List Nat)(T:List V):Option R :=
 match fV E js c0 K0 p c0 K0 with
 | (c',k')=>A6 T λT=>ix E js c0 K0 c' k' T
end
def okB(js:List (Nat×List Nat)):Code->List Nat->Bool
 | .seq a b,q=>(match pF js (lx b)with
  | none=>true
  | some p=>p==q++[1])&&(okB js a (q++[0])&&okB js b (q++[1]))
 | .cond _ a b,q=>okB js a (q++[0])&&okB js b (q++[1])
 | .block _ c,q=>okB js c (q++[0])
 | .loop c,q=>(match pF js (fZ c)with
  | none=>true
  | some p=>p==q)&&okB js c (q++[0])
 | _,_=>true
section
variable{E:Env}{R:Type}{js:List (Nat×List Nat)}{c0:Code}{K0:Ex->List V->Option R}
theorem ft(i:Nat):∀(p:List Nat) (c:Code) (k:Ex->List V->Option R),bC E (p++[i]) c k=bC E [i] (bC E p c k).1 (bC E p c k).2
 | [],c,k=>by simp only[List.nil_append,bC]
 | j::p,c,k=>by
  have hs:∀k:Ex->List V->Option R,bC E [i] .skip k=(.skip,k):=λk=>by
   match i with
   | 0=>rfl
   | 1=>rfl
   | _+2=>rfl
  match j,c with
  | 0,.seq a b=>simp only[List.cons_append,bC];exact ft i p a _
  | 1,.seq a b=>simp only[List.cons_append,bC];exact ft i p b _
  | 0,.cond _ a b=>simp only[List.cons_append,bC];exact ft i p a _
  | 1,.cond _ a b=>simp only[List.cons_append,bC];exact ft i p b _
  | 0,.block _ c=>simp only[List.cons_append,bC];exact ft i p c _
  | 0,.loop c=>simp only[List.cons_append,bC];exact ft i p c _
  | 1,.block _ _|1,.loop _=>exact (hs k).symm
  | 0,.skip|0,.label _|0,.region .. | 0,.exit _|0,.ret|0,.rangeFunc .. | 0,.scope _|0,.goto _|0,.refuse _=>exact (hs k).symm
  | 1,.skip|1,.label _|1,.region .. | 1,.exit _|1,.ret|1,.rangeFunc .. | 1,.scope _|1,.goto _|1,.refuse _=>exact (hs k).symm
  | _+2,_=>exact (hs k).symm
theorem Gm[ae]{a b:Code}{k:Ex->List V->Option R}(h:bC E q c0 K0=(.seq a b,k)):bC E (q++[0]) c0 K0=(a,λe T'=>match e with
  | .bF=>eX (E.aO (lx b)) T' (aw E b k)
  | .ext i=>k (.ext i) T'
  | .ret=>k .ret T')/\bC E (q++[1]) c0 K0=(b,k):=by
 constructor
 ·rw[ft,h];rfl
 ·rw[ft,h];rfl
theorem Wk[ae]{b:Code}{k:Ex->List V->Option R}{f:List V->Option R}(h:bC E q c0 K0=(b,k))(hf:f=aw E b k)
  (aI:(match pF js (lx b)with|none=>true|some p=>p==q)=true):Cm E js c0 K0 (lx b) f=aw E b k:=by
 unfold Cm;split at aI
 ·rename_i hn;rw[hn];exact hf
 ·rename_i p hp;rw[hp];rw[beq_iff_eq]at aI;subst aI;funext T;simp only[gw,sf,BI,h]
theorem Vp[ae]{c:Code}{k:Ex->List V->Option R}{f:List V->Option R}(h:bC E q c0 K0=(.loop c,k))(hf:f=fW (oh E c k))
  (aI:(match pF js (fZ c)with|none=>true|some p=>p==q)=true):BR E js c0 K0 (fZ c) f=fW (oh E c k):=by
 unfold BR;split at aI
 ·rename_i hn;rw[hn];exact hf
 ·rename_i p hp;rw[hp];rw[beq_iff_eq]at aI;subst aI;funext T;simp only[aN,sf,Ix,h]
theorem oO[ae]:(c:Code)->(k:Ex->List V->Option R)->(q:List Nat)->bC E q c0 K0=(c,k)->okB js c q=true->ix E js c0 K0 c k=aw E c k
 | .skip,k,q,h,aI=>rfl
 | .label _,k,q,h,aI=>rfl
 | .region id ops draw,k,q,h,aI=>by
  funext T;simp only[ix,aw,u4,V1]
 | .exit _,k,q,h,aI=>rfl
 | .ret,k,q,h,aI=>rfl
 | .seq a b,k,q,h,aI=>by
  simp only[okB,Bool.and_eq_true]at aI;obtain⟨h1,h2,h3⟩:=aI;obtain⟨e0,e1⟩:=Gm h;have ib:=oO b k (q++[1]) e1 h3;have ia:=oO a _ (q++[0]) e0 h2;funext T;simp only[ix,aw,u4];rw[Wk e1 ib h1];exact congrFun ia T
 | .cond c a b,k,q,h,aI=>by
  simp only[okB,Bool.and_eq_true]at aI;have e0:bC E (q++[0]) c0 K0=(a,k):=by rw[ft,h];rfl
  have e1:bC E (q++[1]) c0 K0=(b,k):=by rw[ft,h];rfl
  have ia:=oO a _ (q++[0]) e0 aI.1;have ib:=oO b _ (q++[1]) e1 aI.2;funext T;cases c<;>simp only[ix,aw,ia,ib,Cp]<;>rfl
 | .block id c,k,q,h,aI=>by
  simp only[okB]at aI;have e0:bC E (q++[0]) c0 K0=(c,λe T'=>match e with
   | .bF=>k .bF T'
   | .ext i=>cond (i==id) (k .bF T') (k (.ext i) T')
   | .ret=>k .ret T'):=by rw[ft,h];rfl
  have ic:=oO c _ (q++[0]) e0 aI;funext T;simp only[ix,aw];exact congrFun ic T
 | .loop c,k,q,h,aI=>by
  simp only[okB,Bool.and_eq_true]at aI;funext T;simp only[ix,aw,u4];rw[Vp h rfl aI.1];rfl
 | .rangeFunc ..,k,q,h,aI=>rfl
 | .scope _,k,q,h,aI=>rfl
 | .goto _,k,q,h,aI=>rfl
 | .refuse _,k,q,h,aI=>rfl
theorem oL[ae]:(p:List Nat)->(c:Code)->(k:Ex->List V->Option R)->(q:List Nat)->bC E q c0 K0=(c,k)->okB js c q=true->fV E js c0 K0 p c k=bC E p c k/\okB js (bC E p c k).1 (q++p)=true/\bC E (q++p) c0 K0=bC E p c k
 | [],c,k,q,h,aI=>⟨rfl,by simpa[bC]using aI,by simpa[bC]using h⟩
 | j::p,c,k,q,h,aI=>by
  have hs:∀k:Ex->List V->Option R,fV E js c0 K0 (j::p) c k=(.skip,k)->bC E (j::p) c k=(.skip,k)->bC E (q++j::p) c0 K0=bC E (j::p) c k->fV E js c0 K0 (j::p) c k=bC E (j::p) c k/\okB js (bC E (j::p) c k).1 (q++j::p)=true/\bC E (q++j::p) c0 K0=bC E (j::p) c k:=λk h1 h2 h3=>by
   refine⟨by rw[h1,h2],by rw[h2];rfl,h3⟩
  have Bl:bC E (q++j::p) c0 K0=bC E (j::p) c k:=by
   have gen:∀(n:Nat) (p q:List Nat) (c:Code) (k:Ex->List V->Option R),p.length=n->bC E q c0 K0=(c,k)->bC E (q++p) c0 K0=bC E p c k:=by
    intro n;induction n with
    | zero =>
     intro p q c k hp h;obtain rfl:=List.eq_nil_of_length_eq_zero hp;simpa[bC]using h
    | succ n ih =>
     intro p q c k hp h;have a8:p≠[]:=by rintro rfl;simp at hp
     obtain⟨p0,i,rfl⟩:∃p0 i,p=p0++[i]:=⟨p.dropLast,p.getLast a8,(List.dropLast_concat_getLast a8).symm⟩;rw[<-List.append_assoc,ft,ih p0 q c k (by simp at hp;omega) h,<-ft]
   exact gen _ _ q c k rfl h
  have hq:q++j::p=(q++[j])++p:=by simp
  match j,c with
  | 0,.seq a b =>
   simp only[okB,Bool.and_eq_true]at aI;obtain⟨h1,h2,h3⟩:=aI;obtain⟨e0,e1⟩:=Gm h;have ib:=oO b k (q++[1]) e1 h3;have ia:=oL p a _ (q++[0]) e0 h2;rw[hq];simp only[fV,bC,u4];rw[Wk e1 ib h1];exact ia
  | 1,.seq a b =>
   simp only[okB,Bool.and_eq_true]at aI;have ia:=oL p b _ (q++[1]) (Gm h).2 aI.2.2;rw[hq];simp only[fV,bC];exact ia
  | 0,.cond _ a b =>
   simp only[okB,Bool.and_eq_true]at aI;have ia:=oL p a _ (q++[0]) (by rw[ft,h];rfl) aI.1;rw[hq];simp only[fV,bC];exact ia
  | 1,.cond _ a b =>
   simp only[okB,Bool.and_eq_true]at aI;have ia:=oL p b _ (q++[1]) (by rw[ft,h];rfl) aI.2;rw[hq];simp only[fV,bC];exact ia
  | 0,.block id c =>
   simp only[okB]at aI;have ia:=oL p c _ (q++[0]) (by rw[ft,h];rfl) aI;rw[hq];simp only[fV,bC];exact ia
  | 0,.loop c =>
   simp only[okB,Bool.and_eq_true]at aI;have ia:=oL p c _ (q++[0]) (by rw[ft,h];rfl) aI.2;rw[hq];simp only[fV,bC,u4];rw[Vp h rfl aI.1];exact ia
  | 1,.block _ _|1,.loop _=>exact hs k rfl rfl Bl
  | 0,.skip|0,.label _|0,.region .. | 0,.exit _|0,.ret|0,.rangeFunc .. | 0,.scope _|0,.goto _|0,.refuse _=>exact hs k rfl rfl Bl
  | 1,.skip|1,.label _|1,.region .. | 1,.exit _|1,.ret|1,.rangeFunc .. | 1,.scope _|1,.goto _|1,.refuse _=>exact hs k rfl rfl Bl
  | _+2,_=>exact hs k rfl rfl Bl
theorem join_eq[ae](aI:okB js c0 []=true)(p:List Nat)(T:List V):gw E p c0 K0 T=BJ E js c0 K0 p T:=by
 obtain⟨h1,h2,h3⟩:=oL (E:=E) (js:=js) (c0:=c0) (K0:=K0) p c0 K0 [] rfl aI;rw[List.nil_append]at h2 h3;unfold gw;rw[sf];unfold BI BJ;rw[h1];simp only[R9];exact (congrFun (oO _ _ p h3 h2) T).symm
theorem all_eq[ae](aI:okB js c0 []=true)(T:List V):aw E c0 K0 T=BJ E js c0 K0 [] T:=by
 rw[<-join_eq aI];unfold gw;rw[sf];rfl
def ahd:Code->Bool
 | .loop _=>true
 | _=>false
theorem aQ[ae](aI:okB js c0 []=true)(p:List Nat)(hl:ahd (bC E p c0 K0).1=true)(T:List V):aN E p c0 K0 T=BJ E js c0 K0 (p++[0]) T:=by
 rw[<-join_eq aI,ai1];unfold JF gw;rw[sf];unfold BI;rw[ft];generalize bC E p c0 K0=ck at hl;obtain⟨c,k⟩:=ck;cases c<;>first|rfl|cases hl
end
def dd:Nat->List V->List V
 | 0,l=>l
 | n+1,l=>.dead::dd n l
structure MF where
 ps:List (Ty×Mode)
 rs:List (Ty×Nat)
 sl:List RV
 vs:List Nat
 aO:Nat->Option Nat
 hx:Hints
def MF.env(M:MF)(C:Ctx)(t:dx)(f:Func):Env:=vf C t M.vs f.ntmps M.aO M.hx M.ps
def MF.out(M:MF)(C:Ctx):Ex->List V->Option (Ty.pair (cG M.rs) (cm M.ps)).den:=RW C M.ps M.rs M.sl
noncomputable def MF.fn(M:MF)(C:Ctx)(t:dx)(f:Func):Fn:=VB C t M.vs f.ntmps M.aO M.hx M.ps M.rs M.sl (f.body.getD .skip)
def MF.fits(M : MF)(f : Func):Bool := !(f.name == "runtime.NumGoroutine") && f.body.isSome && decide (M.ps.length <= f.ntmps)
theorem MF.ok[ae]{P:Program}{C:Ctx}(lb:P.follows .mixedOrders=true)(hC:bt P C){M:MF}{fn:Func}{t:dx}(ht:fA P t)(hf:P.funcs[f]?=some fn)
  (h:(M.fits fn,fn.results.toList)=(true,M.sl.map RV.var)):aq P f (M.fn C t fn):=by
 have h1:M.fits fn=true:=congrArg Prod.fst h;have h2:fn.results.toList=M.sl.map RV.var:=congrArg Prod.snd h;simp only[MF.fits,Bool.and_eq_true,Bool.not_eq_true',decide_eq_true_eq]at h1;obtain⟨⟨h3,h4⟩,h5⟩:=h1;obtain⟨c,hc⟩:=Option.isSome_iff_exists.1 h4;unfold MF.fn;rw[hc];exact ai7 lb hC ht hf h3 hc rfl h2 h5
open Go.Sort
structure oy {α:Type} (V:α->Prop) (cf:α->α->Int):Prop where
 irrefl:∀x,V x->¬cf x x<0
 trans:∀x y z,V x->V y->V z->cf x y<0->cf y z<0->cf x z<0
 ntrans:∀x y z,V x->V y->V z->¬cf x y<0->¬cf y z<0->¬cf x z<0
 F9:∀x y,V x->V y->¬cf x y<0->¬cf y x<0->x=y
def eO{α:Type}(cf:α->α->Int)(l:List α):List α:=l.mergeSort λx y => !decide (cf y x<0)
theorem pV(cf:α->α->Int)(l:List α):(eO cf l).Perm l:=List.mergeSort_perm _ _
theorem Jo{V:α->Prop}{cf:α->α->Int}(h:oy V cf){l:List α}(hV:∀a∈l,V a):(eO cf l).Pairwise λx y=>¬cf y x<0:=by
 have e:l=(l.attachWith V hV).map (·.1):=by simp
 have e2:eO cf l=((l.attachWith V hV).mergeSort λx y => !decide (cf y.1 x.1<0)).map (·.1):=by
  rw[List.map_mergeSort (s:=λx y => !decide (cf y x<0)) (λ_ _ _ _=>rfl),<-e];rfl
 rw[e2,List.pairwise_map];have:=List.pairwise_mergeSort (le:=λx y:{a // V a} => !decide (cf y.1 x.1<0)) (λa b c h1 h2=>by
   simp only[Bool.not_eq_true',decide_eq_false_iff_not]at h1 h2 ⊢;exact h.ntrans _ _ _ c.2 b.2 a.2 h2 h1) (λa b=>by
   simp only[Bool.or_eq_true,Bool.not_eq_true',decide_eq_false_iff_not];by_cases h1:cf b.1 a.1<0
   ·exact .inr λh2=>h.irrefl _ a.2 (h.trans _ _ _ a.2 b.2 a.2 h2 h1)
   ·exact .inl h1) (l.attachWith V hV)
 exact this.imp (by simp)
theorem WA{V:α->Prop}{cf:α->α->Int}(h:oy V cf){l l':List α}(hV:∀a∈l,V a)(hp:l'.Perm l)(hs:l'.Pairwise λx y=>¬cf y x<0):l'=eO cf l:=by
 refine List.Perm.eq_of_pairwise (le:=λx y=>¬cf y x<0) (λa b ha hb h1 h2=>?_) hs (Jo h hV) (hp.trans (pV cf l).symm);exact h.F9 a b (hV a (hp.mem_iff.1 ha)) (hV b ((pV cf l).mem_iff.1 hb)) h2 h1
theorem aj0[ae]{P:Program}{g:FuncId}{u:Ty}{ez:(cW [(.agg u,.ro),(.agg u,.ro)]).den->Option (Ty.pair (cG [(.int .i64,0)]) (cm [(.agg u,.ro),(.agg u,.ro)])).den}
  (hg:aq P g ⟨[(.agg u,.ro),(.agg u,.ro)],[(.int .i64,0)],ez⟩) {w:World} {x y:u.den} {cx cy:List Value} {c:Int}
  (hx:Rd w (λk=>k<w.heap.size) u x cx) (hy:Rd w (λk=>k<w.heap.size) u y cy) (he:ez (x,(y,()))=some ((c,()),())) (o5:ae.ok w (λk=>if k<w.heap.size then .al else .free)) :
  Calls P g #[.agg cx.toArray,.agg cy.toArray] w (λe w'=>e = .returned (.int .i64 c)/\∃q V3,w'=grow (w.drewN q) V3):=by
 have aX:∀k,k<w.heap.size->(if k<w.heap.size then aj.al else aj.free)=aj.al:=λk hk=>if_pos hk
 refine Calls.mono (hg.2 (x,(y,())) _ he w (λk=>if k<w.heap.size then .al else .free) #[.agg cx.toArray,.agg cy.toArray] ⟨λk hk=>if_neg (by omega),λk k' s q h=>?_,λk s q h=>?_,o5⟩ ?_) ?_
 ·split at h<;>cases h
 ·split at h<;>cases h
 ·exact⟨_,_,cx,rfl,rfl,Own.du (Rd.move (λk hk=>⟨if_pos hk,rfl⟩) hx),_,_,cy,rfl,rfl,Own.du (Rd.move (λk hk=>⟨if_pos hk,rfl⟩) hy),rfl⟩
 ·rintro e w' ⟨cs,L',rfl,hl,hr,_⟩
  have hr:=(jc.low (rs:=[(.int .i64,0)]) rfl).1 hr;simp only[im]at hr;obtain⟨c1,a7,cells,rfl,h1,h2,rfl⟩:=hr;simp only[Own]at h2;subst h2;have hc:=(List.cons.inj h1).1;subst hc;refine⟨rfl,w'.drawn - w.drawn,w'.heap.extract w.heap.size,?_⟩;have hd:=hl.drawn;have hz:=hl.size;have hh:w'.heap=w.heap++w'.heap.extract w.heap.size:=by
   apply Array.ext_getElem?;intro k;rw[Array.getElem?_append];split
   ·rename_i hk;exact (hl.aO k hk (.inl (if_pos hk))).2
   ·rename_i hk;rw[Array.getElem?_extract];split
    ·congr 1;omega
    ·rw[Array.getElem?_eq_none (by omega)]
  have h1:=hl.os;have h2:=hl.tape;have h3:=hl.output;obtain⟨aq6,arx,aq0,V3,arw⟩:=w';simp only at hd hh h1 h2 h3;subst h1 h2 h3;unfold grow World.drewN;simp only[World.mk.injEq,true_and,and_true];exact⟨hh,by omega⟩
open Go.Sort Go.Proofs Go.Shelf Go.RowKit
section
variable{P:Program}{ρ:Ren}
theorem Cq[Inhabited α]{enc:α->List Value}{w:World}{jf off m:Nat}{dk:Array α}{os:Array Obj}{i:Nat}(hi:i<w.heap.size)(hb:i≠jf):
  (sortWorldK enc k w jf off m dk os).heap[i]?=w.heap[i]?:=by
 unfold sortWorldK;rw[heap_grow_old _ _ (by unfold putRowK;rw[size_putRow];exact hi)];unfold putRowK putRow mapBlock;simp only[Array.getElem?_modify,if_neg (Ne.symm hb)];rfl
theorem akt[Inhabited α]{enc:α->List Value}{w:World}{jf off m:Nat}{dk:Array α}{os:Array Obj}{cur:Array Value}{fr:Nat×Nat}(h:w.heap[jf]?=some (.cells cur e fr)):
  (sortWorldK enc k w jf off m dk os).heap[jf]?=some (.cells (Sort.putCells id off (flatK enc k dk) cur) e fr):=by
 have hb:jf<w.heap.size:=by
  rcases Nat.lt_or_ge jf w.heap.size with h1|h1
  ·exact h1
  ·rw[Array.getElem?_eq_none h1]at h;cases h
 unfold sortWorldK;rw[heap_grow_old _ _ (by unfold putRowK;rw[size_putRow];exact hb)];unfold putRowK putRow mapBlock;simp only[Array.getElem?_modify,if_true];rw[show (Sort.ahead w m).heap[jf]?=w.heap[jf]? from rfl,h];rfl
theorem Js[Inhabited α]{enc:α->List Value}{w:World}{jf off m:Nat}{dk:Array α}{os:Array Obj}:(sortWorldK enc k w jf off m dk os).heap.size=w.heap.size+os.size:=by
 unfold sortWorldK;rw[size_grow];unfold putRowK;rw[size_putRow];rfl
theorem aka[Inhabited α]{enc:α->List Value}(hk:∀x,(enc x).length=k){dk:Array α}{cur:Array Value}(hc:dk.size*k<=cur.size){j:Nat}(hj:j<dk.size):
  ((Sort.putCells id 0 (flatK enc k dk) cur).toList.drop (j*k)).take k=enc dk[j]! :=by
 apply List.ext_getElem?;intro i;by_cases hi:i<k
 ·have hb:j*k+i<dk.size*k:=by
   have:=Nat.mul_le_mul_right k (show j+1<=dk.size from hj);rw[Nat.add_mul,Nat.one_mul]at this;omega
  rw[JX hi,Array.getElem?_toList];unfold Sort.putCells;rw[Array.getElem?_mapIdx,Array.getElem?_eq_getElem (show j*k+i<cur.size by omega),Option.map_some,if_pos ⟨Nat.zero_le _,by rw[size_flatK];omega⟩,Nat.sub_zero,get_flatK _ _ _ _ hb];have e1:(j*k+i) / k=j:=(blk_iff k j _ (by omega)).1 ⟨by omega,by omega⟩;have e2:(j*k+i) % k=i:=by rw[Nat.mod_eq_sub_div_mul,e1];omega
  rw[e1,e2,List.getElem?_eq_getElem (by rw[hk];exact hi),List.getElem!_eq_getElem?_getD,List.getElem?_eq_getElem (by rw[hk];exact hi)];rfl
 ·rw[List.getElem?_eq_none (by rw[List.length_take];omega),List.getElem?_eq_none (by rw[hk];omega)]
def fq(u:Ty)(ez:(cW [(.agg u,.ro),(.agg u,.ro)]).den->Option (Ty.pair (cG [(.int .i64,0)]) (cm [(.agg u,.ro),(.agg u,.ro)])).den)(a b:u.den):Int :=
 match ez (a,(b,()))with
 | some r=>r.1.1
 | none=>0
noncomputable def sk(e:TypeId)(u:Ty)(n:Nat)(g:FuncId)(ez:(cW [(.agg u,.ro),(.agg u,.ro)]).den->Option (Ty.pair (cG [(.int .i64,0)]) (cm [(.agg u,.ro),(.agg u,.ro)])).den):
  (cW [(.slice e (.agg u),.mut n),(.raw 1,.ro)]).den->Option (Ty.pair (cG []) (cm [(.slice e (.agg u),.mut n),(.raw 1,.ro)])).den :=
 λx=>open Classical in
  if x.2.1=Value.func (.func g) #[] #[]/\((∀a∈(x.1:List u.den),∀b∈(x.1:List u.den),ez (a,(b,()))=some ((fq u ez a b,()),()))/\oy (λa=>a∈(x.1:List u.den)) (fq u ez))/\(x.1:List u.den).length<4611686018427387904
  then some ((),(eO (fq u ez) (x.1:List u.den),()))else none
theorem ajy{d':Array (Fin n)}(hp:d'.toList.Perm (List.finRange n)):d'.size=n/\(∀j (h:j<d'.size),d'.toList.idxOf d'[j]=j)/\∀e:Fin n,d'.toList.idxOf e<n/\∃h:d'.toList.idxOf e<d'.size,d'[d'.toList.idxOf e]=e:=by
 have hs:d'.size=n:=by have:=hp.length_eq;simpa using this
 have cF:d'.toList.Nodup:=hp.nodup_iff.2 (List.nodup_finRange n);refine⟨hs,λj h=>?_,λe=>?_⟩
 ·have:=cF.idxOf_getElem j (by simpa using h);simpa using this
 ·have hm:e∈d'.toList:=hp.mem_iff.2 (List.mem_finRange e);have:=List.idxOf_lt_length_of_mem hm;refine⟨by simpa[hs]using this,by simpa using this,?_⟩;rw[<-Array.getElem_toList];exact List.getElem_idxOf this
end
open Go.Sort Go.Proofs Go.Shelf Go.RowKit
section
variable{P:Program}{ρ:Ren}
theorem JZ[ae]{w:World}{L0:Nat->aj}{t1 t2:Ty}(h:jb w L0 [(t1,.mut n),(t2,.ro)]){s:Nat}(hk:L0 k = .own s q):∃t m,([(t1,Mode.mut n),(t2,.ro)]:List (Ty×Mode))[s]?=some (t,m)/\m.back=true:=by
 obtain⟨t,m,h1,h2|⟨n',rfl⟩⟩:=h.write hk
 ·exact⟨t,m,h1,h2⟩
 ·match s,h1 with
  | 0,h1=>simp at h1
  | 1,h1=>simp at h1
  | s+2,h1=>simp at h1
def jE(w w':World)(L0:Nat->aj)(sz:Nat)(pos:Nat->Nat):Nat->aj:=λk =>
 if k<w.heap.size then match L0 k with
  | .own 0 (0::o::rest)=>.own 0 (0::(pos (o / sz)*sz+o % sz)::rest)
  | l=>l
 else if k<w'.heap.size then .other else .free
theorem Jq{w w':World}{L0:Nat->aj}{sz:Nat}{pos:Nat->Nat}(hk:k<w.heap.size)(h:∀o rest,L0 k ≠ .own 0 (0::o::rest)):jE w w' L0 sz pos k=L0 k:=by
 unfold jE;rw[if_pos hk];split
 ·rename_i o rest h1;exact absurd h1 (h o rest)
 ·rfl
theorem aks{w w':World}{L0:Nat->aj}{sz:Nat}{pos:Nat->Nat}{o:Nat}{rest:List Nat}(hk:k<w.heap.size)(h:L0 k = .own 0 (0::o::rest)):
  jE w w' L0 sz pos k = .own 0 (0::(pos (o / sz)*sz+o % sz)::rest):=by
 unfold jE;rw[if_pos hk,h];rfl
theorem Jr{w w':World}{L0:Nat->aj}{sz:Nat}{pos:Nat->Nat}{s:Nat}(h:jE w w' L0 sz pos k = .own s q):
  k<w.heap.size/\((∃o rest,s=0/\L0 k = .own 0 (0::o::rest)/\q=0::(pos (o / sz)*sz+o % sz)::rest)\/(L0 k = .own s q/\∀o rest,L0 k ≠ .own 0 (0::o::rest))):=by
 unfold jE at h;split at h
 ·rename_i hk;refine⟨hk,?_⟩;split at h
  ·rename_i o rest h1;injection h with h2 h3;exact .inl ⟨o,rest,h2.symm,h1,h3.symm⟩
  ·rename_i h1;exact .inr ⟨h,λo rest e=>h1 o rest e⟩
 ·split at h<;>cases h
theorem aku[ae](L:SlLaysF0.n6 P ρ){e:TypeId}{u:Ty}{n:Nat}{g:FuncId}(bd:u.sz≠0)(hn:u.depth+1<=n)
  (aE:∀w,(isAgg (ρ.t 24)).run P w = .ok true w) (zE:∀w,(Go.sizeOf (ρ.t 24)).run P w = .ok u.sz w)
  (hf : ∃ fn, P.funcs[ρ.f 6]? = some fn /\ (fn.name == "runtime.NumGoroutine") = false /\ fn.body.isNone = false)
  (eg:∀args w,(callFunc g args).run P w = .ok (.enter g args) w)
  {ez:(cW [(.agg u,.ro),(.agg u,.ro)]).den->Option (Ty.pair (cG [(.int .i64,0)]) (cm [(.agg u,.ro),(.agg u,.ro)])).den}
  (hg:aq P g ⟨[(.agg u,.ro),(.agg u,.ro)],[(.int .i64,0)],ez⟩) :
  aq P (ρ.f 6) ⟨[(.slice e (.agg u),.mut n),(.raw 1,.ro)],[],sk e u n g ez⟩:=by
 refine⟨hf,λx r hr w L0 args hl ha=>?_⟩;obtain⟨xs,fv,un⟩:=x;change List u.den at xs;change sk e u n g ez (xs,fv,un)=some r at hr;unfold sk at hr;dsimp only at hr;split at hr
 case isFalse=>cases hr
 rename_i hc;injection hr with hr;subst hr;obtain⟨hfv,⟨hcf,hO⟩,hlen⟩:=hc;have hV:∀a∈xs,a∈xs:=λ_ h=>h;simp only[dE]at ha;obtain⟨c1,a7,cells,gn,h1,h2,c2,ct,aeW,rfl,h3,h4,rfl⟩:=ha;have dN:cells=[c1]:=h1;have eW:aeW=[c2]:=h3;subst dN eW;simp only[Own]at h4;have Hn:c2=Value.func (.func g) #[] #[]:=by rw[(List.cons.inj h4.1).1];exact hfv
 subst Hn;have SB:args=#[c1,.func (.func g) #[] #[]]:=by rw[<-Array.toArray_toList (xs:=args),gn]
 obtain⟨n',rfl⟩:∃n',n=n'+1:=⟨n - 1,by omega⟩;by_cases a8:xs=[]
 ·subst a8;have dP:∃p cap,c1 = .slice p 0 cap:=by
   simp only[Mode.dep,Own]at h2;rcases h2 with⟨h2,_⟩|⟨g1,cap,cur,h2,_⟩
   ·exact⟨none,0,(List.cons.inj h2).1⟩
   ·exact⟨_,cap,(List.cons.inj h2).1⟩
  obtain⟨p,cap,rfl⟩:=dP;rw[SB];refine Calls.mono (AnyF.slices_SortFunc_none L p cap _ w) ?_
  rintro e1 w' ⟨rfl,rfl⟩
  refine⟨[],L0,rfl,⟨rfl,rfl,rfl,Nat.le_refl _,Nat.le_refl _,λ_ _ _=>⟨rfl,rfl⟩,hl.free,hl.inj,λk s q h=>.inr ?_⟩,rfl,?_⟩
  ·exact JZ hl h
  ·refine⟨_,_,_,rfl,rfl,?_,_,_,rfl,rfl⟩;have e0:eO (fq u ez) ([]:List u.den)=[]:=List.Perm.eq_nil (pV (fq u ez) []);have key:∀ys:List u.den,ys=[]->Own w' L0 (λk=>L0 k = .al) 0 (n'+1) (.slice e (.agg u)) ys [] 0 [.slice p 0 cap]:=λys h=>by subst h;exact h2
   exact key _ e0
 ·simp only[Mode.dep,Own]at h2;rcases h2 with⟨_,h2⟩|⟨g1,cap,cur,hc,fX,Hr,Bk,Th,nL,ma⟩
  ·exact absurd h2 a8
  have dN:=(List.cons.inj hc).1;subst dN;rw[SB];have au:∀{k},L0 k ≠ .free->k<w.heap.size:=λ{k} h=>Nat.lt_of_not_le λhk=>h (hl.free k hk);have o7:g1<w.heap.size:=au (by rw[fX];simp)
  haveI:Inhabited (Fin xs.length):=⟨⟨0,List.length_pos_iff.2 a8⟩⟩
  let enc:Fin xs.length->List Value:=λj=>(cur.toList.drop (j.1*u.sz)).take u.sz;have Bn:∀j:Fin xs.length,Own w L0 (λk=>L0 k = .al) 0 n' (.agg u) xs[j] [0] (j.1*u.sz) (enc j):=λj=>ma j.1 j.2;have hk:∀j,(enc j).length=u.sz:=λj=>(Bn j).len;have dH:∀j,∀v∈enc j,v.oneCell'=true:=λj=>(Bn j).one;let d:Array (Fin xs.length):=Array.ofFn (λj=>j);have gN:d.size=xs.length:=by simp[d]
  have hdj:∀j (h:j<xs.length),d[j]! = ⟨j,h⟩:=λj h=>by
   rw[getElem!_pos d j (by rw[gN];exact h)];simp[d]
  have Ho:xs.length*u.sz<=cur.size:=by rw[nL];exact Nat.mul_le_mul_right _ Bk
  have hH:HoldsK enc u.sz w g1 0 d:=by
   intro t ht;rw[size_flatK,gN]at ht;have hj:t / u.sz<xs.length:=(Nat.div_lt_iff_lt_mul (by omega)).2 ht;have hm:t % u.sz<u.sz:=Nat.mod_lt _ (by omega);have e2:t / u.sz*u.sz+t % u.sz=t:=by rw[Nat.mul_comm];exact Nat.div_add_mod t u.sz
   rw[get_flatK _ _ _ _ (by rw[gN];exact ht),hdj _ hj];refine⟨?_,?_⟩
   ·have h6:(enc ⟨t / u.sz,hj⟩)[t % u.sz]?=cur[t]?:=by
     show ((cur.toList.drop (t / u.sz*u.sz)).take u.sz)[t % u.sz]?=_;rw[JX hm,e2,Array.getElem?_toList]
    have h7:t<cur.size:=by omega
    simp only[World.cell?,Hr,Nat.zero_add,Option.isSome_none,Bool.false_eq_true,if_false,id];rw[List.getElem!_eq_getElem?_getD,h6,Array.getElem?_eq_getElem h7];rfl
   ·simp[World.frozen?,Hr]
  have br:∀j:Fin xs.length,Rd w (λk=>k<w.heap.size/\k≠g1) u xs[j] (enc j):=λj=>by
   have:=Own.eL (w':=w) (L':=L0) (S':=λk=>k<w.heap.size/\k≠g1) (s':=0) (q2:=[0]) (o2:=0) (Nat.zero_le _) (λk hk=>⟨⟨au (by rw[hk];simp),λh=>by rw[h,fX]at hk;cases hk⟩,rfl⟩)
    (λk dd rest _ hk=>⟨rfl,λh=>absurd h (by omega),λ_=>⟨au (by rw[hk];simp),λh=>by rw[h,fX]at hk;simp at hk⟩⟩) (Bn j)
   exact Own.ee (t:=.agg u) this
  have afL:CmpLays P g #[] enc u.sz (λx y=>fq u ez xs[x] xs[y]) g1 0 d.size w:=by
   intro m os dk SU x y;have hm:∀k,(k<w.heap.size/\k≠g1)->k<(sortWorldK enc u.sz w g1 0 m dk os).heap.size/\(sortWorldK enc u.sz w g1 0 m dk os).heap[k]?=w.heap[k]?:=λk hk =>
    ⟨by rw[Js];omega,Cq hk.1 hk.2⟩
   have:=aj0 hg (Rd.move hm (br x)) (Rd.move hm (br y)) (hcf _ (List.getElem_mem _) _ (List.getElem_mem _))
    (ae.aO hl.gm λk hk h0=>by
     have a8:k≠g1:=λh=>by rw[h,fX]at h0;rcases h0 with h0|h0<;>cases h0
     have:=hm k ⟨hk,a8⟩;exact⟨.inl (if_pos this.1),this.2⟩)
   simpa using this
  have HB:SWO (ltOf λx y:Fin xs.length=>fq u ez xs[x] xs[y]):=by
   have hv:∀j:Fin xs.length,xs[j]∈xs:=λj=>hV _ (List.getElem_mem _);refine⟨λx=>?_,λx y z h1 h2=>?_,λx y z h1 h2=>?_⟩
   ·simp only[ltOf,decide_eq_false_iff_not];exact hO.irrefl _ (hv x)
   ·simp only[ltOf,decide_eq_true_eq]at h1 h2 ⊢;exact hO.trans _ _ _ (hv x) (hv y) (hv z) h1 h2
   ·simp only[ltOf,decide_eq_false_iff_not]at h1 h2 ⊢;exact hO.ntrans _ _ _ (hv x) (hv y) (hv z) h1 h2
  have main:=AnyQ.slices_SortFunc L u.sz aE zE enc hk dH _ HB g #[] g1 0 cap d w eg afL hH o7 (by rw[gN];exact hlen);rw[gN]at main;refine Calls.mono main ?_
  rintro e1 w' ⟨rfl,d',m,os,hp,hs,rfl⟩
  obtain⟨hp1,_,Bz⟩:=hp;have SR:d'.size=xs.length:=hp1.trans gN;have Tv:d'.toList.Perm (List.finRange xs.length):=by
   have ea:d'.extract 0 xs.length=d':=Array.extract_eq_self_of_le (by omega);have eb:d.extract 0 xs.length=d:=Array.extract_eq_self_of_le (by omega);rw[ea,eb]at Bz;have ec:d.toList=List.finRange xs.length:=by simp[d,List.finRange]
   rw[<-ec];exact Bz
  obtain⟨_,agJ,HG⟩:=ajy Tv;have pv:d'.toList.map (λj=>xs[j])=eO (fq u ez) xs:=by
   refine WA hO hV ?_ ?_
   ·have:=Tv.map (λj:Fin xs.length=>xs[j]);refine this.trans (List.Perm.of_eq ?_);apply List.ext_getElem
    ·simp
    ·intro i h1 h2;simp
   ·rw[List.pairwise_map,List.pairwise_iff_getElem];intro i j hi hj me;have rE:i<d'.size:=by simpa using hi
    have hj':j<d'.size:=by simpa using hj
    have:=hs i j (Nat.zero_le _) me (by omega);rw[getElem!_pos d' j hj',getElem!_pos d' i rE]at this;simpa[ltOf]using this
  let pos:Nat->Nat:=λe=>if h:e<xs.length then d'.toList.idxOf ⟨e,h⟩else e
  have ajC:∀j (h:j<d'.size),pos d'[j].1=j:=λj h=>by
   show (if h:_ then _ else _)=j
   rw[dif_pos d'[j].2];exact agJ j h
  have ajB:∀a b,pos a=pos b->a=b:=λa b iB=>by
   have iB:(if h:a<xs.length then d'.toList.idxOf ⟨a,h⟩else a)=(if h:b<xs.length then d'.toList.idxOf ⟨b,h⟩else b):=iB
   by_cases ha:a<xs.length
   ·obtain⟨a1,a2,a3⟩:=HG ⟨a,ha⟩;by_cases hb:b<xs.length
    ·obtain⟨b1,b2,b3⟩:=HG ⟨b,hb⟩;rw[dif_pos ha,dif_pos hb]at iB;have:(⟨a,ha⟩:Fin xs.length)=⟨b,hb⟩:=by rw[<-a3,<-b3];congr 1
     exact congrArg (·.1) this
    ·rw[dif_pos ha,dif_neg hb]at iB;omega
   ·by_cases hb:b<xs.length
    ·obtain⟨b1,b2,b3⟩:=HG ⟨b,hb⟩;rw[dif_neg ha,dif_pos hb]at iB;omega
    ·rw[dif_neg ha,dif_neg hb]at iB;exact iB
  have lb:∀o o',pos (o / u.sz)*u.sz+o % u.sz=pos (o' / u.sz)*u.sz+o' % u.sz->o=o':=λo o' h=>by
   have m1:=Nat.mod_lt o (show u.sz>0 by omega);have m2:=Nat.mod_lt o' (show u.sz>0 by omega);have e1:(pos (o / u.sz)*u.sz+o % u.sz) / u.sz=pos (o / u.sz):=by
    rw[Nat.mul_comm,Nat.mul_add_div (by omega),Nat.div_eq_of_lt m1,Nat.add_zero]
   have e2:(pos (o' / u.sz)*u.sz+o' % u.sz) / u.sz=pos (o' / u.sz):=by
    rw[Nat.mul_comm,Nat.mul_add_div (by omega),Nat.div_eq_of_lt m2,Nat.add_zero]
   have e3:=ajB _ _ (e1.symm.trans ((congrArg (· / u.sz) h).trans e2));rw[e3]at h;have h':o % u.sz=o' % u.sz:=by omega
   rw[<-Nat.div_add_mod o u.sz,<-Nat.div_add_mod o' u.sz,e3,h']
  refine⟨[],jE w (sortWorldK enc u.sz w g1 0 m d' os) L0 u.sz pos,rfl,⟨rfl,rfl,rfl,?_,?_,λk hk h0=>?_,λk hk=>?_,λk k' s q e e'=>?_,λk s q h=>.inr ?_⟩,rfl,?_⟩
  ·rw[Js];omega
  ·show w.drawn<=w.drawn+m;omega
  ·refine⟨Jq hk (λo rest h=>?_),Cq hk (λh=>?_)⟩
   ·rcases h0 with h0|h0<;>rw[h0]at h<;>cases h
   ·rw[h,fX]at h0;rcases h0 with h0|h0<;>cases h0
  ·have hz:=hk;rw[Js]at hz;unfold jE;rw[if_neg (by omega),if_neg (by omega)]
  ·obtain⟨_,h1⟩:=Jr e;obtain⟨_,h2⟩:=Jr e';rcases h1 with⟨o,rest,rfl,h3,rfl⟩|⟨h3,h4⟩
   ·rcases h2 with⟨o',e9,_,h5,h6⟩|⟨h5,h6⟩
    ·simp only[List.cons.injEq,true_and]at h6;obtain⟨h7,rfl⟩:=h6;rw[lb _ _ h7]at h3;exact hl.inj _ _ _ _ h3 h5
    ·exact absurd h5 (h6 _ _)
   ·rcases h2 with⟨o',e9,rfl,h5,rfl⟩|⟨h5,h6⟩
    ·exact absurd h3 (h4 _ _)
    ·exact hl.inj _ _ _ _ h3 h5
  ·obtain⟨_,h1⟩:=Jr h;rcases h1 with⟨o,rest,rfl,h3,rfl⟩|⟨h3,_⟩
   ·exact JZ hl h3
   ·exact JZ hl h3
  ·refine⟨_,_,[_],rfl,rfl,?_,_,_,rfl,rfl⟩;simp only[Own];have Hx:(eO (fq u ez) xs).length=xs.length:=(pV (fq u ez) xs).length_eq;refine .inr ⟨g1,cap,_,by rw[Hx],?_,akt Hr,by rw[Hx];exact Bk,Th,by simp[Sort.putCells,nL],λj hj=>?_⟩
   ·rw[Jq o7 (λo rest h=>by rw[fX]at h;simp at h)];exact fX
   ·have hjn:j<xs.length:=by rw[<-Hx];exact hj
    have jU:j<d'.size:=by rw[SR];exact hjn
    have he:(eO (fq u ez) xs)[j]=xs[d'[j]]:=by
     rw[List.getElem_of_eq pv.symm hj,List.getElem_map,Array.getElem_toList]
    have hw:=aka (enc:=enc) hk (dk:=d') (cur:=cur) (by rw[SR];exact Ho) jU;rw[getElem!_pos d' j jU]at hw;have hmv:=Own.move (w':=sortWorldK enc u.sz w g1 0 m d' os) (L':=jE w (sortWorldK enc u.sz w g1 0 m d' os) L0 u.sz pos) (S':=λk=>jE w (sortWorldK enc u.sz w g1 0 m d' os) L0 u.sz pos k = .al) (s':=0) (q2:=[0]) (o2:=j*u.sz)
     (λk hk=>by
      have hk:L0 k = .al:=hk;have jl:k<w.heap.size:=au (by rw[hk];simp);exact⟨by rw[Jq jl (λo rest h=>by rw[hk]at h;cases h)];exact hk,Cq jl (λh=>by rw[h,fX]at hk;cases hk)⟩)
     (λk dd rest hd hk=>by
      have jl:k<w.heap.size:=au (by rw[hk];simp);refine⟨?_,Cq jl (λh=>by rw[h,fX]at hk;simp at hk)⟩;have gM:dd<u.sz:=hd;rw[aks jl hk];have e1:(d'[j].1*u.sz+dd) / u.sz=d'[j].1:=by rw[Nat.mul_comm,Nat.mul_add_div (by omega),Nat.div_eq_of_lt gM,Nat.add_zero]
      have e2:(d'[j].1*u.sz+dd) % u.sz=dd:=by rw[Nat.mul_comm,Nat.mul_add_mod,Nat.mod_eq_of_lt gM]
      rw[e1,e2,ajC j jU];rfl) (Bn d'[j])
    have af7:Own (sortWorldK enc u.sz w g1 0 m d' os) (jE w (sortWorldK enc u.sz w g1 0 m d' os) L0 u.sz pos) (λk=>jE w (sortWorldK enc u.sz w g1 0 m d' os) L0 u.sz pos k = .al) 0 n' (.agg u) (eO (fq u ez) xs)[j] [0] (j*u.sz) (((Sort.putCells id 0 (flatK enc u.sz d') cur).toList.drop (j*u.sz)).take u.sz):=by
     rw[he,hw];exact hmv
    exact af7
end
end Go.Proofs.YtbhogmdpmkpinaaGreat.P.Am
