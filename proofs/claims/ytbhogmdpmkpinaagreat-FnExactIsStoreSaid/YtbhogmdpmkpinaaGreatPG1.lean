/- A part of the proof: Am1,Am2,Am3,Am4,Am5,Am6,Am7. No conditions. -/
import Derived.Laws.OwnMore
import Derived.Calls
import Derived.Below
import Derived.Laws.Cells
import Derived.ChangeKeysEq
set_option linter.unusedVariables false
set_option linter.unusedSimpArgs false
namespace Go.Proofs.YtbhogmdpmkpinaaGreat.P.Am
variable{d n o o':Nat}{X:TypeId}{log q q':List Nat}{cs:List Value}{l:Option Nat}{x:Operand}{c:Value}{α:Type}{cur cur':Array Value}{k:IntKind}
inductive Ty where
 | int (k:IntKind)
 | bool
 | str
 | raw (z:Nat)
 | unit
 | pair (a b:Ty)
 | agg (t:Ty)
 | slice (e:TypeId) (t:Ty)
 | cap (k:Option FuncId) (t:Ty)
 deriving DecidableEq,Inhabited
@[reducible] def Ty.den:Ty->Type
 | .int _=>Int
 | .bool=>Bool
 | .str=>ByteArray
 | .raw _=>Value
 | .unit=>Unit
 | .pair a b=>a.den×b.den
 | .agg t=>t.den
 | .slice _ t=>List t.den
 | .cap _ t=>Option t.den
def Ty.sz:Ty->Nat
 | .unit=>0
 | .pair a b=>a.sz+b.sz
 | .agg t=>t.sz
 | _=>1
def xI:Nat->Value
 | 0=>.pointer none
 | 1=>.nilFunc
 | _=>.nilIface
def Ty.zero:(t:Ty)->t.den
 | .int _=>(0:Int)
 | .bool=>false
 | .str=>ByteArray.empty
 | .raw z=>xI z
 | .unit=>()
 | .pair a b=>(a.zero,b.zero)
 | .agg t=>t.zero
 | .slice _ t=>[]
 | .cap _ _=>none
def Ty.depth:Ty->Nat
 | .pair a b=>max a.depth b.depth
 | .agg t=>t.depth
 | .slice _ t=>t.depth+1
 | .cap _ _=>1
 | _=>0
def Value.mJ:Value->Bool
 | .pointer none | .nilFunc | .nilIface | .func .. =>true
 | _=>false
theorem apW{v:Value}(h:Value.mJ v=true):v.oneCell'=true:=by
 cases v<;>simp_all [Value.mJ,Value.oneCell']
def kE:FuncId:=1000007
def sC:Option FuncId->Value
 | none=>.pointer none
 | some f=>cond (f==kE) (.slice none 0 0) .nilFunc
def rm(w:World)(S:Nat->Prop):Option FuncId->List Value->List Value->Prop
 | none,cs,es=>∃g o,cs=[.pointer (some ⟨g,o,none⟩)]/\S g/\∀i v,es[i]?=some v->w.cell? ⟨g,o+i,none⟩=some v
 | some f,cs,es=>(f==kE)=false/\cs=[.func (.func f) #[] es.toArray]
theorem We(k:Option FuncId):(sC k).oneCell'=true:=by
 cases k with
 | none=>rfl
 | some f=>show (cond (f==kE) _ _:Value).oneCell'=true;cases f==kE<;>rfl
theorem rm.one{w:World}{S:Nat->Prop}{k:Option FuncId}{es:List Value}(h:rm w S k cs es):∃v,cs=[v]/\v.oneCell'=true:=by
 cases k with
 | none=>obtain⟨g,o,rfl,_⟩:=h;exact⟨_,rfl,rfl⟩
 | some f=>exact⟨_,h.2,rfl⟩
theorem rm.move{w w':World}{S S':Nat->Prop}{k:Option FuncId}{es:List Value}(H:∀k,S k->S' k/\w'.heap[k]?=w.heap[k]?)(h:rm w S k cs es):rm w' S' k cs es:=by
 cases k with
 | none =>
  obtain⟨g,o,h1,h2,h3⟩:=h;refine⟨g,o,h1,(H g h2).1,λi v hv=>?_⟩;rw[World.cell?_of_block (w:=w) ((H g h2).2)];exact h3 i v hv
 | some f=>exact h
def Rd(w:World)(S:Nat->Prop):(t:Ty)->t.den->List Value->Prop
 | .int k,x,cs=>cs=[.int k x]
 | .bool,x,cs=>cs=[.bool x]
 | .str,x,cs=>cs=[.string x]
 | .raw _,x,cs=>cs=[x]/\Value.mJ x=true
 | .unit,_,cs=>cs=[]
 | .pair a b,x,cs=>∃c0 c1,cs=c0++c1/\Rd w S a x.1 c0/\Rd w S b x.2 c1
 | .agg t,x,cs=>Rd w S t x cs
 | .slice _ t,xs,cs=>∃A c,cs=[.slice A (xs:List t.den).length c]/\xs.length<=c/\(A=none->xs=[]/\c=0) /\
   (xs≠[]->∃g o,A=some ⟨g,o,none⟩/\S g/\∀j (h:j<xs.length),∃es,Rd w S t (xs[j]) es/\∀i v,es[i]?=some v->w.cell? ⟨g,o+(j*t.sz+i),none⟩=some v)
 | .cap k t,x,cs=>(x=none/\cs=[sC k])\/∃(y:t.den) (es:List Value),x=some y/\Rd w S t y es/\rm w S k cs es
inductive aj where
 | au
 | free
 | other
 | own (s:Nat) (q:List Nat)
def Own(w:World)(L:Nat->aj)(S:Nat->Prop)(s:Nat):Nat->(t:Ty)->t.den->List Nat->Nat->List Value->Prop
 | _,.int k,x,_,_,cs=>cs=[.int k x]
 | _,.bool,x,_,_,cs=>cs=[.bool x]
 | _,.str,x,_,_,cs=>cs=[.string x]
 | _,.raw _,x,_,_,cs=>cs=[x]/\Value.mJ x=true
 | _,.unit,_,_,_,cs=>cs=[]
 | n,.pair a b,x,q,o,cs=>∃c0 c1,cs=c0++c1/\Own w L S s n a x.1 q o c0/\Own w L S s n b x.2 q (o+a.sz) c1
 | n,.agg t,x,q,o,cs=>Own w L S s n t x q o cs
 | 0,.slice e t,xs,_,_,cs=>Rd w S (.slice e t) xs cs
 | n+1,.slice e t,xs,q,o,cs=>(cs=[.slice none 0 0]/\xs=[]) \/
   ∃g cap cur,cs=[.slice (some ⟨g,0,none⟩) (xs:List t.den).length cap]/\L g = .own s (q++[o])/\w.heap[g]?=some (.cells cur e (0,0)) /\
    xs.length<=cap/\cap<=maxLen/\cur.size=cap*t.sz /\
    ∀j (h:j<xs.length),Own w L S s n t (xs[j]) (q++[o]) (j*t.sz) ((cur.toList.drop (j*t.sz)).take t.sz)
 | 0,.cap k t,x,_,_,cs=>Rd w S (.cap k t) x cs
 | _+1,.cap k t,x,_,_,cs=>x=none/\cs=[sC k]
section
variable{w w':World}{S S':Nat->Prop}{L L':Nat->aj}{s s':Nat}
theorem Rd.len:{t:Ty}->{x:t.den}->{cs:List Value}->Rd w S t x cs->cs.length=t.sz
 | .int _,_,_,h=>by simp only[Rd]at h;subst h;rfl
 | .bool,_,_,h=>by simp only[Rd]at h;subst h;rfl
 | .str,_,_,h=>by simp only[Rd]at h;subst h;rfl
 | .raw _,_,_,h=>by simp only[Rd]at h;rw[h.1];rfl
 | .unit,_,_,h=>by simp only[Rd]at h;subst h;rfl
 | .pair a b,_,_,h=>by
  simp only[Rd]at h;obtain⟨c0,c1,rfl,h0,h1⟩:=h;simp[Ty.sz,Rd.len h0,Rd.len h1]
 | .agg t,_,_,h=>by simp only[Rd]at h;exact Rd.len (t:=t) h
 | .slice _ _,_,_,h=>by
  simp only[Rd]at h;obtain⟨A,c,rfl,_⟩:=h;rfl
 | .cap _ _,_,_,h=>by
  simp only[Rd]at h;rcases h with⟨_,rfl⟩|⟨y,es,_,_,h⟩
  ·rfl
  ·obtain⟨v,rfl,_⟩:=h.one;rfl
theorem Own.len:{n:Nat}->{t:Ty}->{x:t.den}->{q:List Nat}->{o:Nat}->{cs:List Value}->Own w L S s n t x q o cs->cs.length=t.sz
 | _,.int _,_,_,_,_,h=>by simp only[Own]at h;subst h;rfl
 | _,.bool,_,_,_,_,h=>by simp only[Own]at h;subst h;rfl
 | _,.str,_,_,_,_,h=>by simp only[Own]at h;subst h;rfl
 | _,.raw _,_,_,_,_,h=>by simp only[Own]at h;rw[h.1];rfl
 | _,.unit,_,_,_,_,h=>by simp only[Own]at h;subst h;rfl
 | _,.pair a b,_,_,_,_,h=>by
  simp only[Own]at h;obtain⟨c0,c1,rfl,h0,h1⟩:=h;simp[Ty.sz,Own.len h0,Own.len h1]
 | _,.agg t,_,_,_,_,h=>by simp only[Own]at h;exact Own.len (t:=t) h
 | 0,.slice _ _,_,_,_,_,h=>by simp only[Own]at h;exact Rd.len h
 | n+1,.slice _ _,_,_,_,_,h=>by
  simp only[Own]at h;rcases h with⟨rfl,_⟩|⟨g,cap,cur,rfl,_⟩<;>rfl
 | 0,.cap _ _,_,_,_,_,h=>by simp only[Own]at h;exact Rd.len h
 | _+1,.cap _ _,_,_,_,_,h=>by simp only[Own]at h;rw[h.2];rfl
theorem Rd.one:{t:Ty}->{x:t.den}->{cs:List Value}->Rd w S t x cs->∀v∈cs,v.oneCell'=true
 | .int _,_,_,h=>by simp only[Rd]at h;subst h;simp[Value.oneCell']
 | .bool,_,_,h=>by simp only[Rd]at h;subst h;simp[Value.oneCell']
 | .str,_,_,h=>by simp only[Rd]at h;subst h;simp[Value.oneCell']
 | .raw _,_,_,h=>by
  simp only[Rd]at h;obtain⟨rfl,h⟩:=h;intro v hv;rw[List.mem_singleton.1 hv];exact apW h
 | .unit,_,_,h=>by simp only[Rd]at h;subst h;simp
 | .pair a b,_,_,h=>by
  simp only[Rd]at h;obtain⟨c0,c1,rfl,h0,h1⟩:=h;intro v hv;rcases List.mem_append.1 hv with hv|hv
  ·exact Rd.one h0 v hv
  ·exact Rd.one h1 v hv
 | .agg t,_,_,h=>by simp only[Rd]at h;exact Rd.one (t:=t) h
 | .slice _ _,_,_,h=>by
  simp only[Rd]at h;obtain⟨A,c,rfl,_⟩:=h;simp[Value.oneCell']
 | .cap k _,_,_,h=>by
  simp only[Rd]at h;rcases h with⟨_,rfl⟩|⟨y,es,_,_,h⟩
  ·intro v hv;rw[List.mem_singleton.1 hv];exact We k
  ·obtain⟨u,rfl,hu⟩:=h.one;intro v hv;rw[List.mem_singleton.1 hv];exact hu
theorem Own.one:{n:Nat}->{t:Ty}->{x:t.den}->{q:List Nat}->{o:Nat}->{cs:List Value}->Own w L S s n t x q o cs->∀v∈cs,v.oneCell'=true
 | _,.int _,_,_,_,_,h=>by simp only[Own]at h;subst h;simp[Value.oneCell']
 | _,.bool,_,_,_,_,h=>by simp only[Own]at h;subst h;simp[Value.oneCell']
 | _,.str,_,_,_,_,h=>by simp only[Own]at h;subst h;simp[Value.oneCell']
 | _,.raw _,_,_,_,_,h=>by
  simp only[Own]at h;exact Rd.one (w:=w) (S:=S) (t:=.raw 0) h
 | _,.unit,_,_,_,_,h=>by simp only[Own]at h;subst h;simp
 | _,.pair a b,_,_,_,_,h=>by
  simp only[Own]at h;obtain⟨c0,c1,rfl,h0,h1⟩:=h;intro v hv;rcases List.mem_append.1 hv with hv|hv
  ·exact Own.one h0 v hv
  ·exact Own.one h1 v hv
 | _,.agg t,_,_,_,_,h=>by simp only[Own]at h;exact Own.one (t:=t) h
 | 0,.slice _ _,_,_,_,_,h=>by simp only[Own]at h;exact Rd.one h
 | n+1,.slice _ _,_,_,_,_,h=>by
  simp only[Own]at h;rcases h with⟨rfl,_⟩|⟨g,cap,cur,rfl,_⟩<;>simp[Value.oneCell']
 | 0,.cap _ _,_,_,_,_,h=>by simp only[Own]at h;exact Rd.one h
 | _+1,.cap k _,_,_,_,_,h=>by
  simp only[Own]at h;intro v hv;rw[h.2]at hv;rw[List.mem_singleton.1 hv];exact We k
theorem Rd.move:{t:Ty}->{x:t.den}->{cs:List Value}->(∀k,S k->S' k/\w'.heap[k]?=w.heap[k]?)->Rd w S t x cs->Rd w' S' t x cs
 | .int _,_,_,_,h=>h
 | .bool,_,_,_,h=>h
 | .str,_,_,_,h=>h
 | .raw _,_,_,_,h=>h
 | .unit,_,_,_,h=>h
 | .pair a b,_,_,H,h=>by
  simp only[Rd]at h ⊢;obtain⟨c0,c1,rfl,h0,h1⟩:=h;exact⟨c0,c1,rfl,Rd.move H h0,Rd.move H h1⟩
 | .agg t,_,_,H,h=>by simp only[Rd]at h ⊢;exact Rd.move (t:=t) H h
 | .slice _ _,_,_,H,h=>by
  simp only[Rd]at h ⊢;obtain⟨A,c,rfl,h1,h2,h3⟩:=h;refine⟨A,c,rfl,h1,h2,λhx=>?_⟩;obtain⟨g,o,hA,hS,h⟩:=h3 hx;refine⟨g,o,hA,(H g hS).1,λj hj=>?_⟩;obtain⟨es,he,hc⟩:=h j hj;refine⟨es,Rd.move H he,λi v hv=>?_⟩;rw[World.cell?_of_block (w:=w) ((H g hS).2)];exact hc i v hv
 | .cap _ _,_,_,H,h=>by
  simp only[Rd]at h ⊢;rcases h with h|⟨y,es,h1,h2,h3⟩
  ·exact .inl h
  ·exact .inr ⟨y,es,h1,Rd.move H h2,h3.move H⟩
theorem Own.move:{n:Nat}->{t:Ty}->{x:t.den}->{q q2:List Nat}->{o o2:Nat}->{cs:List Value} ->
  (∀k,S k->S' k/\w'.heap[k]?=w.heap[k]?) ->
  (∀k d rest,d<t.sz->L k = .own s (q++(o+d)::rest)->L' k = .own s' (q2++(o2+d)::rest)/\w'.heap[k]?=w.heap[k]?) ->
  Own w L S s n t x q o cs->Own w' L' S' s' n t x q2 o2 cs
 | _,.int _,_,_,_,_,_,_,_,_,h=>by simpa only[Own]using h
 | _,.bool,_,_,_,_,_,_,_,_,h=>by simpa only[Own]using h
 | _,.str,_,_,_,_,_,_,_,_,h=>by simpa only[Own]using h
 | _,.raw _,_,_,_,_,_,_,_,_,h=>by simpa only[Own]using h
 | _,.unit,_,_,_,_,_,_,_,_,h=>by simpa only[Own]using h
 | _,.pair a b,_,q,q2,o,o2,_,H,H2,h=>by
  simp only[Own]at h ⊢;obtain⟨c0,c1,rfl,h0,h1⟩:=h;refine⟨c0,c1,rfl,Own.move H (λk d rest hd=>H2 k d rest (by simp only[Ty.sz];omega)) h0,Own.move H (λk d rest hd hk=>?_) h1⟩;have:=H2 k (a.sz+d) rest (by simp only[Ty.sz];omega) (by rw[hk,Nat.add_assoc])
  rwa [<-Nat.add_assoc]at this
 | _,.agg t,_,_,_,_,_,_,H,H2,h=>by simp only[Own]at h ⊢;exact Own.move (t:=t) H H2 h
 | 0,.slice _ _,_,_,_,_,_,_,H,_,h=>by simp only[Own]at h ⊢;exact Rd.move H h
 | n+1,.slice e t,xs,q,q2,o,o2,_,H,H2,h=>by
  simp only[Own]at h ⊢;rcases h with h|⟨g,cap,cur,rfl,hL,hg,h1,h2,h3,h4⟩
  ·exact .inl h
  ·have hh:=H2 g 0 [] (by simp[Ty.sz]) (by simpa using hL);refine .inr ⟨g,cap,cur,rfl,by simpa using hh.1,by rw[hh.2];exact hg,h1,h2,h3,λj hj=>?_⟩;refine Own.move H (λk d rest hd hk=>?_) (h4 j hj);have:=H2 k 0 ((j*t.sz+d)::rest) (by simp[Ty.sz]) (by rw[hk];simp);simpa using this
 | 0,.cap _ _,_,_,_,_,_,_,H,_,h=>by simp only[Own]at h ⊢;exact Rd.move H h
 | _+1,.cap _ _,_,_,_,_,_,_,_,_,h=>by simpa only[Own]using h
theorem Own.eQ:{t:Ty}->{x:t.den}->{q:List Nat}->{o:Nat}->{cs:List Value}->Own w L S s 0 t x q o cs->Rd w S t x cs
 | .int _,_,_,_,_,h=>by simpa only[Own,Rd]using h
 | .bool,_,_,_,_,h=>by simpa only[Own,Rd]using h
 | .str,_,_,_,_,h=>by simpa only[Own,Rd]using h
 | .raw _,_,_,_,_,h=>by simpa only[Own,Rd]using h
 | .unit,_,_,_,_,h=>by simpa only[Own,Rd]using h
 | .pair a b,_,_,_,_,h=>by
  simp only[Own,Rd]at h ⊢;obtain⟨c0,c1,rfl,h0,h1⟩:=h;exact⟨c0,c1,rfl,Own.eQ h0,Own.eQ h1⟩
 | .agg t,_,_,_,_,h=>by simp only[Own,Rd]at h ⊢;exact Own.eQ (t:=t) h
 | .slice _ _,_,_,_,_,h=>by simpa only[Own]using h
 | .cap _ _,_,_,_,_,h=>by simpa only[Own]using h
theorem Own.dP:{t:Ty}->{x:t.den}->{q:List Nat}->{o:Nat}->{cs:List Value}->Rd w S t x cs->Own w L S s 0 t x q o cs
 | .int _,_,_,_,_,h=>by simpa only[Own,Rd]using h
 | .bool,_,_,_,_,h=>by simpa only[Own,Rd]using h
 | .str,_,_,_,_,h=>by simpa only[Own,Rd]using h
 | .raw _,_,_,_,_,h=>by simpa only[Own,Rd]using h
 | .unit,_,_,_,_,h=>by simpa only[Own,Rd]using h
 | .pair a b,_,_,_,_,h=>by
  simp only[Own,Rd]at h ⊢;obtain⟨c0,c1,rfl,h0,h1⟩:=h;exact⟨c0,c1,rfl,Own.dP h0,Own.dP h1⟩
 | .agg t,_,_,_,_,h=>by simp only[Own,Rd]at h ⊢;exact Own.dP (t:=t) h
 | .slice _ _,_,_,_,_,h=>by simpa only[Own]using h
 | .cap _ _,_,_,_,_,h=>by simpa only[Own]using h
theorem Own.flat:{t:Ty}->{x:t.den}->{n n':Nat}->{q q':List Nat}->{o o':Nat}->{cs:List Value}->t.depth=0->Own w L S s n t x q o cs->Own w' L' S' s' n' t x q' o' cs
 | .int _,_,_,_,_,_,_,_,_,_,h=>by simpa only[Own]using h
 | .bool,_,_,_,_,_,_,_,_,_,h=>by simpa only[Own]using h
 | .str,_,_,_,_,_,_,_,_,_,h=>by simpa only[Own]using h
 | .raw _,_,_,_,_,_,_,_,_,_,h=>by simpa only[Own]using h
 | .unit,_,_,_,_,_,_,_,_,_,h=>by simpa only[Own]using h
 | .pair a b,_,_,_,_,_,_,_,_,hd,h=>by
  simp only[Own,Ty.depth]at h hd ⊢;obtain⟨c0,c1,rfl,h0,h1⟩:=h;exact⟨c0,c1,rfl,Own.flat (by omega) h0,Own.flat (by omega) h1⟩
 | .agg t,_,_,_,_,_,_,_,_,hd,h=>by simp only[Own,Ty.depth]at h hd ⊢;exact Own.flat (t:=t) hd h
 | .slice _ _,_,_,_,_,_,_,_,_,hd,h=>by simp[Ty.depth]at hd
 | .cap _ _,_,_,_,_,_,_,_,_,hd,h=>by simp[Ty.depth]at hd
theorem Own.cap:{n m:Nat}->{t:Ty}->{x:t.den}->{q:List Nat}->{o:Nat}->{cs:List Value}->t.depth<=n->t.depth<=m->Own w L S s n t x q o cs->Own w L S s m t x q o cs
 | _,_,.int _,_,_,_,_,_,_,h=>by simpa only[Own]using h
 | _,_,.bool,_,_,_,_,_,_,h=>by simpa only[Own]using h
 | _,_,.str,_,_,_,_,_,_,h=>by simpa only[Own]using h
 | _,_,.raw _,_,_,_,_,_,_,h=>by simpa only[Own]using h
 | _,_,.unit,_,_,_,_,_,_,h=>by simpa only[Own]using h
 | _,_,.pair a b,_,_,_,_,hn,hm,h=>by
  simp only[Own,Ty.depth]at h hn hm ⊢;obtain⟨c0,c1,h2,h0,h1⟩:=h;exact⟨c0,c1,h2,Own.cap (by omega) (by omega) h0,Own.cap (by omega) (by omega) h1⟩
 | _,_,.agg t,_,_,_,_,hn,hm,h=>by simp only[Own,Ty.depth]at h hn hm ⊢;exact Own.cap (t:=t) hn hm h
 | 0,_,.slice _ _,_,_,_,_,hn,_,_=>by simp[Ty.depth]at hn
 | _+1,0,.slice _ _,_,_,_,_,_,hm,_=>by simp[Ty.depth]at hm
 | n+1,m+1,.slice _ t,xs,_,_,_,hn,hm,h=>by
  simp only[Own,Ty.depth]at h hn hm ⊢;rcases h with h|⟨g,cap,cur,h1,h2,h3,h4,h5,h6,h7⟩
  ·exact .inl h
  ·exact .inr ⟨g,cap,cur,h1,h2,h3,h4,h5,h6,λj hj=>Own.cap (by omega) (by omega) (h7 j hj)⟩
 | 0,_,.cap _ _,_,_,_,_,hn,_,_=>by simp[Ty.depth]at hn
 | _+1,0,.cap _ _,_,_,_,_,_,hm,_=>by simp[Ty.depth]at hm
 | _+1,_+1,.cap _ _,_,_,_,_,_,_,h=>by simpa only[Own]using h
theorem Own.I5{m:Nat}{t:Ty}{x:t.den}(h:m<=n\/t.depth<=n)(ho:Own w L S s n t x q o cs):∃k,m<=k/\Own w L S s k t x q o cs:=by
 by_cases hm:m<=n
 ·exact⟨n,hm,ho⟩
 ·have hd:=h.resolve_left hm;exact⟨m,Nat.le_refl _,Own.cap hd (by omega) ho⟩
def Ty.cu:Ty->List Value
 | .int k=>[.int k 0]
 | .bool=>[.bool false]
 | .str=>[.string ByteArray.empty]
 | .raw z=>[xI z]
 | .unit=>[]
 | .pair a b=>a.cu++b.cu
 | .agg t=>t.cu
 | .slice _ _=>[.slice none 0 0]
 | .cap k _=>[sC k]
theorem Own.zero:{n:Nat}->{t:Ty}->{q:List Nat}->{o:Nat}->Own w L S s n t t.zero q o t.cu
 | _,.int _,_,_=>by simp[Own,Ty.zero,Ty.cu]
 | _,.bool,_,_=>by simp[Own,Ty.zero,Ty.cu]
 | _,.str,_,_=>by simp[Own,Ty.zero,Ty.cu]
 | _,.raw 0,_,_=>by simp[Own,Ty.zero,Ty.cu,xI,Value.mJ]
 | _,.raw 1,_,_=>by simp[Own,Ty.zero,Ty.cu,xI,Value.mJ]
 | _,.raw (_+2),_,_=>by simp[Own,Ty.zero,Ty.cu,xI,Value.mJ]
 | _,.unit,_,_=>by simp[Own,Ty.cu]
 | _,.pair a b,_,_=>by simp only[Own];exact⟨_,_,rfl,Own.zero,Own.zero⟩
 | _,.agg t,_,_=>by simp only[Own];exact Own.zero (t:=t)
 | 0,.slice _ _,_,_=>by
  simp only[Own,Rd,Ty.cu,Ty.zero];exact⟨none,0,rfl,Nat.le_refl _,λ_=>by simp,λh=>absurd rfl h⟩
 | n+1,.slice _ _,_,_=>by simp only[Own];exact .inl ⟨rfl,rfl⟩
 | 0,.cap _ _,_,_=>by simp[Own,Rd,Ty.cu,Ty.zero]
 | _+1,.cap _ _,_,_=>by simp[Own,Ty.cu,Ty.zero]
theorem Ty.jN:(t:Ty)->t.cu.length=t.sz
 | .int _ | .bool | .str | .raw _ | .unit | .slice _ _ | .cap _ _=>rfl
 | .pair a b=>by simp[Ty.cu,Ty.sz,jN a,jN b]
 | .agg t=>jN t
theorem Own.fp:{n m:Nat}->{t:Ty}->{x:t.den}->{q q2:List Nat}->{o o2:Nat}->{cs:List Value}->m<=n ->
  (∀k,S k->S' k/\w'.heap[k]?=w.heap[k]?) ->
  (∀k d rest,d<t.sz->L k = .own s (q++(o+d)::rest)->w'.heap[k]?=w.heap[k]?/\(rest.length<m->L' k = .own s' (q2++(o2+d)::rest))/\(m<=rest.length->S' k)) ->
  Own w L S s n t x q o cs->Own w' L' S' s' m t x q2 o2 cs
 | _,_,.int _,_,_,_,_,_,_,_,_,_,h=>by simpa only[Own]using h
 | _,_,.bool,_,_,_,_,_,_,_,_,_,h=>by simpa only[Own]using h
 | _,_,.str,_,_,_,_,_,_,_,_,_,h=>by simpa only[Own]using h
 | _,_,.raw _,_,_,_,_,_,_,_,_,_,h=>by simpa only[Own]using h
 | _,_,.unit,_,_,_,_,_,_,_,_,_,h=>by simpa only[Own]using h
 | _,_,.pair a b,_,q,q2,o,o2,_,hm,H,H2,h=>by
  simp only[Own]at h ⊢;obtain⟨c0,c1,rfl,h0,h1⟩:=h;refine⟨c0,c1,rfl,Own.fp hm H (λk d rest hd=>H2 k d rest (by simp only[Ty.sz];omega)) h0,Own.fp hm H (λk d rest hd hk=>?_) h1⟩;have:=H2 k (a.sz+d) rest (by simp only[Ty.sz];omega) (by rw[hk,Nat.add_assoc])
  rwa [<-Nat.add_assoc]at this
 | _,_,.agg t,_,_,_,_,_,_,hm,H,H2,h=>by simp only[Own]at h ⊢;exact Own.fp (t:=t) hm H H2 h
 | 0,0,.slice _ _,_,_,_,_,_,_,_,H,_,h=>by simp only[Own]at h ⊢;exact Rd.move H h
 | n+1,m+1,.slice e t,xs,q,q2,o,o2,_,hm,H,H2,h=>by
  simp only[Own]at h ⊢;rcases h with h|⟨g,cap,cur,rfl,hL,hg,h1,h2,h3,h4⟩
  ·exact .inl h
  ·have hh:=H2 g 0 [] (by simp[Ty.sz]) (by simpa using hL);refine .inr ⟨g,cap,cur,rfl,by simpa using hh.2.1 (by simp),by rw[hh.1];exact hg,h1,h2,h3,λj hj=>?_⟩;refine Own.fp (by omega) H (λk d rest hd hk=>?_) (h4 j hj);have:=H2 k 0 ((j*t.sz+d)::rest) (by simp[Ty.sz]) (by rw[hk];simp);refine⟨this.1,λhr=>?_,λhr=>this.2.2 (by simp;omega)⟩;have h5:=this.2.1 (by simp;omega);simpa using h5
 | n+1,0,.slice e t,xs,q,q2,o,o2,_,hm,H,H2,h=>by
  simp only[Own]at h ⊢;simp only[Rd];rcases h with⟨rfl,rfl⟩|⟨g,cap,cur,rfl,hL,hg,h1,h2,h3,h4⟩
  ·exact⟨none,0,rfl,Nat.le_refl _,λ_=>⟨rfl,rfl⟩,λh=>absurd rfl h⟩
  ·have hh:=H2 g 0 [] (by simp[Ty.sz]) (by simpa using hL);refine⟨_,cap,rfl,h1,(by simp),λ_=>⟨g,0,rfl,hh.2.2 (by simp),λj hj=>?_⟩⟩;have h5:Own w' L' S' s' 0 t (xs[j]) (q2++[o2]) (j*t.sz) ((cur.toList.drop (j*t.sz)).take t.sz):=by
    refine Own.fp (Nat.zero_le _) H (λk d rest hd hk=>?_) (h4 j hj);have:=H2 k 0 ((j*t.sz+d)::rest) (by simp[Ty.sz]) (by rw[hk];simp);exact⟨this.1,λhr=>absurd hr (by omega),λhr=>this.2.2 (by simp)⟩
   refine⟨_,Own.eQ h5,λi v hv=>?_⟩;rw[List.getElem?_take]at hv;split at hv
   ·rw[List.getElem?_drop]at hv;simp only[World.cell?,hh.1,hg,Option.isSome_none,Bool.false_eq_true,if_false,Nat.zero_add];simpa using hv
   ·cases hv
 | 0,0,.cap _ _,_,_,_,_,_,_,_,H,_,h=>by simp only[Own]at h ⊢;exact Rd.move H h
 | _+1,_+1,.cap _ _,_,_,_,_,_,_,_,_,_,h=>by simpa only[Own]using h
 | _+1,0,.cap _ _,_,_,_,_,_,_,_,_,_,h=>by simp only[Own,Rd]at h ⊢;exact .inl h
theorem Own.freeze{m:Nat}{t:Ty}{x:t.den}(hm:m<=n)
  (H:∀k,S k->S' k/\w'.heap[k]?=w.heap[k]?)
  (H2:∀k d rest,d<t.sz->L k = .own s (q++(o+d)::rest)->w'.heap[k]?=w.heap[k]?/\(rest.length<m->L' k = .own s (q++(o+d)::rest))/\(m<=rest.length->S' k))
  (h:Own w L S s n t x q o cs):Own w' L' S' s m t x q o cs:=Own.fp hm H H2 h
end
def ae{α:Type}(xs:List α)(i:Int):Option α:=if 0<=i then xs[i.toNat]? else none
inductive St where
 | a7 (i off:Nat)
 | idx (sz:Nat) (i:Int)
def node:List Nat->Nat->List St->List Nat×Nat
 | q,o,[]=>(q,o)
 | q,o,.a7 _ off::p=>node q (o+off) p
 | q,o,.idx sz i::p=>node (q++[o]) (i.toNat*sz) p
inductive V where
 | dead
 | d (l:Option Nat) (n:Nat) (t:Ty) (x:t.den)
 | bF (l:List (Nat×Option (Nat×(t:Ty)×t.den)))
 | box (l:Option Nat) (n:Nat) (t:Ty) (x:t.den)
 | rp (l:Option Nat) (t:Ty) (x:t.den)
 | ptr (r:Nat) (p:List St) (t:Ty)
 | view (r:Nat) (p:List St) (t:Ty)
 | hole (v:V) (p:List St)
 | part (r i:Nat) (n:Nat) (t:Ty) (x:t.den)
 | bP (k n:Nat) (t:Ty) (x:t.den)
 | same (r:Nat) (t:Ty)
 deriving Inhabited
structure D where
 n:Nat
 t:Ty
 x:t.den
def V.root:V->Option Nat
 | .d l _ _ _=>l
 | .box l _ _ _=>l
 | .rp l _ _=>l
 | .ptr s _ _=>some s
 | .view s _ _=>some s
 | .hole v _=>v.root
 | .part r _ _ _ _=>some r
 | .same r _=>some r
 | _=>none
def V.on(r:Nat)(v:V):Bool:=v.root==some r
def V.fD:V->Bool
 | .box _ _ _ _=>true
 | .hole (.box _ _ _ _) _=>true
 | .bP 1 _ _ _=>true
 | _=>false
def shallow:List St->Bool
 | []=>true
 | .a7 _ _::p=>shallow p
 | _=>false
def V.eI(r:Nat)(v:V):Bool:=v.on r&&(match v with
 | .ptr _ p _ => !shallow p
 | _=>true)
def bp:Nat:=100000
def Ct(s:Nat):Nat:=bp+2*s
def vS(r m:Nat):Nat:=bp+(2*(r+100000*m)+1)
def fI(k s:Nat)(v:V):Bool :=
 cond ((k - bp) % 2==0) (s != (k - bp) / 2||v.fD) (((k - bp) / 2 / 100000).testBit (s+1) || !cond (((k - bp) / 2 / 100000).testBit 0) (v.on ((k - bp) / 2 % 100000)) (v.eI ((k - bp) / 2 % 100000)))
def sr(k:Nat):Nat->List V->Bool
 | _,[]=>true
 | i,v::l=>fI k i v&&sr k (i+1) l
def ey(k:Nat)(T:List V):Bool:=sr k 0 T&&((k - bp) % 2==1||decide ((k - bp) / 2<T.length))
theorem vL{k:Nat}{l:List V}:∀{i:Nat},sr k i l=true->∀s,s<l.length->fI k (i+s) (l.getD s .dead)=true:=by
 induction l with
 | nil=>intro i _ s hs;exact absurd hs (Nat.not_lt_zero s)
 | cons v l ih =>
  intro i h s hs;simp only[sr,Bool.and_eq_true]at h;cases s with
  | zero=>exact h.1
  | succ s =>
   have:=ih h.2 s (Nat.lt_of_succ_lt_succ hs);rw[show i+1+s=i+(s+1)by omega]at this;exact this
theorem IM{k:Nat}{l:List V}:∀{i:Nat},(∀s,s<l.length->fI k (i+s) (l.getD s .dead)=true)->sr k i l=true:=by
 induction l with
 | nil=>intro i _;rfl
 | cons v l ih =>
  intro i h;simp only[sr,Bool.and_eq_true];refine⟨h 0 (Nat.zero_lt_succ _),ih λs hs=>?_⟩;have:=h (s+1) (Nat.succ_lt_succ hs);rw[show i+1+s=i+(s+1)by omega];exact this
theorem V1{s:Nat}{T:List V}(h:ey (Ct s) T=true):(T.getD s .dead).fD=true:=by
 have e:Ct s - bp=2*s:=Nat.add_sub_cancel_left _ _;unfold ey at h;rw[Bool.and_eq_true,e,show 2*s % 2=0 from Nat.mul_mod_right 2 s,show 2*s / 2=s from Nat.mul_div_cancel_left s (Nat.zero_lt_succ 1)]at h;obtain⟨h1,h2⟩:=h;have hs:s<T.length:=by simpa using h2
 have:=vL h1 s hs;unfold fI at this;rw[e,show 2*s % 2=0 from Nat.mul_mod_right 2 s,show 2*s / 2=s from Nat.mul_div_cancel_left s (Nat.zero_lt_succ 1),Nat.zero_add]at this;simpa using this
theorem I3{r m:Nat}{T:List V}(hr:r<100000)(h:ey (vS r m) T=true)(s:Nat)(hs:m.testBit (s+1)=false):cond (m.testBit 0) ((T.getD s .dead).on r) ((T.getD s .dead).eI r)=false:=by
 have e:vS r m - bp=2*(r+100000*m)+1:=Nat.add_sub_cancel_left _ _;have e1:(2*(r+100000*m)+1) % 2=1:=by omega
 have e2:(2*(r+100000*m)+1) / 2=r+100000*m:=by omega
 have e3:(r+100000*m) / 100000=m:=by omega
 have e4:(r+100000*m) % 100000=r:=by omega
 unfold ey at h;rw[Bool.and_eq_true]at h;by_cases hl:s<T.length
 ·have:=vL h.1 s hl;unfold fI at this;rw[e,e1,e2,e3,e4,Nat.zero_add,hs]at this;simpa using this
 ·rw[List.getD_eq_getElem?_getD,List.getElem?_eq_none (Nat.le_of_not_lt hl)];cases m.testBit 0<;>rfl
def MO(T T':List V)(s:Nat):Prop:=(s<bp->T'.getD s .dead=T.getD s .dead)/\(bp<=s->ey s T=true->ey s T'=true)
inductive M (α:Type):Type where
 | ret (a:α)
 | fail
 | get (s:Nat) (k:V->M α)
 | cM (t:Ty) (m:Option t.den) (k:t.den->M α)
 | bn (b:Bool) (k:M α)
 | ask (q:Nat) (k:M α)
 | ite (b:Bool) (x y:M α)
def M.bind{α β:Type}:M α->(α->M β)->M β
 | .ret a,f=>f a
 | .fail,_=>.fail
 | .get s k,f=>.get s λv=>(k v).bind f
 | .cM t m k,f=>.cM t m λx=>(k x).bind f
 | .bn b k,f=>.bn b (k.bind f)
 | .ask q k,f=>.ask q (k.bind f)
 | .ite b x y,f=>.ite b (x.bind f) (y.bind f)
def M.ai{α:Type}(T:List V):M α->α->List Nat->Prop
 | .ret a,b,log=>b=a/\log=[]
 | .fail,_,_=>False
 | .get s k,b,log=>∃aG,log=s::aG/\(k (T.getD s .dead)).ai T b aG
 | .cM _ m k,b,log=>∃x,m=some x/\(k x).ai T b log
 | .bn c k,b,log=>c=true/\k.ai T b log
 | .ask q k,b,log=>(ey q T=true/\bp<=q)/\∃aG,log=q::aG/\k.ai T b aG
 | .ite c x y,b,log=>(c=true/\x.ai T b log)\/(c=false/\y.ai T b log)
theorem M.aq{β:Type}{T:List V}:{m:M α}->{f:α->M β}->{b:β}->{log:List Nat}->(m.bind f).ai T b log ->
  ∃a eW log2,log=eW++log2/\m.ai T a eW/\(f a).ai T b log2
 | .ret a,f,b,log,h=>⟨a,[],log,rfl,⟨rfl,rfl⟩,h⟩
 | .fail,_,_,_,h=>h.elim
 | .get s k,f,b,log,h=>by
  obtain⟨aG,rfl,h⟩:=h;obtain⟨a,l1,l2,rfl,h1,h2⟩:=M.aq (m:=k _) h;exact⟨a,s::l1,l2,rfl,⟨l1,rfl,h1⟩,h2⟩
 | .cM t m k,f,b,log,h=>by
  obtain⟨x,hm,h⟩:=h;obtain⟨a,l1,l2,rfl,h1,h2⟩:=M.aq (m:=k _) h;exact⟨a,l1,l2,rfl,⟨x,hm,h1⟩,h2⟩
 | .bn c k,f,b,log,h=>by
  obtain⟨hc,h⟩:=h;obtain⟨a,l1,l2,rfl,h1,h2⟩:=M.aq (m:=k) h;exact⟨a,l1,l2,rfl,⟨hc,h1⟩,h2⟩
 | .ask q k,f,b,log,h=>by
  obtain⟨hc,aG,rfl,h⟩:=h;obtain⟨a,l1,l2,rfl,h1,h2⟩:=M.aq (m:=k) h;exact⟨a,q::l1,l2,rfl,⟨hc,l1,rfl,h1⟩,h2⟩
 | .ite c x y,f,b,log,h=>by
  rcases h with⟨hc,h⟩|⟨hc,h⟩
  ·obtain⟨a,l1,l2,rfl,h1,h2⟩:=M.aq (m:=x) h;exact⟨a,l1,l2,rfl,.inl ⟨hc,h1⟩,h2⟩
  ·obtain⟨a,l1,l2,rfl,h1,h2⟩:=M.aq (m:=y) h;exact⟨a,l1,l2,rfl,.inr ⟨hc,h1⟩,h2⟩
theorem M.pq{T T':List V}(hl:T.length<=bp)(dT:T'.length=T.length):{m:M α}->{a:α}->{log:List Nat}->m.ai T a log->(∀s∈log,MO T T' s)->m.ai T' a log
 | .ret _,_,_,h,_=>h
 | .fail,_,_,h,_=>h
 | .get s k,a,log,h,H=>by
  obtain⟨aG,rfl,h⟩:=h;refine⟨aG,rfl,?_⟩;have hs:T'.getD s .dead=T.getD s .dead:=by
   by_cases hs:s<bp
   ·exact (H s (by simp)).1 hs
   ·rw[List.getD_eq_getElem?_getD,List.getD_eq_getElem?_getD,List.getElem?_eq_none (by omega),List.getElem?_eq_none (by omega)]
  rw[hs];exact M.pq hl dT h (λs hs=>H s (by simp[hs]))
 | .cM _ m k,a,log,h,H=>by
  obtain⟨x,hm,h⟩:=h;exact⟨x,hm,M.pq hl dT h H⟩
 | .bn c k,a,log,h,H=>⟨h.1,M.pq hl dT h.2 H⟩
 | .ask q k,a,log,h,H=>by
  obtain⟨⟨hc,hq⟩,aG,rfl,h⟩:=h;exact⟨⟨(H q (by simp)).2 hq hc,hq⟩,aG,rfl,M.pq hl dT h (λs hs=>H s (by simp[hs]))⟩
 | .ite c x y,a,log,h,H=>by
  rcases h with⟨hc,h⟩|⟨hc,h⟩
  ·exact .inl ⟨hc,M.pq hl dT h H⟩
  ·exact .inr ⟨hc,M.pq hl dT h H⟩
def M.runK{α R:Type}(T:List V):M α->List Nat->(List Nat->α->Option R)->Option R
 | .ret a,l,K=>K l a
 | .fail,_,_=>none
 | .get s k,l,K=>(k (T.getD s .dead)).runK T (s::l) K
 | .cM _ m k,l,K=>m.bind λx=>(k x).runK T l K
 | .bn b k,l,K=>cond b (k.runK T l K) none
 | .ask q k,l,K=>cond (ey q T&&decide (bp<=q)) (k.runK T (q::l) K) none
 | .ite b x y,l,K=>cond b (x.runK T l K) (y.runK T l K)
theorem M.lD{R:Type}{T:List V}{r:R}:{m:M α}->{l:List Nat}->{K:List Nat->α->Option R}->m.runK T l K=some r ->
  ∃a log,m.ai T a log/\K (log.reverse++l) a=some r
 | .ret a,l,K,h=>⟨a,[],⟨rfl,rfl⟩,by simpa[M.runK]using h⟩
 | .fail,_,_,h=>by simp[M.runK]at h
 | .get s k,l,K,h=>by
  obtain⟨a,log,h1,h2⟩:=M.lD (m:=k _) h;exact⟨a,s::log,⟨log,rfl,h1⟩,by simpa using h2⟩
 | .cM t m k,l,K,h=>by
  simp only[M.runK]at h;obtain⟨x,hm,h⟩:=Option.bind_eq_some_iff.1 h;obtain⟨a,log,h1,h2⟩:=M.lD (m:=k x) h;exact⟨a,log,⟨x,hm,h1⟩,h2⟩
 | .bn b k,l,K,h=>by
  simp only[M.runK]at h;cases hb:b with
  | true =>
   rw[hb]at h;obtain⟨a,log,h1,h2⟩:=M.lD (m:=k) h;exact⟨a,log,⟨rfl,h1⟩,h2⟩
  | false =>
   rw[hb]at h;cases h
 | .ask q k,l,K,h=>by
  simp only[M.runK]at h;cases hb:(ey q T&&decide (bp<=q))with
  | true =>
   rw[hb]at h;obtain⟨a,log,h1,h2⟩:=M.lD (m:=k) h;simp only[Bool.and_eq_true,decide_eq_true_eq]at hb;exact⟨a,q::log,⟨hb,log,rfl,h1⟩,by simpa using h2⟩
  | false =>
   rw[hb]at h;cases h
 | .ite b x y,l,K,h=>by
  simp only[M.runK]at h;cases hb:b with
  | true =>
   rw[hb]at h;obtain⟨a,log,h1,h2⟩:=M.lD (m:=x) h;exact⟨a,log,.inl ⟨rfl,h1⟩,h2⟩
  | false =>
   rw[hb]at h;obtain⟨a,log,h1,h2⟩:=M.lD (m:=y) h;exact⟨a,log,.inr ⟨rfl,h1⟩,h2⟩
theorem M.qT{R:Type}{T:List V}{r:R}:{m:M α}->{a:α}->{l log:List Nat}->{K:List Nat->α->Option R}->m.ai T a log->K (log.reverse++l) a=some r->m.runK T l K=some r
 | .ret _,a,l,log,K,h,hK=>by obtain⟨rfl,rfl⟩:=h;simpa[M.runK]using hK
 | .fail,_,_,_,_,h,_=>h.elim
 | .get s k,a,l,log,K,h,hK=>by
  obtain⟨aG,rfl,h⟩:=h;exact M.qT (m:=k _) h (by simpa using hK)
 | .cM t m k,a,l,log,K,h,hK=>by
  obtain⟨x,hm,h⟩:=h;simp only[M.runK,hm,Option.bind_some];exact M.qT (m:=k x) h hK
 | .bn b k,a,l,log,K,h,hK=>by
  obtain⟨hb,h⟩:=h;simp only[M.runK];rw[hb];exact M.qT (m:=k) h hK
 | .ask q k,a,l,log,K,h,hK=>by
  obtain⟨hb,aG,rfl,h⟩:=h;simp only[M.runK];have:(ey q T&&decide (bp<=q))=true:=by simp[hb.1,hb.2]
  rw[this];exact M.qT (m:=k) h (by simpa using hK)
 | .ite b x y,a,l,log,K,h,hK=>by
  simp only[M.runK];rcases h with⟨hb,h⟩|⟨hb,h⟩
  ·rw[hb];exact M.qT (m:=x) h hK
  ·rw[hb];exact M.qT (m:=y) h hK
def bB:Nat->Ty->Option (Nat×Ty)
 | 0,.pair a _=>some (0,a)
 | i+1,.pair a b=>(bB i b).map λr=>(a.sz+r.1,r.2)
 | 0,t=>some (0,t)
 | _+1,_=>none
def comp:Nat->(t:Ty)->t.den->Option (Nat×(t:Ty)×t.den)
 | 0,.pair a _,x=>some (0,⟨a,x.1⟩)
 | i+1,.pair a b,x=>(comp i b x.2).map λr=>(a.sz+r.1,r.2)
 | 0,.int k,x=>some (0,⟨.int k,x⟩)
 | 0,.bool,x=>some (0,⟨.bool,x⟩)
 | 0,.str,x=>some (0,⟨.str,x⟩)
 | 0,.raw z,x=>some (0,⟨.raw z,x⟩)
 | 0,.cap k z,x=>some (0,⟨.cap k z,x⟩)
 | 0,.unit,x=>some (0,⟨.unit,x⟩)
 | 0,.agg t,x=>some (0,⟨.agg t,x⟩)
 | 0,.slice e t,x=>some (0,⟨.slice e t,x⟩)
 | _+1,_,_=>none
def iZ:Nat->(t:Ty)->t.den->((t1:Ty)->t1.den->M t1.den)->M t.den
 | 0,.pair a _,x,f=>(f a x.1).bind λy=>.ret (y,x.2)
 | i+1,.pair _ b,x,f=>(iZ i b x.2 f).bind λy=>.ret (x.1,y)
 | 0,.int k,x,f=>f (.int k) x
 | 0,.bool,x,f=>f .bool x
 | 0,.str,x,f=>f .str x
 | 0,.raw z,x,f=>f (.raw z) x
 | 0,.cap k z,x,f=>f (.cap k z) x
 | 0,.unit,x,f=>f .unit x
 | 0,.agg t,x,f=>f (.agg t) x
 | 0,.slice e t,x,f=>f (.slice e t) x
 | _+1,_,_,_=>.fail
def aR:List St->(n:Nat)->(t:Ty)->t.den->M D
 | [],n,t,x=>.ret ⟨n,t,x⟩
 | .a7 i off::p,n,.agg t,x=>match comp i t x with
  | some (o,⟨t',x'⟩)=>if o=off then aR p n t' x' else .fail
  | none=>.fail
 | .idx sz i::p,n+1,.slice _ t,xs=>if sz=t.sz then .cM t (ae xs i) (λy=>aR p n t y)else .fail
 | _::_,_,_,_=>.fail
def fo:List St->(t:Ty)->t.den->(t':Ty)->t'.den->M t.den
 | [],t,_,t',y=>if h:t'=t then .ret (h▸y)else .fail
 | .a7 i off::p,.agg t,x,t',y=>match bB i t with
  | some (o,_)=>if o=off then iZ i t x (λt1 x1=>fo p t1 x1 t' y)else .fail
  | none=>.fail
 | .idx sz i::p,.slice e t,xs,t',y=>if sz=t.sz then .cM t (ae xs i) (λz=>(fo p t z t' y).bind λz'=>.cM (.slice e t) (some (List.set xs i.toNat z')) λw=>.ret w)else .fail
 | _::_,_,_,_,_=>.fail
theorem ma{xs:List α}{i:Int}{x:α}(h:ae xs i=some x):∃hi:i.toNat<xs.length,0<=i/\xs[i.toNat]=x:=by
 unfold ae at h;split at h
 ·obtain⟨h1,h2⟩:=List.getElem?_eq_some_iff.1 h;exact⟨h1,by assumption,h2⟩
 ·cases h
section
variable{w w':World}{S S':Nat->Prop}{L L':Nat->aj}{s:Nat}{T:List V}
theorem vV:{i:Nat}->{t:Ty}->{x:t.den}->{o1:Nat}->{t1:Ty}->{x1:t1.den}->{n:Nat}->{q:List Nat}->{o:Nat}->{cs:List Value} ->
  comp i t x=some (o1,⟨t1,x1⟩)->Own w L S s n t x q o cs->o1+t1.sz<=t.sz/\Own w L S s n t1 x1 q (o+o1) ((cs.drop o1).take t1.sz)
 | 0,.pair a b,x,o1,t1,x1,n,q,o,cs,hc,h=>by
  simp only[comp,Option.some.injEq,Prod.mk.injEq]at hc;obtain⟨rfl,hc⟩:=hc;cases hc;simp only[Own]at h;obtain⟨c0,c1,rfl,h0,h1⟩:=h;refine⟨by simp[Ty.sz],?_⟩;rw[List.drop_zero,List.take_left' (Own.len h0)];exact h0
 | i+1,.pair a b,x,o1,t1,x1,n,q,o,cs,hc,h=>by
  simp only[comp,Option.map_eq_some_iff]at hc;obtain⟨⟨o2,t2,x2⟩,hc,he⟩:=hc;simp only[Prod.mk.injEq]at he;obtain⟨rfl,he⟩:=he;cases he;simp only[Own]at h;obtain⟨c0,c1,rfl,h0,h1⟩:=h;obtain⟨h2,h3⟩:=vV hc h1;refine⟨by simp only[Ty.sz];omega,?_⟩;rw[<-Nat.add_assoc,<-List.drop_drop,List.drop_left' (Own.len h0)];exact h3
 | 0,.int _,_,_,_,_,_,_,_,_,hc,h=>by
  simp only[comp,Option.some.injEq,Prod.mk.injEq]at hc;obtain⟨rfl,hc⟩:=hc;cases hc;exact⟨by simp,by rw[List.drop_zero,List.take_of_length_le (Nat.le_of_eq (Own.len h))];exact h⟩
 | 0,.bool,_,_,_,_,_,_,_,_,hc,h=>by
  simp only[comp,Option.some.injEq,Prod.mk.injEq]at hc;obtain⟨rfl,hc⟩:=hc;cases hc;exact⟨by simp,by rw[List.drop_zero,List.take_of_length_le (Nat.le_of_eq (Own.len h))];exact h⟩
 | 0,.str,_,_,_,_,_,_,_,_,hc,h=>by
  simp only[comp,Option.some.injEq,Prod.mk.injEq]at hc;obtain⟨rfl,hc⟩:=hc;cases hc;exact⟨by simp,by rw[List.drop_zero,List.take_of_length_le (Nat.le_of_eq (Own.len h))];exact h⟩
 | 0,.raw _,_,_,_,_,_,_,_,_,hc,h=>by
  simp only[comp,Option.some.injEq,Prod.mk.injEq]at hc;obtain⟨rfl,hc⟩:=hc;cases hc;exact⟨by simp,by rw[List.drop_zero,List.take_of_length_le (Nat.le_of_eq (Own.len h))];exact h⟩
 | 0,.cap _ _,_,_,_,_,_,_,_,_,hc,h=>by
  simp only[comp,Option.some.injEq,Prod.mk.injEq]at hc;obtain⟨rfl,hc⟩:=hc;cases hc;exact⟨by simp,by rw[List.drop_zero,List.take_of_length_le (Nat.le_of_eq (Own.len h))];exact h⟩
 | 0,.unit,_,_,_,_,_,_,_,_,hc,h=>by
  simp only[comp,Option.some.injEq,Prod.mk.injEq]at hc;obtain⟨rfl,hc⟩:=hc;cases hc;exact⟨by simp,by rw[List.drop_zero,List.take_of_length_le (Nat.le_of_eq (Own.len h))];exact h⟩
 | 0,.agg _,_,_,_,_,_,_,_,_,hc,h=>by
  simp only[comp,Option.some.injEq,Prod.mk.injEq]at hc;obtain⟨rfl,hc⟩:=hc;cases hc;exact⟨by simp,by rw[List.drop_zero,List.take_of_length_le (Nat.le_of_eq (Own.len h))];exact h⟩
 | 0,.slice _ _,_,_,_,_,_,_,_,_,hc,h=>by
  simp only[comp,Option.some.injEq,Prod.mk.injEq]at hc;obtain⟨rfl,hc⟩:=hc;cases hc;exact⟨by simp,by rw[List.drop_zero,List.take_of_length_le (Nat.le_of_eq (Own.len h))];exact h⟩
def mX(w:World)(L:Nat->aj)(S:Nat->Prop)(s:Nat)(n:Nat)(t:Ty)(x:t.den)(q:List Nat)(o:Nat):Prop :=
 ∃g cur e,L g = .own s q/\w.heap[g]?=some (.cells cur e (0,0))/\o+t.sz<=cur.size/\Own w L S s n t x q o ((cur.toList.drop o).take t.sz)
theorem sN:{p:List St}->{n:Nat}->{t:Ty}->{x:t.den}->{n':Nat}->{t':Ty}->{x':t'.den}->{q:List Nat}->{o:Nat}->{log:List Nat} ->
  (aR p n t x).ai T ⟨n',t',x'⟩ log->mX w L S s n t x q o->mX w L S s n' t' x' (node q o p).1 (node q o p).2
 | [],n,t,x,n',t',x',q,o,log,hr,h=>by
  obtain⟨he,_⟩:=hr;cases he;exact h
 | .a7 i off::p,n,.agg t,x,n',t',x',q,o,log,hr,h=>by
  simp only[aR]at hr;split at hr
  ·rename_i o1 t1 x1 hc;split at hr
   ·rename_i ho;subst ho;refine sN (q:=q) (o:=o+o1) hr ?_;obtain⟨g,cur,e,h1,h2,h3,h4⟩:=h;simp only[Own]at h4;obtain⟨h5,h6⟩:=vV hc h4;simp only[Ty.sz]at h3 h6;refine⟨g,cur,e,h1,h2,by omega,?_⟩;rw[List.drop_take,List.take_take,List.drop_drop]at h6
    rwa [Nat.min_eq_left (by omega)]at h6
   ·exact hr.elim
  ·exact hr.elim
 | .idx sz i::p,n+1,.slice e t,xs,n',t',x',q,o,log,hr,h=>by
  simp only[aR]at hr;split at hr
  ·rename_i hz;subst hz;obtain⟨y,hy,hr⟩:=hr;obtain⟨hi,h0,rfl⟩:=ma hy;refine sN (q:=q++[o]) (o:=i.toNat*t.sz) hr ?_;obtain⟨g,cur,e',h1,h2,h3,h4⟩:=h;simp only[Own]at h4;rcases h4 with⟨_,rfl⟩|⟨g2,cap,ff,dh,hL,hg,h5,h6,h7,h8⟩
   ·exact absurd hi (by simp)
   ·refine⟨g2,ff,e,hL,hg,?_,h8 _ hi⟩;rw[h7]
    calc i.toNat*t.sz+t.sz=(i.toNat+1)*t.sz:=by rw[Nat.add_mul,Nat.one_mul]
     _<=cap*t.sz:=Nat.mul_le_mul_right _ (by omega)
  ·exact hr.elim
 | .idx _ _::p,0,.slice _ _,_,_,_,_,_,_,_,hr,_=>by simp only[aR]at hr;exact hr.elim
 | .a7 _ _::p,_,.int _,_,_,_,_,_,_,_,hr,_=>by simp only[aR]at hr;exact hr.elim
 | .a7 _ _::p,_,.bool,_,_,_,_,_,_,_,hr,_=>by simp only[aR]at hr;exact hr.elim
 | .a7 _ _::p,_,.str,_,_,_,_,_,_,_,hr,_=>by simp only[aR]at hr;exact hr.elim
 | .a7 _ _::p,_,.raw _,_,_,_,_,_,_,_,hr,_=>by simp only[aR]at hr;exact hr.elim
 | .a7 _ _::p,_,.cap _ _,_,_,_,_,_,_,_,hr,_=>by simp only[aR]at hr;exact hr.elim
 | .a7 _ _::p,_,.unit,_,_,_,_,_,_,_,hr,_=>by simp only[aR]at hr;exact hr.elim
 | .a7 _ _::p,_,.pair _ _,_,_,_,_,_,_,_,hr,_=>by simp only[aR]at hr;exact hr.elim
 | .a7 _ _::p,_,.slice _ _,_,_,_,_,_,_,_,hr,_=>by simp only[aR]at hr;exact hr.elim
 | .idx _ _::p,_,.int _,_,_,_,_,_,_,_,hr,_=>by simp only[aR]at hr;exact hr.elim
 | .idx _ _::p,_,.bool,_,_,_,_,_,_,_,hr,_=>by simp only[aR]at hr;exact hr.elim
 | .idx _ _::p,_,.str,_,_,_,_,_,_,_,hr,_=>by simp only[aR]at hr;exact hr.elim
 | .idx _ _::p,_,.raw _,_,_,_,_,_,_,_,hr,_=>by simp only[aR]at hr;exact hr.elim
 | .idx _ _::p,_,.cap _ _,_,_,_,_,_,_,_,hr,_=>by simp only[aR]at hr;exact hr.elim
 | .idx _ _::p,_,.unit,_,_,_,_,_,_,_,hr,_=>by simp only[aR]at hr;exact hr.elim
 | .idx _ _::p,_,.pair _ _,_,_,_,_,_,_,_,hr,_=>by simp only[aR]at hr;exact hr.elim
 | .idx _ _::p,_,.agg _,_,_,_,_,_,_,_,hr,_=>by simp only[aR]at hr;exact hr.elim
end
def kV(q:List Nat)(o sz:Nat)(q2:List Nat):Prop:=∃d rest,d<sz/\q2=q++(o+d)::rest
def Reach(q:List Nat)(o sz:Nat)(q':List Nat)(o' fK:Nat):Prop:=(q'=q/\o<=o'/\o'+fK<=o+sz)\/kV q o sz q'
structure Cq (w w':World) (L L':Nat->aj) (S S':Nat->Prop) (s:Nat) (q':List Nat) (o' fK g':Nat) (cur cur':Array Value) (e':TypeId):Prop where
 hS:∀k,S k->S' k/\w'.heap[k]?=w.heap[k]?
 hO:∀k q2,L k = .own s q2->q2≠q'->¬kV q' o' fK q2->L' k=L k/\w'.heap[k]?=w.heap[k]?
 hL:L g' = .own s q'
 hL':L' g' = .own s q'
 h0:w.heap[g']?=some (.cells cur e' (0,0))
 h1:w'.heap[g']?=some (.cells cur' e' (0,0))
 bq:cur'.size=cur.size
 wV:∀i,(i<o'\/o'+fK<=i)->cur'[i]?=cur[i]?
 inj:∀k,L k = .own s q'->k=g'
section
variable{w w':World}{S S':Nat->Prop}{L L':Nat->aj}{s:Nat}{T:List V}
theorem uc{cur cur':Array Value}{a b:Nat}(h:∀i,a<=i->i<a+b->cur'[i]?=cur[i]?):(cur'.toList.drop a).take b=(cur.toList.drop a).take b:=by
 apply List.ext_getElem?;intro i;rw[List.getElem?_take,List.getElem?_take];split
 ·rw[List.getElem?_drop,List.getElem?_drop];have:=h (a+i) (by omega) (by omega);simpa using this
 ·rfl
theorem tW{o1 oq fK x:Nat}{rest:List Nat}(hr:Reach q o1 oq q' o' fK)(hx:x<o1\/o1+oq<=x):
  q++x::rest≠q'/\¬kV q' o' fK (q++x::rest):=by
 rcases hr with⟨rfl,h1,h2⟩|⟨d,r,hd,rfl⟩
 ·refine⟨λh=>?_,λ⟨d,r,hd,h⟩=>?_⟩
  ·have:=congrArg List.length h;simp at this
  ·have h:=List.append_cancel_left h;injection h with h _;omega
 ·refine⟨λh=>?_,λ⟨d2,r2,kZ,h⟩=>?_⟩
  ·have h:=List.append_cancel_left h;injection h with h _;omega
  ·rw[List.append_assoc]at h;have h:=List.append_cancel_left h;rw[List.cons_append]at h;injection h with h _;omega
theorem Own.tW{t:Ty}{x:t.den}{o1 oq fK g':Nat}{e':TypeId} 
  (hu:Cq w w' L L' S S' s q' o' fK g' cur cur' e') (hr:Reach q o1 oq q' o' fK) (hx:o+t.sz<=o1\/o1+oq<=o)
  (h:Own w L S s n t x q o cs):Own w' L' S' s n t x q o cs :=
 Own.move hu.hS (λk d rest hd hk=>by
  obtain⟨h1,h2⟩:=Am.tW (rest:=rest) hr (show o+d<o1\/o1+oq<=o+d by omega);have:=hu.hO k _ hk h1 h2;exact⟨this.1.trans hk,this.2⟩) h
theorem Jo:{i:Nat}->{t:Ty}->{x:t.den}->{o1:Nat}->{t1:Ty}->{x1:t1.den}->comp i t x=some (o1,⟨t1,x1⟩)->o1+t1.sz<=t.sz
 | 0,.pair a b,x,o1,t1,x1,hc=>by
  simp only[comp,Option.some.injEq,Prod.mk.injEq]at hc;obtain⟨rfl,hc⟩:=hc;cases hc;simp[Ty.sz]
 | i+1,.pair a b,x,o1,t1,x1,hc=>by
  simp only[comp,Option.map_eq_some_iff]at hc;obtain⟨⟨o2,t2,x2⟩,hc,he⟩:=hc;simp only[Prod.mk.injEq]at he;obtain⟨rfl,he⟩:=he;cases he;have:=Jo hc;simp only[Ty.sz];omega
 | 0,.int _,_,_,_,_,hc=>by simp only[comp,Option.some.injEq,Prod.mk.injEq]at hc;obtain⟨rfl,hc⟩:=hc;cases hc;simp
 | 0,.bool,_,_,_,_,hc=>by simp only[comp,Option.some.injEq,Prod.mk.injEq]at hc;obtain⟨rfl,hc⟩:=hc;cases hc;simp
 | 0,.str,_,_,_,_,hc=>by simp only[comp,Option.some.injEq,Prod.mk.injEq]at hc;obtain⟨rfl,hc⟩:=hc;cases hc;simp
 | 0,.raw _,_,_,_,_,hc=>by simp only[comp,Option.some.injEq,Prod.mk.injEq]at hc;obtain⟨rfl,hc⟩:=hc;cases hc;simp
 | 0,.cap _ _,_,_,_,_,hc=>by simp only[comp,Option.some.injEq,Prod.mk.injEq]at hc;obtain⟨rfl,hc⟩:=hc;cases hc;simp
 | 0,.unit,_,_,_,_,hc=>by simp only[comp,Option.some.injEq,Prod.mk.injEq]at hc;obtain⟨rfl,hc⟩:=hc;cases hc;simp
 | 0,.agg _,_,_,_,_,hc=>by simp only[comp,Option.some.injEq,Prod.mk.injEq]at hc;obtain⟨rfl,hc⟩:=hc;cases hc;simp
 | 0,.slice _ _,_,_,_,_,hc=>by simp only[comp,Option.some.injEq,Prod.mk.injEq]at hc;obtain⟨rfl,hc⟩:=hc;cases hc;simp
theorem sP:{p:List St}->{n:Nat}->{t:Ty}->{x:t.den}->{n':Nat}->{t':Ty}->{x':t'.den}->{q:List Nat}->{o:Nat}->{log:List Nat} ->
  (aR p n t x).ai T ⟨n',t',x'⟩ log->Reach q o t.sz (node q o p).1 (node q o p).2 t'.sz
 | [],n,t,x,n',t',x',q,o,log,hr=>by
  obtain⟨he,_⟩:=hr;cases he;exact .inl ⟨rfl,Nat.le_refl _,Nat.le_refl _⟩
 | .a7 i off::p,n,.agg t,x,n',t',x',q,o,log,hr=>by
  simp only[aR]at hr;split at hr
  ·rename_i o1 t1 x1 hc;split at hr
   ·rename_i ho;subst ho;have h1:=Jo hc;rcases sP (q:=q) (o:=o+o1) hr with⟨h2,h3,h4⟩|⟨d,rest,hd,h⟩
    ·exact .inl ⟨h2,by simp only[node];omega,by simp only[node,Ty.sz];omega⟩
    ·exact .inr ⟨o1+d,rest,by simp only[Ty.sz];omega,by simp only[node];rw[h,Nat.add_assoc]⟩
   ·exact hr.elim
  ·exact hr.elim
 | .idx sz i::p,n+1,.slice e t,xs,n',t',x',q,o,log,hr=>by
  simp only[aR]at hr;split at hr
  ·rename_i hz;subst hz;obtain⟨y,hy,hr⟩:=hr;rcases sP (q:=q++[o]) (o:=i.toNat*t.sz) hr with⟨h2,h3,h4⟩|⟨d,rest,hd,h⟩
   ·exact .inr ⟨0,[],by simp[Ty.sz],by simp only[node];rw[h2];rfl⟩
   ·exact .inr ⟨0,(i.toNat*t.sz+d)::rest,by simp[Ty.sz],by simp only[node];rw[h];simp⟩
  ·exact hr.elim
 | .idx _ _::p,0,.slice _ _,_,_,_,_,_,_,_,hr=>by simp only[aR]at hr;exact hr.elim
 | .a7 _ _::p,_,.int _,_,_,_,_,_,_,_,hr=>by simp only[aR]at hr;exact hr.elim
 | .a7 _ _::p,_,.bool,_,_,_,_,_,_,_,hr=>by simp only[aR]at hr;exact hr.elim
 | .a7 _ _::p,_,.str,_,_,_,_,_,_,_,hr=>by simp only[aR]at hr;exact hr.elim
 | .a7 _ _::p,_,.raw _,_,_,_,_,_,_,_,hr=>by simp only[aR]at hr;exact hr.elim
 | .a7 _ _::p,_,.cap _ _,_,_,_,_,_,_,_,hr=>by simp only[aR]at hr;exact hr.elim
 | .a7 _ _::p,_,.unit,_,_,_,_,_,_,_,hr=>by simp only[aR]at hr;exact hr.elim
 | .a7 _ _::p,_,.pair _ _,_,_,_,_,_,_,_,hr=>by simp only[aR]at hr;exact hr.elim
 | .a7 _ _::p,_,.slice _ _,_,_,_,_,_,_,_,hr=>by simp only[aR]at hr;exact hr.elim
 | .idx _ _::p,_,.int _,_,_,_,_,_,_,_,hr=>by simp only[aR]at hr;exact hr.elim
 | .idx _ _::p,_,.bool,_,_,_,_,_,_,_,hr=>by simp only[aR]at hr;exact hr.elim
 | .idx _ _::p,_,.str,_,_,_,_,_,_,_,hr=>by simp only[aR]at hr;exact hr.elim
 | .idx _ _::p,_,.raw _,_,_,_,_,_,_,_,hr=>by simp only[aR]at hr;exact hr.elim
 | .idx _ _::p,_,.cap _ _,_,_,_,_,_,_,_,hr=>by simp only[aR]at hr;exact hr.elim
 | .idx _ _::p,_,.unit,_,_,_,_,_,_,_,hr=>by simp only[aR]at hr;exact hr.elim
 | .idx _ _::p,_,.pair _ _,_,_,_,_,_,_,_,hr=>by simp only[aR]at hr;exact hr.elim
 | .idx _ _::p,_,.agg _,_,_,_,_,_,_,_,hr=>by simp only[aR]at hr;exact hr.elim
theorem aay{f:(t1:Ty)->t1.den->M t1.den}{fK g':Nat}{e':TypeId}
  (hu:Cq w w' L L' S S' s q' o' fK g' cur cur' e') :
  {i:Nat}->{t:Ty}->{x x2:t.den}->{o1:Nat}->{t1:Ty}->{x1:t1.den}->{n:Nat}->{q:List Nat}->{o:Nat}->{cs cN:List Value}->{log:List Nat} ->
  comp i t x=some (o1,⟨t1,x1⟩)->(iZ i t x f).ai T x2 log->Own w L S s n t x q o cs->Reach q (o+o1) t1.sz q' o' fK ->
  cN.length=cs.length->(∀j,(j<o1\/o1+t1.sz<=j)->cN[j]?=cs[j]?) ->
  (∀y1 eW,(f t1 x1).ai T y1 eW->Own w' L' S' s n t1 y1 q (o+o1) ((cN.drop o1).take t1.sz))->Own w' L' S' s n t x2 q o cN
 | 0,.pair a b,x,x2,o1,t1,x1,n,q,o,cs,cN,log,hc,hm,h,hr,hl,hj,hf=>by
  simp only[comp,Option.some.injEq,Prod.mk.injEq]at hc;obtain⟨rfl,hc⟩:=hc;cases hc;obtain⟨y,l1,l2,rfl,lh,iu⟩:=M.aq hm;obtain⟨rfl,_⟩:=iu;simp only[Own]at h ⊢;obtain⟨c0,c1,rfl,h0,h1⟩:=h;have kl:=Own.len h0;have X1:=Own.len h1;refine⟨cN.take a.sz,cN.drop a.sz,(List.take_append_drop _ _).symm,by simpa using hf _ _ lh,?_⟩;have he:cN.drop a.sz=c1:=by
   apply List.ext_getElem?;intro i;rw[List.getElem?_drop,hj _ (.inr (by omega)),List.getElem?_append_right (by omega)];congr 1;omega
  rw[he];exact Own.tW hu hr (.inr (by simp)) h1
 | i+1,.pair a b,x,x2,o1,t1,x1,n,q,o,cs,cN,log,hc,hm,h,hr,hl,hj,hf=>by
  simp only[comp,Option.map_eq_some_iff]at hc;obtain⟨⟨o2,t2,x2'⟩,hc,he⟩:=hc;simp only[Prod.mk.injEq]at he;obtain⟨rfl,he⟩:=he;cases he;obtain⟨y,l1,l2,rfl,lh,iu⟩:=M.aq hm;obtain⟨rfl,_⟩:=iu;simp only[Own]at h ⊢;obtain⟨c0,c1,rfl,h0,h1⟩:=h;have kl:=Own.len h0;have X1:=Own.len h1;have h2:=Jo hc;refine⟨cN.take a.sz,cN.drop a.sz,(List.take_append_drop _ _).symm,?_,?_⟩
  ·have he:cN.take a.sz=c0:=by
    apply List.ext_getElem?;intro i;rw[List.getElem?_take];split
    ·rw[hj _ (.inl (by omega)),List.getElem?_append_left (by omega)]
    ·rw[List.getElem?_eq_none (by omega)]
   rw[he];exact Own.tW hu hr (.inl (by omega)) h0
  ·refine aay hu (o:=o+a.sz) hc lh h1 (by rw[Nat.add_assoc];exact hr) (by simp[hl]at hl ⊢;omega) (λj hjj=>?_) (λy1 eW hy=>?_)
   ·rw[List.getElem?_drop,hj _ (by omega),List.getElem?_append_right (by omega)];congr 1;omega
   ·rw[Nat.add_assoc,List.drop_drop];exact hf y1 eW hy
 | 0,.int _,x,x2,o1,t1,x1,n,q,o,cs,cN,log,hc,hm,h,hr,hl,hj,hf=>by
  simp only[comp,Option.some.injEq,Prod.mk.injEq]at hc;obtain⟨rfl,hc⟩:=hc;cases hc;have:=hf _ _ hm;rw[List.drop_zero,List.take_of_length_le (by rw[hl,Own.len h];exact Nat.le_refl _)]at this;exact this
 | 0,.bool,x,x2,o1,t1,x1,n,q,o,cs,cN,log,hc,hm,h,hr,hl,hj,hf=>by
  simp only[comp,Option.some.injEq,Prod.mk.injEq]at hc;obtain⟨rfl,hc⟩:=hc;cases hc;have:=hf _ _ hm;rw[List.drop_zero,List.take_of_length_le (by rw[hl,Own.len h];exact Nat.le_refl _)]at this;exact this
 | 0,.str,x,x2,o1,t1,x1,n,q,o,cs,cN,log,hc,hm,h,hr,hl,hj,hf=>by
  simp only[comp,Option.some.injEq,Prod.mk.injEq]at hc;obtain⟨rfl,hc⟩:=hc;cases hc;have:=hf _ _ hm;rw[List.drop_zero,List.take_of_length_le (by rw[hl,Own.len h];exact Nat.le_refl _)]at this;exact this
 | 0,.raw _,x,x2,o1,t1,x1,n,q,o,cs,cN,log,hc,hm,h,hr,hl,hj,hf=>by
  simp only[comp,Option.some.injEq,Prod.mk.injEq]at hc;obtain⟨rfl,hc⟩:=hc;cases hc;have:=hf _ _ hm;rw[List.drop_zero,List.take_of_length_le (by rw[hl,Own.len h];exact Nat.le_refl _)]at this;exact this
 | 0,.cap _ _,x,x2,o1,t1,x1,n,q,o,cs,cN,log,hc,hm,h,hr,hl,hj,hf=>by
  simp only[comp,Option.some.injEq,Prod.mk.injEq]at hc;obtain⟨rfl,hc⟩:=hc;cases hc;have:=hf _ _ hm;rw[List.drop_zero,List.take_of_length_le (by rw[hl,Own.len h];exact Nat.le_refl _)]at this;exact this
 | 0,.unit,x,x2,o1,t1,x1,n,q,o,cs,cN,log,hc,hm,h,hr,hl,hj,hf=>by
  simp only[comp,Option.some.injEq,Prod.mk.injEq]at hc;obtain⟨rfl,hc⟩:=hc;cases hc;have:=hf _ _ hm;rw[List.drop_zero,List.take_of_length_le (by rw[hl,Own.len h];exact Nat.le_refl _)]at this;exact this
 | 0,.agg _,x,x2,o1,t1,x1,n,q,o,cs,cN,log,hc,hm,h,hr,hl,hj,hf=>by
  simp only[comp,Option.some.injEq,Prod.mk.injEq]at hc;obtain⟨rfl,hc⟩:=hc;cases hc;have:=hf _ _ hm;rw[List.drop_zero,List.take_of_length_le (by rw[hl,Own.len h];exact Nat.le_refl _)]at this;exact this
 | 0,.slice _ _,x,x2,o1,t1,x1,n,q,o,cs,cN,log,hc,hm,h,hr,hl,hj,hf=>by
  simp only[comp,Option.some.injEq,Prod.mk.injEq]at hc;obtain⟨rfl,hc⟩:=hc;cases hc;have:=hf _ _ hm;rw[List.drop_zero,List.take_of_length_le (by rw[hl,Own.len h];exact Nat.le_refl _)]at this;exact this
theorem Jn:{i:Nat}->{t:Ty}->{x:t.den}->{o1:Nat}->{t1:Ty}->bB i t=some (o1,t1)->∃x1,comp i t x=some (o1,⟨t1,x1⟩)
 | 0,.pair a b,x,o1,t1,h=>by simp only[bB,Option.some.injEq,Prod.mk.injEq]at h;obtain⟨rfl,rfl⟩:=h;exact⟨x.1,rfl⟩
 | i+1,.pair a b,x,o1,t1,h=>by
  simp only[bB,Option.map_eq_some_iff]at h;obtain⟨⟨o2,t2⟩,h,he⟩:=h;simp only[Prod.mk.injEq]at he;obtain⟨rfl,rfl⟩:=he;obtain⟨x1,hx⟩:=Jn (x:=x.2) h;exact⟨x1,by simp[comp,hx]⟩
 | 0,.int _,x,_,_,h=>by simp only[bB,Option.some.injEq,Prod.mk.injEq]at h;obtain⟨rfl,rfl⟩:=h;exact⟨x,rfl⟩
 | 0,.bool,x,_,_,h=>by simp only[bB,Option.some.injEq,Prod.mk.injEq]at h;obtain⟨rfl,rfl⟩:=h;exact⟨x,rfl⟩
 | 0,.str,x,_,_,h=>by simp only[bB,Option.some.injEq,Prod.mk.injEq]at h;obtain⟨rfl,rfl⟩:=h;exact⟨x,rfl⟩
 | 0,.raw _,x,_,_,h=>by simp only[bB,Option.some.injEq,Prod.mk.injEq]at h;obtain⟨rfl,rfl⟩:=h;exact⟨x,rfl⟩
 | 0,.cap _ _,x,_,_,h=>by simp only[bB,Option.some.injEq,Prod.mk.injEq]at h;obtain⟨rfl,rfl⟩:=h;exact⟨x,rfl⟩
 | 0,.unit,x,_,_,h=>by simp only[bB,Option.some.injEq,Prod.mk.injEq]at h;obtain⟨rfl,rfl⟩:=h;exact⟨x,rfl⟩
 | 0,.agg _,x,_,_,h=>by simp only[bB,Option.some.injEq,Prod.mk.injEq]at h;obtain⟨rfl,rfl⟩:=h;exact⟨x,rfl⟩
 | 0,.slice _ _,x,_,_,h=>by simp only[bB,Option.some.injEq,Prod.mk.injEq]at h;obtain⟨rfl,rfl⟩:=h;exact⟨x,rfl⟩
theorem DH{g':Nat}{cur:Array Value}{e':TypeId}{n':Nat}{t':Ty}{x' y:t'.den}
  (hu:Cq w w' L L' S S' s q' o' t'.sz g' cur cur' e') (hy:Own w' L' S' s n' t' y q' o' ((cur'.toList.drop o').take t'.sz)) :
  {p:List St}->{n:Nat}->{t:Ty}->{x x2:t.den}->{q:List Nat}->{o:Nat}->{g1:Nat}->{cur1:Array Value}->{e1:TypeId}->{log log2:List Nat} ->
  node q o p=(q',o')->L g1 = .own s q->w.heap[g1]?=some (.cells cur1 e1 (0,0))->o+t.sz<=cur1.size->Own w L S s n t x q o ((cur1.toList.drop o).take t.sz) ->
  (aR p n t x).ai T ⟨n',t',x'⟩ log->(fo p t x t' y).ai T x2 log2 ->
  ∃ff,w'.heap[g1]?=some (.cells ff e1 (0,0))/\L' g1 = .own s q/\ff.size=cur1.size/\(∀i,(i<o\/o+t.sz<=i)->ff[i]?=cur1[i]?) /\
   Own w' L' S' s n t x2 q o ((ff.toList.drop o).take t.sz)
 | [],n,t,x,x2,q,o,g1,cur1,e1,log,log2,hn,o5,hh,bq,h,hr,hm=>by
  obtain⟨he,_⟩:=hr;cases he;simp only[node,Prod.mk.injEq]at hn;obtain⟨rfl,rfl⟩:=hn;simp only[fo,dif_pos]at hm;obtain⟨rfl,_⟩:=hm;obtain rfl:=hu.inj g1 o5;have e0:=hu.h0;rw[hh]at e0;injection e0 with e0;injection e0 with e0 e2 _;subst e0 e2;exact⟨cur',hu.h1,hu.hL',hu.bq,hu.wV,hy⟩
 | .a7 i off::p,n,.agg t,x,x2,q,o,g1,cur1,e1,log,log2,hn,o5,hh,bq,h,hr,hm=>by
  have axL:Reach q o (Ty.agg t).sz q' o' t'.sz:=by
   have:=sP (q:=q) (o:=o) hr
   rwa [hn]at this
  simp only[aR]at hr;simp only[fo]at hm;split at hr
  ·rename_i o1 t1 x1 hc;split at hr
   ·rename_i ho;subst ho;split at hm
    ·split at hm
     ·rename_i o2 t2 dL kn;subst kn;simp only[Own,Ty.sz]at h bq;simp only[node]at hn;have h1:=vV hc h;have hcx:bB i t=some (o2,t1):=by
       obtain⟨x9,KK⟩:=Jn (t:=t) (x:=x) dL;rw[hc]at KK;simp only[Option.some.injEq,Prod.mk.injEq]at KK;rw[dL];have:=congrArg Sigma.fst KK.2;simp at this;rw[this]
      have mz:Reach q (o+o2) t1.sz q' o' t'.sz:=by
       have:=sP (q:=q) (o:=o+o2) hr
       rwa [hn]at this
      have gm:((cur1.toList.drop (o+o2)).take t1.sz)=((((cur1.toList.drop o).take t.sz).drop o2).take t1.sz):=by
       rw[List.drop_take,List.take_take,List.drop_drop,Nat.min_eq_left (by omega)]
      have key:∀y1 eW,(fo p t1 x1 t' y).ai T y1 eW->_:=λy1 eW KL =>
       DH hu hy (p:=p) (q:=q) (o:=o+o2) (g1:=g1) (cur1:=cur1) (e1:=e1) hn o5 hh (by omega) (by rw[gm];exact h1.2) hr KL
      have aP:∃y1 eW,(fo p t1 x1 t' y).ai T y1 eW:=aaz hc hm;obtain⟨y1,eW,KL⟩:=aP;obtain⟨ff,k1,k2,k3,k4,k5⟩:=key y1 eW KL;refine⟨ff,k1,k2,k3,λi hi=>k4 i (by simp only[Ty.sz]at hi;omega),?_⟩;simp only[Own,Ty.sz];refine aay hu (cs:=(cur1.toList.drop o).take t.sz) hc hm h mz (by simp;omega) (λj hj=>?_) (λz1 fQ hz=>?_)
      ·rw[List.getElem?_take,List.getElem?_take];split
       ·rw[List.getElem?_drop,List.getElem?_drop];have:=k4 (o+j) (by omega);simpa using this
       ·rfl
      ·obtain⟨Cy,j1,j2,j3,j4,j5⟩:=key z1 fQ hz;rw[k1]at j1;injection j1 with j1;injection j1 with j1 _ _;subst j1;rw[List.drop_take,List.take_take,List.drop_drop,Nat.min_eq_left (by omega)];exact j5
     ·exact hm.elim
    ·exact hm.elim
   ·exact hr.elim
  ·exact hr.elim
 | .idx sz i::p,n+1,.slice e t,xs,x2,q,o,g1,cur1,e1,log,log2,hn,o5,hh,bq,h,hr,hm=>by
  simp only[aR]at hr;simp only[fo]at hm;split at hr
  ·rename_i hz;subst hz;obtain⟨y0,jB,hr⟩:=hr;simp only[if_true]at hm;obtain⟨y9,xe,hm⟩:=hm;obtain rfl:y0=y9:=by rw[jB]at xe;exact Option.some.inj xe
   obtain⟨z,l1,l2,rfl,lh,iu⟩:=M.aq hm;obtain⟨w9,qw,rfl,_⟩:=iu;injection qw with qw;subst qw;obtain⟨hi,h0,rfl⟩:=ma jB;simp only[node]at hn;have mz:Reach (q++[o]) (i.toNat*t.sz) t.sz q' o' t'.sz:=by
    have:=sP (q:=q++[o]) (o:=i.toNat*t.sz) hr
    rwa [hn]at this
   simp only[Own]at h;rcases h with⟨_,rfl⟩|⟨g2,cap,ff,dh,hL,hg,h5,h6,h7,h8⟩
   ·exact absurd hi (by simp)
   ·have hb:i.toNat*t.sz+t.sz<=ff.size:=by
     rw[h7]
     calc i.toNat*t.sz+t.sz=(i.toNat+1)*t.sz:=by rw[Nat.add_mul,Nat.one_mul]
      _<=cap*t.sz:=Nat.mul_le_mul_right _ (by omega)
    obtain⟨Cy,k1,k2,k3,k4,k5⟩:=DH hu hy (p:=p) (q:=q++[o]) (o:=i.toNat*t.sz) (g1:=g2) (cur1:=ff) (e1:=e) hn hL hg hb (h8 _ hi) hr lh;have hq:q≠q'/\¬kV q' o' t'.sz q:=by
     rcases mz with⟨hq,_⟩|⟨d,r,_,hq⟩
     ·subst hq;refine⟨λh=>?_,λ⟨d,r,_,h⟩=>?_⟩
      ·have:=congrArg List.length h;simp at this
      ·have:=congrArg List.length h;simp at this<;>omega
     ·subst hq;refine⟨λh=>?_,λ⟨d,r,_,h⟩=>?_⟩
      ·have:=congrArg List.length h;simp at this<;>omega
      ·have:=congrArg List.length h;simp at this<;>omega
    obtain⟨m1,m2⟩:=hu.hO g1 q o5 hq.1 hq.2;refine⟨cur1,by rw[m2];exact hh,by rw[m1];exact o5,rfl,λ_ _=>rfl,?_⟩;simp only[Own];refine .inr ⟨g2,cap,Cy,by rw[dh];simp,k2,k1,by simpa using h5,h6,by rw[k3];exact h7,λj hj=>?_⟩;simp only[List.length_set]at hj;by_cases cR:j=i.toNat
    ·subst cR;have:(xs.set i.toNat z)[i.toNat]'(by simpa using hi)=z:=List.getElem_set_self _;rw[this];exact k5
    ·have he:(xs.set i.toNat z)[j]'(by simpa using hj)=xs[j]:=List.getElem_set_ne (λe=>cR e.symm) _;rw[he];have hd:(j*t.sz+t.sz<=i.toNat*t.sz)\/(i.toNat*t.sz+t.sz<=j*t.sz):=by
      rcases Nat.lt_or_gt_of_ne cR with h|h
      ·left
       calc j*t.sz+t.sz=(j+1)*t.sz:=by rw[Nat.add_mul,Nat.one_mul]
        _<=i.toNat*t.sz:=Nat.mul_le_mul_right _ h
      ·right
       calc i.toNat*t.sz+t.sz=(i.toNat+1)*t.sz:=by rw[Nat.add_mul,Nat.one_mul]
        _<=j*t.sz:=Nat.mul_le_mul_right _ h
     rw[uc (cur:=ff) (λi' h1 h2=>k4 i' (by omega))];exact Own.tW hu mz (by omega) (h8 j hj)
  ·exact hr.elim
 | .idx _ _::p,0,.slice _ _,_,_,_,_,_,_,_,_,_,_,_,_,_,_,hr,_=>by simp only[aR]at hr;exact hr.elim
 | .a7 _ _::p,_,.int _,_,_,_,_,_,_,_,_,_,_,_,_,_,_,hr,_=>by simp only[aR]at hr;exact hr.elim
 | .a7 _ _::p,_,.bool,_,_,_,_,_,_,_,_,_,_,_,_,_,_,hr,_=>by simp only[aR]at hr;exact hr.elim
 | .a7 _ _::p,_,.str,_,_,_,_,_,_,_,_,_,_,_,_,_,_,hr,_=>by simp only[aR]at hr;exact hr.elim
 | .a7 _ _::p,_,.raw _,_,_,_,_,_,_,_,_,_,_,_,_,_,_,hr,_=>by simp only[aR]at hr;exact hr.elim
 | .a7 _ _::p,_,.cap _ _,_,_,_,_,_,_,_,_,_,_,_,_,_,_,hr,_=>by simp only[aR]at hr;exact hr.elim
 | .a7 _ _::p,_,.unit,_,_,_,_,_,_,_,_,_,_,_,_,_,_,hr,_=>by simp only[aR]at hr;exact hr.elim
 | .a7 _ _::p,_,.pair _ _,_,_,_,_,_,_,_,_,_,_,_,_,_,_,hr,_=>by simp only[aR]at hr;exact hr.elim
 | .a7 _ _::p,_,.slice _ _,_,_,_,_,_,_,_,_,_,_,_,_,_,_,hr,_=>by simp only[aR]at hr;exact hr.elim
 | .idx _ _::p,_,.int _,_,_,_,_,_,_,_,_,_,_,_,_,_,_,hr,_=>by simp only[aR]at hr;exact hr.elim
 | .idx _ _::p,_,.bool,_,_,_,_,_,_,_,_,_,_,_,_,_,_,hr,_=>by simp only[aR]at hr;exact hr.elim
 | .idx _ _::p,_,.str,_,_,_,_,_,_,_,_,_,_,_,_,_,_,hr,_=>by simp only[aR]at hr;exact hr.elim
 | .idx _ _::p,_,.raw _,_,_,_,_,_,_,_,_,_,_,_,_,_,_,hr,_=>by simp only[aR]at hr;exact hr.elim
 | .idx _ _::p,_,.cap _ _,_,_,_,_,_,_,_,_,_,_,_,_,_,_,hr,_=>by simp only[aR]at hr;exact hr.elim
 | .idx _ _::p,_,.unit,_,_,_,_,_,_,_,_,_,_,_,_,_,_,hr,_=>by simp only[aR]at hr;exact hr.elim
 | .idx _ _::p,_,.pair _ _,_,_,_,_,_,_,_,_,_,_,_,_,_,_,hr,_=>by simp only[aR]at hr;exact hr.elim
 | .idx _ _::p,_,.agg _,_,_,_,_,_,_,_,_,_,_,_,_,_,_,hr,_=>by simp only[aR]at hr;exact hr.elim
 where
 aaz {f:(t1:Ty)->t1.den->M t1.den}:{i:Nat}->{t:Ty}->{x x2:t.den}->{o1:Nat}->{t1:Ty}->{x1:t1.den}->{log:List Nat} ->
   comp i t x=some (o1,⟨t1,x1⟩)->(iZ i t x f).ai T x2 log->∃y1 eW,(f t1 x1).ai T y1 eW
  | 0,.pair a b,x,x2,o1,t1,x1,log,hc,hm=>by
   simp only[comp,Option.some.injEq,Prod.mk.injEq]at hc;obtain⟨rfl,hc⟩:=hc;cases hc;obtain⟨y,l1,l2,rfl,lh,iu⟩:=M.aq hm;exact⟨_,_,lh⟩
  | i+1,.pair a b,x,x2,o1,t1,x1,log,hc,hm=>by
   simp only[comp,Option.map_eq_some_iff]at hc;obtain⟨⟨o2,t2,x2'⟩,hc,he⟩:=hc;simp only[Prod.mk.injEq]at he;obtain⟨rfl,he⟩:=he;cases he;obtain⟨y,l1,l2,rfl,lh,iu⟩:=M.aq hm;exact aaz hc lh
  | 0,.int _,x,x2,o1,t1,x1,log,hc,hm=>by simp only[comp,Option.some.injEq,Prod.mk.injEq]at hc;obtain⟨rfl,hc⟩:=hc;cases hc;exact⟨_,_,hm⟩
  | 0,.bool,x,x2,o1,t1,x1,log,hc,hm=>by simp only[comp,Option.some.injEq,Prod.mk.injEq]at hc;obtain⟨rfl,hc⟩:=hc;cases hc;exact⟨_,_,hm⟩
  | 0,.str,x,x2,o1,t1,x1,log,hc,hm=>by simp only[comp,Option.some.injEq,Prod.mk.injEq]at hc;obtain⟨rfl,hc⟩:=hc;cases hc;exact⟨_,_,hm⟩
  | 0,.raw _,x,x2,o1,t1,x1,log,hc,hm=>by simp only[comp,Option.some.injEq,Prod.mk.injEq]at hc;obtain⟨rfl,hc⟩:=hc;cases hc;exact⟨_,_,hm⟩
  | 0,.cap _ _,x,x2,o1,t1,x1,log,hc,hm=>by simp only[comp,Option.some.injEq,Prod.mk.injEq]at hc;obtain⟨rfl,hc⟩:=hc;cases hc;exact⟨_,_,hm⟩
  | 0,.unit,x,x2,o1,t1,x1,log,hc,hm=>by simp only[comp,Option.some.injEq,Prod.mk.injEq]at hc;obtain⟨rfl,hc⟩:=hc;cases hc;exact⟨_,_,hm⟩
  | 0,.agg _,x,x2,o1,t1,x1,log,hc,hm=>by simp only[comp,Option.some.injEq,Prod.mk.injEq]at hc;obtain⟨rfl,hc⟩:=hc;cases hc;exact⟨_,_,hm⟩
  | 0,.slice _ _,x,x2,o1,t1,x1,log,hc,hm=>by simp only[comp,Option.some.injEq,Prod.mk.injEq]at hc;obtain⟨rfl,hc⟩:=hc;cases hc;exact⟨_,_,hm⟩
end
def Form:Ty->List Value->Value->Prop
 | .agg _,cs,c=>c = .agg cs.toArray
 | _,cs,c=>cs=[c]
def SL(L:Nat->aj)(l:Option Nat):Nat->Prop:=λk=>L k = .au\/∃r q,l=some r/\L k = .own r q
def Cv:Option (Nat×(t:Ty)×t.den)->Bool
 | some (n,⟨t,_⟩)=>n != 0&&t.depth != 0
 | none=>false
def V.aM:V->Bool
 | .d _ n t _=>n != 0&&t.depth != 0
 | .bF _=>true
 | .part .. =>true
 | .box .. =>true
 | .hole .. =>true
 | .bP .. =>true
 | _=>false
def V.deep:V->Bool
 | .d _ n t _=>n != 0&&t.depth != 0
 | .box _ n t _=>n != 0&&t.depth != 0
 | .bP .. =>true
 | _=>false
theorem V.fq:{v:V}->v.deep=true->v.aM=true
 | .d _ _ _ _,h=>h
 | .box _ _ _ _,_=>rfl
 | .bP _ _ _ _,_=>rfl
 | .dead,h | .bF _,h | .rp _ _ _,h | .ptr _ _ _,h | .view _ _ _,h | .hole _ _,h | .part _ _ _ _ _,h | .same _ _,h=>by simp[V.deep]at h
def V.dG:V->Bool
 | .d .. =>true
 | _=>false
def fe(w:World)(L:Nat->aj)(s:Nat):Nat->List (Nat×Option (Nat×(t:Ty)×t.den))->List Value->Prop
 | _,[],vs=>vs=[]
 | o,(sz,c)::l,vs=>∃v jg,vs=v::jg/\(∀n t x,c=some (n,⟨t,x⟩)->t.sz=sz/\∃cs,Form t cs v/\Own w L (SL L none) s n t x [] o cs)/\fe w L s (o+sz) l jg
def cd(w:World)(L:Nat->aj)(s:Nat):Nat->(t:Ty)->t.den->Nat->List Value->Prop
 | m,.pair a b,x,o,cs=>∃c0 c1,cs=c0++c1/\Own w L (SL L none) s (cond (m.testBit 0) a.depth 0) a x.1 [] o c0/\cd w L s (m / 2) b x.2 (o+a.sz) c1
 | m,t,x,o,cs=>Own w L (SL L none) s (cond (m.testBit 0) t.depth 0) t x [] o cs
def fM(w:World)(L:Nat->aj)(s:Nat):Nat->Nat->(t:Ty)->t.den->Value->Prop
 | 0,n,.pair (.int _) (.slice e t),x,c=>(c = .slice none 0 0/\x.2=[])\/∃g cap cur,c = .slice (some ⟨g,0,none⟩) (x.2:List t.den).length cap/\L g = .own s [0]/\w.heap[g]?=some (.cells cur e (0,0)) /\
   x.2.length<=cap/\cap<=maxLen/\cur.size=cap*t.sz/\∀(j:Nat) (h:j<x.2.length),x.1<=(j:Int)->Own w L (SL L none) s n t (x.2[j]) [0] (j*t.sz) ((cur.toList.drop (j*t.sz)).take t.sz)
 | 1,m,.agg t,x,c=>∃g cur e,c = .pointer (some ⟨g,0,none⟩)/\L g = .own s []/\w.heap[g]?=some (.cells cur e (0,0))/\cur.size=t.sz/\cd w L s m t x 0 cur.toList
 | _,_,_,_,_=>False
def aD(L:Nat->aj)(T:List V)(tm:Array Value)(s:Nat):V->World->Value->Prop
 | .dead,_,_=>True
 | .d l n t x,w,c=>(∀r,l=some r->(T.getD r .dead).deep=true)/\∃cs,Form t cs c/\Own w L (SL L l) s n t x [] 0 cs
 | .bF l,w,c=>∃vs,c = .tuple vs/\fe w L s 0 l vs.toList
 | .box l n t x,w,c=>(∀r,l=some r->(T.getD r .dead).deep=true)/\∃g cur e,c = .pointer (some ⟨g,0,none⟩)/\L g = .own s []/\w.heap[g]?=some (.cells cur e (0,0))/\cur.size=t.sz /\
   Own w L (SL L l) s n t x [] 0 cur.toList
 | .rp l t x,w,c=>(∀r,l=some r->(T.getD r .dead).deep=true)/\∃g o cs,c = .pointer (some ⟨g,o,none⟩)/\SL L l g/\Rd w (SL L l) t x cs/\∀i v,cs[i]?=some v->w.cell? ⟨g,o+i,none⟩=some v
 | .ptr r p t,_,c=>∃g,c = .pointer (some ⟨g,(node [] 0 p).2,none⟩)/\L g = .own r (node [] 0 p).1
 | .view r p t,w,c=>(T.getD r .dead).deep=true/\((p=[]/\c=tm.getD r undef/\∃l n x,T.getD r .dead = .d l n t x/\(V.d l n t x).aM=true) \/
   ∃g cur e,((T.getD r .dead).dG=false\/p≠[])/\L g = .own r (node [] 0 p).1/\w.heap[g]?=some (.cells cur e (0,0))/\(node [] 0 p).2+t.sz<=cur.size/\Form t ((cur.toList.drop (node [] 0 p).2).take t.sz) c)
 | .hole v p,w,c=>v.root=none/\∃g cur e,L g = .own s (node [] 0 p).1/\w.heap[g]?=some (.cells cur e (0,0))/\(node [] 0 p).2<cur.size /\
   aD L T tm s v (w.setCell ⟨g,(node [] 0 p).2,none⟩ (.slice none 0 0)) c
 | .bP k n t x,w,c=>fM w L s k n t x c
 | .same r t,_,c=>c=tm.getD r undef/\∃n k x,T.getD r .dead = .bP 0 n (.pair (.int k) t) x
 | .part r i n t x,w,_=>(T.getD r .dead).aM=true/\∃vs v cs,tm.getD r undef = .tuple vs/\vs[i]?=some v/\Form t cs v/\Own w L (SL L none) s n t x [] 0 cs
class af where
 ok:World->(Nat->aj)->Prop
 aT:∀{w w':World} {L L':Nat->aj},ok w L->(∀k,k<w.heap.size->(L k = .au\/L k = .other)->(L' k = .au\/L' k = .other)/\w'.heap[k]?=w.heap[k]?)->ok w' L'
structure Fr [af] (w0:World) (L0:Nat->aj) (w:World) (L:Nat->aj):Prop where
 os:w.os=w0.os
 tape:w.tape=w0.tape
 output:w.output=w0.output
 size:w0.heap.size<=w.heap.size
 drawn:w0.drawn<=w.drawn
 aT:∀k,k<w0.heap.size->(L0 k = .au\/L0 k = .other)->L k=L0 k/\w.heap[k]?=w0.heap[k]?
 ij:af.ok w0 L0
structure Inv [af] (w0:World) (L0:Nat->aj) (N:Nat) (vs:List Nat) (T:List V) (a:Act) (w:World) (L:Nat->aj):Prop where
 size:a.tmps.size=N
 len:T.length=N
 dR:a.defers=[]
 fr:Fr w0 L0 w L
 free:∀k,w.heap.size<=k->L k = .free
 inj:∀k k' s q,L k = .own s q->L k' = .own s q->k=k'
 owner:∀k s q,L k = .own s q->(T.getD s .dead).aM=true
 roots:∀s r,(T.getD s .dead).on r=true->r∈vs
 aY:∀s,aD L T a.tmps s (T.getD s .dead) w (a.tmps.getD s undef)
section
variable{w w' w0:World}{S S':Nat->Prop}{L L' L0:Nat->aj}{s N:Nat}{vs:List Nat}{T T':List V}{tm tm':Array Value}{a:Act}
theorem SL.aT(H:∀k,(L k = .au\/∃r q,L k = .own r q/\l=some r)->L' k=L k/\w'.heap[k]?=w.heap[k]?):
  ∀k,SL L l k->SL L' l k/\w'.heap[k]?=w.heap[k]?:=by
 rintro k (h|⟨r,q,hl,h⟩)
 ·have:=H k (.inl h);exact⟨.inl (this.1.trans h),this.2⟩
 ·have:=H k (.inr ⟨r,q,h,hl⟩);exact⟨.inr ⟨r,q,hl,this.1.trans h⟩,this.2⟩
theorem Own.aT[af]{t:Ty}{x:t.den}   
  (H:∀k,(L k = .au\/∃r q,L k = .own r q/\(r=s\/l=some r))->L' k=L k/\w'.heap[k]?=w.heap[k]?)
  (h:Own w L (SL L l) s n t x q o cs):Own w' L' (SL L' l) s n t x q o cs :=
 Own.move (SL.aT λk hk=>H k (hk.imp id λ⟨r,q,h,hl⟩=>⟨r,q,h,.inr hl⟩)) (λk d rest hd hk=>by
  have:=H k (.inr ⟨s,_,hk,.inl rfl⟩);exact⟨this.1.trans hk,this.2⟩) h
theorem aqL{w w':World}{k:Nat}(h:w'.heap[k]?=w.heap[k]?)(a:Addr)(u:Value):(w'.setCell a u).heap[k]?=(w.setCell a u).heap[k]?:=by
 simp only[World.setCell,Array.getElem?_modify];split
 ·rw[h]
 ·exact h
theorem fe.aT[af]:{l:List (Nat×Option (Nat×(t:Ty)×t.den))}->{o:Nat}->{vs:List Value} ->
  (∀k,(L k = .au\/∃q,L k = .own s q)->L' k=L k/\w'.heap[k]?=w.heap[k]?)->fe w L s o l vs->fe w' L' s o l vs
 | [],_,_,_,h=>h
 | (sz,c)::l,o,vs,H,⟨v,jg,h1,h2,h3⟩=>⟨v,jg,h1,λn t x hc=>by
   obtain⟨h4,cs,h5,h6⟩:=h2 n t x hc;exact⟨h4,cs,h5,Own.aT (λk hk=>H k (hk.imp id λ⟨r,q,h,hl⟩=>by
    rcases hl with rfl|hl
    ·exact⟨q,h⟩
    ·cases hl)) h6⟩,fe.aT H h3⟩
theorem cd.aT[af]{L L':Nat->aj}(H:∀k,(L k = .au\/∃q,L k = .own s q)->L' k=L k/\w'.heap[k]?=w.heap[k]?):{m:Nat}->{t:Ty}->{x:t.den}->{o:Nat}->{cs:List Value}->cd w L s m t x o cs->cd w' L' s m t x o cs:=by
 have HO:∀{n:Nat} {t:Ty} {x:t.den} {o:Nat} {cs:List Value},Own w L (SL L none) s n t x [] o cs->Own w' L' (SL L' none) s n t x [] o cs:=λho=>Own.aT (λk hk=>H k (hk.imp id λ⟨r,q,h1,hl⟩=>by
  rcases hl with rfl|hl
  ·exact⟨q,h1⟩
  ·cases hl)) ho
 intro m t;induction t generalizing m with
 | pair a b _ ih =>
  intro x o cs h;obtain⟨c0,c1,h1,h2,h3⟩:=h;exact⟨c0,c1,h1,HO h2,ih h3⟩
 | _=>intro x o cs h;simp only[cd]at h ⊢;exact HO h
theorem fM.aT[af]{k0:Nat}{t:Ty}{x:t.den}(H:∀k,(L k = .au\/∃q,L k = .own s q)->L' k=L k/\w'.heap[k]?=w.heap[k]?)(h:fM w L s k0 n t x c):fM w' L' s k0 n t x c:=by
 unfold fM at h ⊢;split at h
 ·rcases h with h|⟨g,cap,cur,h1,h2,h3,h4,h5,h6,h7⟩
  ·exact .inl h
  ·have hh:=H g (.inr ⟨_,h2⟩);exact .inr ⟨g,cap,cur,h1,hh.1.trans h2,hh.2.trans h3,h4,h5,h6,λj hj hx=>Own.aT (λk hk=>H k (hk.imp id λ⟨r,q,h,hl⟩=>by
    rcases hl with rfl|hl
    ·exact⟨q,h⟩
    ·cases hl)) (h7 j hj hx)⟩
 ·obtain⟨g,cur,e,h1,h2,h3,h4,h5⟩:=h;have hh:=H g (.inr ⟨_,h2⟩);exact⟨g,cur,e,h1,hh.1.trans h2,hh.2.trans h3,h4,cd.aT H h5⟩
 ·exact h.elim
theorem aD.aT[af]:{v:V}->{c:Value}->{w w':World} ->
  (∀k,(L k = .au\/∃r q,L k = .own r q/\(r=s\/v.on r=true))->L' k=L k/\w'.heap[k]?=w.heap[k]?) ->
  (hr:∀r,v.on r=true->(T.getD r .dead).aM=true->T'.getD r .dead=T.getD r .dead/\tm'.getD r undef=tm.getD r undef) ->
  aD L T tm s v w c->aD L' T' tm' s v w' c
 | .dead,_,_,_,_,_,_=>trivial
 | .d l n t x,_,_,_,H,hr,⟨h0,cs,h1,h2⟩=>⟨λr hl=>by subst hl;have:=h0 r rfl;rwa [(hr r (by simp[V.on,V.root]) (V.fq this)).1],cs,h1,Own.aT (λk hk=>H k (hk.imp id λ⟨r,q,h,hl⟩=>⟨r,q,h,hl.imp id λe=>by subst e;simp[V.on,V.root]⟩)) h2⟩
 | .bF l,_,_,_,H,_,⟨vs,h1,h2⟩=>⟨vs,h1,fe.aT (λk hk=>H k (hk.imp id λ⟨q,h⟩=>⟨s,q,h,.inl rfl⟩)) h2⟩
 | .box l n t x,_,_,_,H,hr,⟨h0,g,cur,e,h1,h2,h3,h4,h5⟩=>by
  have hh:=H g (.inr ⟨s,_,h2,.inl rfl⟩);exact⟨λr hl=>by subst hl;have:=h0 r rfl;rwa [(hr r (by simp[V.on,V.root]) (V.fq this)).1],g,cur,e,h1,hh.1.trans h2,hh.2.trans h3,h4,Own.aT (λk hk=>H k (hk.imp id λ⟨r,q,h,hl⟩=>⟨r,q,h,hl.imp id λe=>by subst e;simp[V.on,V.root]⟩)) h5⟩
 | .rp l t x,_,_,_,H,hr,⟨h0,g,o,cs,h1,h2,h3,h4⟩=>by
  have HS:∀k,SL L l k->SL L' l k/\_:=SL.aT (λk hk=>H k (hk.imp id λ⟨r,q,h,hl⟩=>⟨r,q,h,.inr (by subst hl;simp[V.on,V.root])⟩));have hh:=HS g h2;refine⟨λr hl=>by subst hl;have:=h0 r rfl;rwa [(hr r (by simp[V.on,V.root]) (V.fq this)).1],g,o,cs,h1,hh.1,Rd.move HS h3,λi v hv=>?_⟩;rw[World.cell?_of_block hh.2];exact h4 i v hv
 | .ptr r p t,_,_,_,H,_,⟨g,h1,h2⟩=>⟨g,h1,(H g (.inr ⟨r,_,h2,.inr (by simp[V.on,V.root])⟩)).1.trans h2⟩
 | .view r p t,_,_,_,H,hr,⟨cF,h⟩=>by
  have C8:=hr r (by simp[V.on,V.root]) (V.fq cF);refine⟨by rw[C8.1];exact cF,?_⟩;rcases h with⟨h1,h2,l,n,x,h3,h4⟩|⟨g,cur,e,hp,h1,h2,h3,h4⟩
  ·exact .inl ⟨h1,h2.trans C8.2.symm,l,n,x,C8.1.trans h3,h4⟩
  ·have hh:=H g (.inr ⟨r,_,h1,.inr (by simp[V.on,V.root])⟩);exact .inr ⟨g,cur,e,by rw[C8.1];exact hp,hh.1.trans h1,hh.2.trans h2,h3,h4⟩
 | .hole v p,c,_,_,H,hr,⟨h0,g,cur,e,h1,h2,h3,h4⟩=>by
  have hh:=H g (.inr ⟨s,_,h1,.inl rfl⟩);refine⟨h0,g,cur,e,hh.1.trans h1,hh.2.trans h2,h3,?_⟩;refine aD.aT (v:=v) (λk hk=>?_) (λr aZ ho=>hr r (by simpa[V.on,V.root]using aZ) ho) h4;have:=H k (hk.imp id λ⟨r,q,h,hl⟩=>⟨r,q,h,hl.imp id λe=>by simpa[V.on,V.root]using e⟩);exact⟨this.1,aqL this.2 _ _⟩
 | .bP _ _ _ _,_,_,_,H,_,h=>fM.aT (λk hk=>H k (hk.imp id λ⟨q,h⟩=>⟨s,q,h,.inl rfl⟩)) h
 | .same r t,_,_,_,H,hr,⟨h1,n,k,x,h2⟩=>by
  have hh:=hr r (by simp[V.on,V.root]) (by rw[h2];rfl);exact⟨h1.trans hh.2.symm,n,k,x,hh.1.trans h2⟩
 | .part r i n t x,c,_,_,H,hr,⟨h0,vs,v,cs,h1,h2,h3,h4⟩=>by
  have hh:=hr r (by simp[V.on,V.root]) h0;refine⟨by rw[hh.1];exact h0,vs,v,cs,by rw[hh.2];exact h1,h2,h3,Own.aT (λk hk=>H k (hk.imp id λ⟨r',q,h,hl⟩=>⟨r',q,h,?_⟩)) h4⟩;rcases hl with rfl|hl
  ·exact .inl rfl
  ·cases hl
theorem Inv.upd[af]{a a':Act}(X:Nat->Prop)(hI:Inv w0 L0 N vs T a w L)
  (bq:a'.tmps.size=N) (hlen:T'.length=N) (J7:a'.defers=[]) (gd:Fr w0 L0 w' L') (al7:∀k,w'.heap.size<=k->L' k = .free)
  (amm:∀k k' s q,L' k = .own s q->L' k' = .own s q->k=k') (bz:∀k s q,L' k = .own s q->(T'.getD s .dead).aM=true)
  (tf:∀s,¬X s->∀k,(L k = .au\/∃r q,L k = .own r q/\(r=s\/(T.getD s .dead).on r=true))->L' k=L k/\w'.heap[k]?=w.heap[k]?)
  (fP:∀s,¬X s->T'.getD s .dead=T.getD s .dead/\a'.tmps.getD s undef=a.tmps.getD s undef)
  (Kv:∀s r,(T'.getD s .dead).on r=true->r∈vs)
  (nP:∀s r,¬X s->(T.getD s .dead).on r=true->(T.getD r .dead).aM=true->T'.getD r .dead=T.getD r .dead/\a'.tmps.getD r undef=a.tmps.getD r undef)
  (hX:∀s,X s->aD L' T' a'.tmps s (T'.getD s .dead) w' (a'.tmps.getD s undef)):Inv w0 L0 N vs T' a' w' L':=by
 refine⟨bq,hlen,J7,gd,al7,amm,bz,Kv,λs=>?_⟩;by_cases hs:X s
 ·exact hX s hs
 ·obtain⟨h1,h2⟩:=fP s hs;rw[h1,h2];exact aD.aT (tf s hs) (λr hr ho=>nP s r hs hr ho) (hI.aY s)
end
section
variable{w w' w0:World}{S S':Nat->Prop}{L L' L0:Nat->aj}{s N:Nat}{vs:List Nat}{T T':List V}{tm tm':Array Value}{a:Act}
def V.idle(v:V):Bool := !v.aM
theorem V.kG{v:V}(h:v.idle=true):v.aM=false:=by simpa[V.idle]using h
theorem di[af]{T:List V}{r:Nat}(hid:(T.getD d .dead).idle=true)(h:(T.getD r .dead).aM=true):r≠d:=by
 rintro rfl
 rw[V.kG hid]at h;cases h
theorem aH(l:List α)(d:Nat)(v z:α)(s:Nat):(l.set d v).getD s z=if s=d/\d<l.length then v else l.getD s z:=by
 simp only[List.getD_eq_getElem?_getD,List.getElem?_set];by_cases h:d=s
 ·subst h;by_cases h2:d<l.length
  ·simp[h2]
  ·simp[h2]
 ·simp[h,Ne.symm h]
theorem ed(l:Array Value)(d:Nat)(v z:Value)(s:Nat):(l.setIfInBounds d v).getD s z=if s=d/\d<l.size then v else l.getD s z:=by
 simp only[Array.getD_eq_getD_getElem?,Array.getElem?_setIfInBounds];by_cases h:d=s
 ·subst h;by_cases h2:d<l.size
  ·simp[h2]
  ·simp[h2]
 ·simp[h,Ne.symm h]
structure ew (w w':World) (L L':Nat->aj) (d:Nat):Prop where
 os:w'.os=w.os
 tape:w'.tape=w.tape
 output:w'.output=w.output
 size:w.heap.size<=w'.heap.size
 drawn:w.drawn<=w'.drawn
 old:∀k,k<w.heap.size->L' k=L k/\w'.heap[k]?=w.heap[k]?
 new:∀k s q,w.heap.size<=k->L' k = .own s q->s=d
 inj:∀k k' q,w.heap.size<=k->w.heap.size<=k'->L' k = .own d q->L' k' = .own d q->k=k'
 free:∀k,w'.heap.size<=k->L' k = .free
theorem ew.refl[af](hI:Inv w0 L0 N vs T a w L)(d:Nat):ew w w L L d :=
 ⟨rfl,rfl,rfl,Nat.le_refl _,Nat.le_refl _,λ_ _=>⟨rfl,rfl⟩,λk s q hk h=>(by rw[hI.free k hk]at h;cases h),λk k' q hk _ h _=>(by rw[hI.free k hk]at h;cases h),hI.free⟩
theorem Inv.lt[af](hI:Inv w0 L0 N vs T a w L){k:Nat}(h:L k ≠ .free):k<w.heap.size:=Nat.lt_of_not_le λhk=>h (hI.free k hk)
theorem Inv.set[af](hI:Inv w0 L0 N vs T a w L)(hd:d<N)(hid:(T.getD d .dead).idle=true)(hg:ew w w' L L' d)(v:V)(c:Value)
  (hv:∀k q,w.heap.size<=k->L' k = .own d q->v.aM=true) (bf:∀r,v.on r=true->r∈vs)
  (hr:aD L' (T.set d v) (a.tmps.setIfInBounds d c) d v w' c):Inv w0 L0 N vs (T.set d v) (a.put (some d) c) w' L':=by
 have cB:(T.getD d .dead).aM=false:=V.kG hid;have gu:∀k q,L k ≠ .own d q:=λk q h=>by
  have:=hI.owner k d q h;rw[cB]at this;cases this
 refine Inv.upd (λs=>s=d) hI ?_ ?_ ?_ ?_ hg.free ?_ ?_ ?_ ?_ ?_ ?_ ?_
 ·simp[Act.put,hI.size]
 ·simp[hI.len]
 ·exact hI.dR
 ·refine⟨hg.os.trans hI.fr.os,hg.tape.trans hI.fr.tape,hg.output.trans hI.fr.output,Nat.le_trans hI.fr.size hg.size,Nat.le_trans hI.fr.drawn hg.drawn,λk hk h0=>?_,hI.fr.ij⟩;have h1:=hI.fr.aT k hk h0;have h2:=hg.old k (Nat.lt_of_lt_of_le hk hI.fr.size);exact⟨h2.1.trans h1.1,h2.2.trans h1.2⟩
 ·intro k k' s q h h';by_cases hk:k<w.heap.size
  ·by_cases aI:k'<w.heap.size
   ·rw[(hg.old k hk).1]at h;rw[(hg.old k' aI).1]at h';exact hI.inj k k' s q h h'
   ·obtain rfl:=hg.new k' s q (by omega) h';rw[(hg.old k hk).1]at h;exact absurd h (gu k q)
  ·obtain rfl:=hg.new k s q (by omega) h;by_cases aI:k'<w.heap.size
   ·rw[(hg.old k' aI).1]at h';exact absurd h' (gu k' q)
   ·exact hg.inj k k' q (by omega) (by omega) h h'
 ·intro k s q h;rw[aH];by_cases hk:k<w.heap.size
  ·rw[(hg.old k hk).1]at h;have:=hI.owner k s q h;by_cases hs:s=d
   ·subst hs;exact absurd h (gu k q)
   ·rw[if_neg (λh=>hs h.1)];exact this
  ·obtain rfl:=hg.new k s q (by omega) h;rw[if_pos ⟨rfl,by rw[hI.len];exact hd⟩];exact hv k q (by omega) h
 ·intro s hs k hk;refine hg.old k (hI.lt ?_);rcases hk with hk|⟨r,q,hk,_⟩<;>rw[hk]<;>simp
 ·intro s hs;rw[aH,if_neg (λh=>hs h.1)];refine⟨rfl,?_⟩;show (a.tmps.setIfInBounds d c).getD s undef=_;rw[ed,if_neg (λh=>hs h.1)]
 ·intro s r h;rw[aH]at h;split at h
  ·exact bf r h
  ·exact hI.roots s r h
 ·intro s r hs hr ho;have bC:r≠d:=di hid ho;rw[aH,if_neg (λh=>bC h.1)];refine⟨rfl,?_⟩;show (a.tmps.setIfInBounds d c).getD r undef=_;rw[ed,if_neg (λh=>bC h.1)]
 ·rintro s rfl
  rw[aH,if_pos ⟨rfl,by rw[hI.len];exact hd⟩];show aD L' (T.set s v) (a.tmps.setIfInBounds s c) s v w' ((a.tmps.setIfInBounds s c).getD s undef);rw[ed,if_pos ⟨rfl,by rw[hI.size];exact hd⟩];exact hr
theorem Inv.kill[af](hI:Inv w0 L0 N vs T a w L)(g:Nat->Bool)(hlen:T'.length=N)(hT:∀s,T'.getD s .dead=if g s=true then .dead else T.getD s .dead)
  (hc:∀s r,g s=false->(T.getD s .dead).on r=true->(T.getD r .dead).aM=true->g r=false) :
  Inv w0 L0 N vs T' a w (λk=>match L k with | .own s q=>if g s=true then .other else .own s q|x=>x):=by
 have bz:∀k s q,(match L k with | .own s q=>if g s=true then aj.other else .own s q|x=>x) = .own s q->L k = .own s q/\g s=false:=by
  intro k s q h;split at h
  ·split at h
   ·cases h
   ·rename_i s' q' hk hg;injection h with h1 h2;subst h1 h2;exact⟨hk,by simpa using hg⟩
  ·rename_i hk;exact absurd h (hk s q)
 refine Inv.upd (λs=>g s=true) hI hI.size hlen hI.dR ?_ ?_ ?_ ?_ ?_ ?_ ?_ ?_ ?_
 ·refine⟨hI.fr.os,hI.fr.tape,hI.fr.output,hI.fr.size,hI.fr.drawn,λk hk h0=>?_,hI.fr.ij⟩;have h1:=hI.fr.aT k hk h0;refine⟨?_,h1.2⟩;rcases h0 with h0|h0<;>simp[h1.1,h0]
 ·intro k hk;simp[hI.free k hk]
 ·intro k k' s q h h';exact hI.inj k k' s q (bz k s q h).1 (bz k' s q h').1
 ·intro k s q h;obtain⟨h1,h2⟩:=bz k s q h;rw[hT,h2];simpa using hI.owner k s q h1
 ·intro s hs k hk;refine⟨?_,rfl⟩;rcases hk with hk|⟨r,q,hk,hr⟩
  ·simp[hk]
  ·have hg:g r=false:=by
    rcases hr with rfl|hr
    ·simpa using hs
    ·exact hc s r (by simpa using hs) hr (hI.owner k r q hk)
   simp[hk,hg]
 ·intro s hs;rw[hT,if_neg hs];exact⟨rfl,rfl⟩
 ·intro s r h;rw[hT]at h;split at h
  ·simp[V.on,V.root]at h
  ·exact hI.roots s r h
 ·intro s r hs hr ho;have:=hc s r (by simpa using hs) hr ho;rw[hT,this];exact⟨by simp,rfl⟩
 ·intro s hs;rw[hT,if_pos hs];trivial
end
structure Ctx where
 ty:TypeId->Option Ty
 bytes:TypeId->Nat
def Ty.isAgg:Ty->Bool
 | .agg _=>true
 | _=>false
def Ty.eN:Ty->Bool
 | .pair .unit _=>true
 | _=>false
def JG(C:Ctx)(t:Ty)(fs:Array Field):Prop :=
 (∀ (i : Nat) (f : Field), fs[i]? = some f -> ∃ t1, bB i t = some (f.offset, t1) /\ C.ty f.type = some t1 /\ t1.sz ≠ 0 /\ f.name ≠ "_") /\ ∀ i r, bB i t = some r -> i < fs.size
def MP(P:Program)(C:Ctx)(T:TypeId)(t:Ty):Prop :=
 ∃n e te,P.underlying T=some (.array n e)/\C.ty e=some te/\te.isAgg=false/\2<=n/\(∀k,k<n->bB (k+1) t=some (k*te.sz,te))/\∀k r,bB (k+1) t=some r->k<n
structure jk (P:Program) (C:Ctx) (T:TypeId) (t:Ty):Prop where
 info:∃i z,P.info? T=some i/\i.size=t.sz/\i.bytes=C.bytes T/\i.zero=some z/\Form t t.cu z
 b7:match t with
  | .int k=>P.underlying T=some (.int k)
  | .bool=>P.underlying T=some .bool
  | .str=>P.underlying T=some .string
  | .raw _=>∃d,P.underlying T=some d/\(∀fs,d ≠ .struct fs)/\∀n e,d ≠ .array n e
  | .agg t'=>(t'.eN=false/\(∃fs,P.underlying T=some (.struct fs)/\JG C t' fs)/\P.stoodInHeld T=false/\P.eqGuardType P.depth T=false)\/(t'.eN=true/\MP P C T t')
  | .slice e t'=>P.underlying T=some (.slice e)/\C.ty e=some t'
  | _=>False
def bD(P:Program)(C:Ctx):Prop:=∀T t,C.ty T=some t->jk P C T t
section
variable{P:Program}{C:Ctx}{w w' w0:World}{S S':Nat->Prop}{L L' L0:Nat->aj}{s N:Nat}{vs:List Nat}{T T':List V}{tm tm':Array Value}{a:Act}
theorem jk.str{t:Ty}(h:jk P C X (.agg t))(hn:t.eN=false):(∃fs,P.underlying X=some (.struct fs)/\JG C t fs)/\P.stoodInHeld X=false/\P.eqGuardType P.depth X=false:=by
 rcases h.b7 with h|⟨h,_⟩
 ·exact h.2
 ·rw[hn]at h;cases h
theorem jk.DZ{t:Ty}(h:jk P C X t):(isAgg X).run P w = .ok t.isAgg w:=by
 have:=h.b7;unfold isAgg;cases t with
 | int k=>simp[run_underlying this,Ty.isAgg]
 | bool=>simp[run_underlying this,Ty.isAgg]
 | str=>simp[run_underlying this,Ty.isAgg]
 | raw z =>
  obtain⟨d,h1,h2,h3⟩:=this;simp only[Sem.run_bind,run_underlying h1,Result.andThen_ok];cases d<;>simp_all [Ty.isAgg]
 | unit=>exact this.elim
 | cap k t=>exact this.elim
 | pair a b=>exact this.elim
 | agg t =>
  rcases this with⟨_,⟨fs,h1,_⟩,_⟩|⟨_,n,e,te,h1,_⟩
  ·simp[run_underlying h1,Ty.isAgg]
  ·simp[run_underlying h1,Ty.isAgg]
 | slice e t=>simp[run_underlying this.1,Ty.isAgg]
theorem jk.run_sizeOf{t:Ty}(h:jk P C X t):(sizeOf X).run P w = .ok t.sz w:=by
 obtain⟨i,z,h1,h2,_⟩:=h.info;simp[sizeOf,Go.run_typeInfo w h1,h2]
theorem jk.oq{t:Ty}(h:jk P C X t)(ha:t.isAgg=false):t.sz=1:=by
 have:=h.b7;cases t<;>simp_all [Ty.sz,Ty.isAgg]
theorem Form.aaQ{t:Ty}(h:t.sz=1)(ha:t.isAgg=false)(hl:cs.length=t.sz):∃c,cs=[c]/\Form t cs c:=by
 rw[h]at hl
 match cs,hl with
 | [c],_=>exact⟨c,rfl,by cases t<;>simp_all [Form,Ty.isAgg]⟩
theorem jk.L5[af]{t:Ty}(h:jk P C X t){g o:Nat}(hl:cs.length=t.sz)
  (hc:∀(i:Nat) (v:Value),cs[i]?=some v->w.cell? ⟨g,o+i,none⟩=some v):∃c,(loadVar X ⟨g,o,none⟩).run P w = .ok c w/\Form t cs c:=by
 have hc':∀(j:Nat) (v:Value),cs[j]?=some v->w.cell? ((⟨g,o,none⟩:Addr).add j)=some v:=λj v hv=>by
  rw[Addr.add_lit];exact hc j v hv
 cases ha:t.isAgg with
 | true =>
  refine⟨.agg cs.toArray,?_,by cases t<;>simp_all [Form,Ty.isAgg]⟩;unfold loadVar;simp only[Sem.run_bind,h.DZ,Result.andThen_ok,ha,if_true,h.run_sizeOf];rw[<-hl,run_loadCells_list w _ cs hc'];rfl
 | false =>
  obtain⟨c,rfl,hf⟩:=Form.aaQ (h.oq ha) ha hl;refine⟨c,?_,hf⟩;unfold loadVar;have:=hc 0 c rfl;simp only[Nat.add_zero]at this;simp[h.DZ,ha,this]
theorem Jk{g:Nat}{e:TypeId}{fr:Nat×Nat}(h:w.heap[g]?=some (.cells cur e fr))(i:Nat):w.cell? ⟨g,i,none⟩=cur[i]?:=by
 simp[World.cell?,h]
theorem mX.cell[af]{g o sz:Nat}{e:TypeId}{fr:Nat×Nat}(h:w.heap[g]?=some (.cells cur e fr)):
  ∀(i:Nat) (v:Value),((cur.toList.drop o).take sz)[i]?=some v->w.cell? ⟨g,o+i,none⟩=some v:=λi v hv=>by
 rw[Jk h];rw[List.getElem?_take]at hv;split at hv
 ·simpa using hv
 ·cases hv
theorem Own.rd:{t:Ty}->{x:t.den}->{q:List Nat}->{o:Nat}->{cs:List Value}->(∀k q,L k = .own s q->S' k)->(∀k,S k->S' k)->Own w L S s n t x q o cs->Rd w S' t x cs :=
 λ{t x q o cs} H1 H2 h=>by
  have:=Own.freeze (w':=w) (L':=L) (S':=S') (m:=0) (Nat.zero_le _) (λk hk=>⟨H2 k hk,rfl⟩) (λk d rest _ hk=>⟨rfl,λh=>absurd h (by omega),λ_=>H1 k _ hk⟩) h;exact Own.eQ this
theorem Own.bA{t:Ty}{x:t.den}{n':Nat}{q':List Nat}{o' s':Nat}(hn:n=0\/t.depth=0)(h:Own w L S s n t x q o cs)(wS:n'=0\/t.depth=0):Own w L S s' n' t x q' o' cs:=by
 by_cases hd:t.depth=0
 ·exact Own.flat hd h
 ·obtain rfl:n=0:=by omega
  obtain rfl:n'=0:=by omega
  exact Own.dP (Own.eQ h)
theorem fe.slot[af]{s':Nat}:{l:List (Nat×Option (Nat×(t:Ty)×t.den))}->{o:Nat}->{vs:List Value}->(∀c∈l,Cv c.2=false) ->
  fe w L s o l vs->fe w L s' o l vs
 | [],_,_,_,h=>h
 | (sz,c)::l,o,vs,H,⟨v,jg,h1,h2,h3⟩=>⟨v,jg,h1,λn t x hc=>by
   obtain⟨h4,cs,h5,h6⟩:=h2 n t x hc;have:=H (sz,c) (by simp);rw[hc]at this;simp only[Cv,Bool.and_eq_false_iff,bne_eq_false_iff_eq]at this;exact⟨h4,cs,h5,Own.bA this h6 this⟩,fe.slot (λc hc=>H c (by simp[hc])) h3⟩
theorem aD.slot[af]{s':Nat}:{v:V}->{c:Value}->v.aM=false->aD L T tm s v w c->aD L T tm s' v w c
 | .dead,_,_,_=>trivial
 | .d l n t x,c,ho,⟨h0,cs,h1,h2⟩=>by
  have hn:n=0\/t.depth=0:=by
   simp only[V.aM,Bool.and_eq_false_iff,bne_eq_false_iff_eq]at ho;exact ho
  exact⟨h0,cs,h1,Own.bA hn h2 hn⟩
 | .bF _,_,ho,_=>by simp[V.aM]at ho
 | .box ..,_,ho,_=>by simp[V.aM]at ho
 | .rp ..,_,_,h=>h
 | .ptr ..,_,_,h=>h
 | .view ..,_,_,h=>h
 | .hole ..,_,ho,_=>by simp[V.aM]at ho
 | .part ..,_,ho,_=>by simp[V.aM]at ho
 | .bP ..,_,ho,_=>by simp[V.aM]at ho
 | .same ..,_,_,h=>h
theorem aD.copy[af](hI:Inv w0 L0 N vs T a w L){t:Nat}(hid:(T.getD d .dead).idle=true){v v':V}{w':World}{L':Nat->aj}(hg:ew w w' L L' d)
  (ho:v.aM=false) (h:aD L T a.tmps t v w c) (c':Value):aD L' (T.set d v') (a.tmps.setIfInBounds d c') d v w' c:=by
 refine aD.slot (s:=t) ho (aD.aT (λk hk=>hg.old k (hI.lt ?_)) (λr _ hq=>?_) h)
 ·rcases hk with hk|⟨r,q,hk,_⟩<;>rw[hk]<;>simp
 ·have bC:r≠d:=di hid hq;rw[aH,if_neg (λh=>bC h.1),ed,if_neg (λh=>bC h.1)];exact⟨rfl,rfl⟩
end
def Cw(C:Ctx)(X:TypeId):Value->M V
 | .int k n=>.ret (.d none 0 (.int k) n)
 | .bool b=>.ret (.d none 0 .bool b)
 | .string s=>.ret (.d none 0 .str s)
 | .pointer none=>.ret (.d none 0 (.raw 0) (.pointer none))
 | .nilFunc=>.ret (.d none 0 (.raw 1) .nilFunc)
 | .nilIface=>.ret (.d none 0 (.raw 2) .nilIface)
 | .slice none 0 0=>match C.ty X with
  | some (.slice e t)=>.ret (.d none (t.depth+1) (.slice e t) [])
  | _=>.fail
 | _=>.fail
def cK(C:Ctx)(X:TypeId):Operand->M V
 | .const c=>Cw C X c
 | .func f=>.ret (.d none 0 (.raw 1) (.func (.func f) #[] #[]))
 | .tmp t=>.get t .ret
 | .global _=>.fail
def Jr(t:Nat):V->M V
 | .d l n t' x=>if (n != 0&&t'.depth != 0)=true then .ret (.view t [] t')else .ret (.d l n t' x)
 | .box _ _ t' _=>.ret (.ptr t [] t')
 | .rp l t' x=>.ret (.rp l t' x)
 | .ptr r p t'=>.ret (.ptr r p t')
 | .view r p t'=>.ret (.view r p t')
 | _=>.fail
def qJ(C:Ctx)(X:TypeId):Operand->M V
 | .tmp t=>.get t (Jr t)
 | x=>cK C X x
def KQ(op:BinOp)(k:IntKind)(x y:Int):M V :=
 match op with
 | .add=>.ret (.d none 0 (.int k) (k.wrap (x+y)))
 | .sub=>.ret (.d none 0 (.int k) (k.wrap (x - y)))
 | .mul=>.ret (.d none 0 (.int k) (k.wrap (x*y)))
 | .quo=>.bn (y != 0) (.ret (.d none 0 (.int k) (k.wrap (x.tdiv y))))
 | .rem=>.bn (y != 0) (.ret (.d none 0 (.int k) (x.tmod y)))
 | .and=>.ret (.d none 0 (.int k) (k.wrap (BitVec.ofInt k.bits x &&& BitVec.ofInt k.bits y).toNat))
 | .or=>.ret (.d none 0 (.int k) (k.wrap (BitVec.ofInt k.bits x ||| BitVec.ofInt k.bits y).toNat))
 | .xor=>.ret (.d none 0 (.int k) (k.wrap (BitVec.ofInt k.bits x ^^^ BitVec.ofInt k.bits y).toNat))
 | .andNot=>.ret (.d none 0 (.int k) (k.wrap (BitVec.ofInt k.bits x &&& ~~~ BitVec.ofInt k.bits y).toNat))
 | .eql=>.ret (.d none 0 .bool (x==y))
 | .neq=>.ret (.d none 0 .bool (x != y))
 | .lss=>.ret (.d none 0 .bool (x<y))
 | .leq=>.ret (.d none 0 .bool (x<=y))
 | .gtr=>.ret (.d none 0 .bool (x>y))
 | .geq=>.ret (.d none 0 .bool (x>=y))
 | _=>.fail
def Ma(op:BinOp)(k:IntKind)(x y:Int):M V :=
 match op with
 | .shl=>.bn (decide (0<=y)) (.ret (.d none 0 (.int k) (k.wrap (x*2 ^ (min y.toNat k.bits)))))
 | .shr=>.bn (decide (0<=y)) (.ret (.d none 0 (.int k) (x.fdiv (2 ^ (min y.toNat k.bits)))))
 | _=>.fail
def YJ:BinOp->Bool
 | .shl | .shr=>true
 | _=>false
def Mp(op:BinOp)(x y:ByteArray):M V :=
 match op with
 | .add=>.bn (decide (x.size+y.size<=140737488355328)) (.ret (.d none 0 .str (x++y)))
 | .eql=>.ret (.d none 0 .bool (x.toList==y.toList))
 | .neq=>.ret (.d none 0 .bool (!(x.toList==y.toList)))
 | .lss=>.ret (.d none 0 .bool (Op.bytesLess x.toList y.toList))
 | .leq=>.ret (.d none 0 .bool (Op.bytesLess x.toList y.toList||x.toList==y.toList))
 | .gtr=>.ret (.d none 0 .bool (!(Op.bytesLess x.toList y.toList||x.toList==y.toList)))
 | .geq=>.ret (.d none 0 .bool (!Op.bytesLess x.toList y.toList))
 | _=>.fail
def MB(op:UnOp):V->M V
 | .d _ _ (.int k) x=>match op with
  | .neg=>.ret (.d none 0 (.int k) (k.wrap (0 - x)))
  | _=>.fail
 | .d _ _ .bool x=>match op with
  | .not=>.ret (.d none 0 .bool (!x))
  | _=>.fail
 | _=>.fail
section
variable{P:Program}{C:Ctx}{w w' w0:World}{S S':Nat->Prop}{L L' L0:Nat->aj}{s N:Nat}{vs:List Nat}{T T':List V}{tm tm':Array Value}{a:Act}
theorem aD.int{x:Int}{c:Value}(h:aD L T tm s (.d l n (.int k) x) w c):c = .int k x:=by
 obtain⟨_,cs,h1,h2⟩:=h;simp only[Own]at h2;subst h2;exact ((List.cons.inj h1).1).symm
theorem aD.bool{x:Bool}(h:aD L T tm s (.d l n .bool x) w c):c = .bool x:=by
 obtain⟨_,cs,h1,h2⟩:=h;simp only[Own]at h2;subst h2;exact ((List.cons.inj h1).1).symm
theorem aD.str{x:ByteArray}(h:aD L T tm s (.d l n .str x) w c):c = .string x:=by
 obtain⟨_,cs,h1,h2⟩:=h;simp only[Own]at h2;subst h2;exact ((List.cons.inj h1).1).symm
theorem aD.raw{z:Nat}{x:Value}(h:aD L T tm s (.d l n (.raw z) x) w c):c=x/\Value.mJ x=true:=by
 obtain⟨_,cs,h1,h2⟩:=h;simp only[Own]at h2;obtain⟨rfl,h2⟩:=h2;exact⟨((List.cons.inj h1).1).symm,h2⟩
theorem aD.mkInt{x:Int}:aD L T tm s (.d none 0 (.int k) x) w (.int k x):=⟨by simp,_,rfl,by simp[Own]⟩
theorem aD.gW{x:Bool}:aD L T tm s (.d none 0 .bool x) w (.bool x):=⟨by simp,_,rfl,by simp[Own]⟩
theorem aD.mkStr{x:ByteArray}:aD L T tm s (.d none 0 .str x) w (.string x):=⟨by simp,_,rfl,by simp[Own]⟩
theorem aD.mkRaw{z:Nat}{x:Value}(h:Value.mJ x=true):aD L T tm s (.d none 0 (.raw z) x) w x:=⟨by simp,_,rfl,by simp[Own,h]⟩
theorem Jp[af]{v:V}(h:(Cw C X c).ai T' v log):aD L T tm s v w c/\(∀r,v.on r=false)/\log=[]:=by
 unfold Cw at h;split at h
 ·obtain⟨rfl,rfl⟩:=h;exact⟨aD.mkInt,λ_=>rfl,rfl⟩
 ·obtain⟨rfl,rfl⟩:=h;exact⟨aD.gW,λ_=>rfl,rfl⟩
 ·obtain⟨rfl,rfl⟩:=h;exact⟨aD.mkStr,λ_=>rfl,rfl⟩
 ·obtain⟨rfl,rfl⟩:=h;exact⟨aD.mkRaw rfl,λ_=>rfl,rfl⟩
 ·obtain⟨rfl,rfl⟩:=h;exact⟨aD.mkRaw rfl,λ_=>rfl,rfl⟩
 ·obtain⟨rfl,rfl⟩:=h;exact⟨aD.mkRaw rfl,λ_=>rfl,rfl⟩
 ·split at h
  ·obtain⟨rfl,rfl⟩:=h;exact⟨⟨by simp,_,rfl,by simp[Own]⟩,λ_=>rfl,rfl⟩
  ·exact h.elim
 ·exact h.elim
theorem kH[af](hI:Inv w0 L0 N vs T a w L){x:Operand}{v:V}(h:(cK C X x).ai T v log):
  (∃t,x = .tmp t/\v=T.getD t .dead/\aD L T a.tmps t v w (a.eval x))\/((∀r,v.on r=false)/\∀L T tm s w,aD L T tm s v w (a.eval x)):=by
 cases x with
 | tmp t =>
  obtain⟨aG,rfl,rfl,_⟩:=h;exact .inl ⟨t,rfl,rfl,hI.aY t⟩
 | const c =>
  have h1:=Jp (L:=L) (T:=T) (tm:=a.tmps) (s:=0) (w:=w) h;exact .inr ⟨h1.2.1,λL T tm s w=>(Jp h).1⟩
 | func f =>
  obtain⟨rfl,_⟩:=h;exact .inr ⟨λ_=>rfl,λL T tm s w=>aD.mkRaw rfl⟩
 | global g=>exact h.elim
theorem gX[af](hI:Inv w0 L0 N vs T a w L){y:Int}(h:(cK C X x).ai T (.d l n (.int k) y) log):a.eval x = .int k y:=by
 rcases kH hI h with⟨t,_,_,h⟩|⟨_,h⟩
 ·exact h.int
 ·exact (h L T a.tmps 0 w).int
theorem LH[af](hI:Inv w0 L0 N vs T a w L){y:Bool}(h:(cK C X x).ai T (.d l n .bool y) log):a.eval x = .bool y:=by
 rcases kH hI h with⟨t,_,_,h⟩|⟨_,h⟩
 ·exact h.bool
 ·exact (h L T a.tmps 0 w).bool
theorem DP[af](hI:Inv w0 L0 N vs T a w L){y:ByteArray}(h:(cK C X x).ai T (.d l n .str y) log):a.eval x = .string y:=by
 rcases kH hI h with⟨t,_,_,h⟩|⟨_,h⟩
 ·exact h.str
 ·exact (h L T a.tmps 0 w).str
def aL(P:Program)(o:Oper)(vs:List Nat)(T:List V)(a:Act)(w:World)(L:Nat->aj)(d:Nat)(v:V):Prop :=
 ∃c w' L',(execOp a.eval o).run P w = .ok (.value c) w'/\ew w w' L L' d/\(∀k q,w.heap.size<=k->L' k = .own d q->v.aM=true)/\(∀r,v.on r=true->r∈vs) /\
  aD L' (T.set d v) (a.tmps.setIfInBounds d c) d v w' c
theorem aL.inv[af]{o:Oper}{v:V}(hI:Inv w0 L0 N vs T a w L)(hd:d<N)(hid:(T.getD d .dead).idle=true)(ho:o.dst=some d)(h:aL P o vs T a w L d v)
  {K:Act->World->Prop} {Q:Exit->Act->World->Prop} (hK:∀a' w' L',Inv w0 L0 N vs (T.set d v) a' w' L'->K a' w'):o.wp P a w K Q:=by
 obtain⟨c,w',L',h1,h2,h3,h4,h5⟩:=h;unfold Oper.wp;rw[h1,Oper.upon_value,ho];exact hK _ _ L' (Inv.set hI hd hid h2 v c h3 h4 h5)
theorem aL.still[af](hI:Inv w0 L0 N vs T a w L){o:Oper}{v:V}{c:Value}(aP:(execOp a.eval o).run P w = .ok (.value c) w)(ag:∀r,v.on r=false)
  (h:aD L (T.set d v) (a.tmps.setIfInBounds d c) d v w c):aL P o vs T a w L d v :=
 ⟨c,w,L,aP,ew.refl hI d,λk q hk h=>(by rw[hI.free k hk]at h;cases h),λr hr=>(by rw[ag]at hr;cases hr),h⟩
theorem abc[af](hI:Inv w0 L0 N vs T a w L){o:Oper}{x:Operand}{d:Nat}{v:V}(ho:o.op = .move x)(hid:(T.getD d .dead).idle=true)
  (h:(qJ C o.type x).ai T v log) (bf:∀r,v.on r=true->r∈vs):aL P o vs T a w L d v:=by
 have aP:(execOp a.eval o).run P w = .ok (.value (a.eval x)) w:=by simp[execOp,ho]
 have hg:=ew.refl hI d;refine⟨a.eval x,w,L,aP,hg,λk q hk h=>(by rw[hI.free k hk]at h;cases h),bf,?_⟩;have hconst:∀{x:Operand},(cK C o.type x).ai T v log->(∀t,x ≠ .tmp t)->aD L (T.set d v) (a.tmps.setIfInBounds d (a.eval x)) d v w (a.eval x):=by
  intro x h hx;rcases kH hI h with⟨t,rfl,_⟩|⟨_,h⟩
  ·exact absurd rfl (hx t)
  ·exact h _ _ _ _ _
 cases x with
 | const c=>exact hconst h (by simp)
 | func c=>exact hconst h (by simp)
 | global c=>exact hconst h (by simp)
 | tmp t =>
  obtain⟨aG,rfl,h⟩:=h;have hs:=hI.aY t;show aD L (T.set d v) (a.tmps.setIfInBounds d (a.tmps.getD t undef)) d v w (a.tmps.getD t undef);have bo:(T.getD t .dead).aM=true->t≠d:=λh1=>di hid h1;generalize hv:T.getD t .dead=v0 at h hs bo;cases v0 with
  | d l n t' y =>
   simp only[Jr]at h;split at h
   ·rename_i cF;obtain⟨rfl,_⟩:=h;have bz:(V.d l n t' y).aM=true:=cF;have ln:=bo bz;refine⟨?_,.inl ⟨rfl,?_,l,n,y,?_,bz⟩⟩
    ·rw[aH,if_neg (λh=>ln h.1),hv];exact cF
    ·rw[ed,if_neg (λh=>ln h.1)]
    ·rw[aH,if_neg (λh=>ln h.1),hv]
   ·rename_i cF;obtain⟨rfl,_⟩:=h;exact aD.copy hI hid hg (by simpa[V.aM]using cF) hs _
  | box l n t' y =>
   obtain⟨rfl,_⟩:=h;obtain⟨_,g,cur,e,h1,h2,_⟩:=hs;exact⟨g,h1,h2⟩
  | rp l t' y =>
   obtain⟨rfl,_⟩:=h;exact aD.copy hI hid hg rfl hs _
  | ptr r p t' =>
   obtain⟨rfl,_⟩:=h;exact aD.copy hI hid hg rfl hs _
  | view r p t' =>
   obtain⟨rfl,_⟩:=h;exact aD.copy hI hid hg rfl hs _
  | dead=>exact h.elim
  | bF _=>exact h.elim
  | hole _ _=>exact h.elim
  | part _ _ _ _ _=>exact h.elim
  | bP _ _ _ _=>exact h.elim
  | same _ _=>exact h.elim
theorem ap9[af](hI:Inv w0 L0 N vs T a w L){o:Oper}{Y:TypeId}{op:BinOp}{y:Operand}{m n:Int}{v:V}(ho:o.op = .binOp op X x y Y)
  (hx:a.eval x = .int k m) (hy:a.eval y = .int k n) (h:(KQ op k m n).ai T v log):aL P o vs T a w L d v:=by
 have bo:YJ op=false:=by cases op<;>first|rfl|exact h.elim
 have key:∀c,((binOp op X (.int k m) (.int k n)).run P w = .ok c w)->(execOp a.eval o).run P w = .ok (.value c) w:=by
  intro c hc;simp only[execOp,ho,hx,hy,eqGuard_at_int];simp[hc]
 cases op<;>simp only[KQ]at h
 case add=>obtain⟨rfl,_⟩:=h;exact aL.still hI (key _ (by simp[binOp,Op.intArith])) (λ_=>rfl) aD.mkInt
 case sub=>obtain⟨rfl,_⟩:=h;exact aL.still hI (key _ (by simp[binOp,Op.intArith])) (λ_=>rfl) aD.mkInt
 case mul=>obtain⟨rfl,_⟩:=h;exact aL.still hI (key _ (by simp[binOp,Op.intArith])) (λ_=>rfl) aD.mkInt
 case quo=>obtain⟨h0,rfl,_⟩:=h;exact aL.still hI (key _ (by simp[binOp,Op.intDiv];intro hn;exact absurd hn (by simpa using h0))) (λ_=>rfl) aD.mkInt
 case rem=>obtain⟨h0,rfl,_⟩:=h;exact aL.still hI (key _ (by simp[binOp,Op.intDiv];intro hn;exact absurd hn (by simpa using h0))) (λ_=>rfl) aD.mkInt
 case and=>obtain⟨rfl,_⟩:=h;exact aL.still hI (key _ (by simp[binOp,Op.intBits])) (λ_=>rfl) aD.mkInt
 case or=>obtain⟨rfl,_⟩:=h;exact aL.still hI (key _ (by simp[binOp,Op.intBits])) (λ_=>rfl) aD.mkInt
 case xor=>obtain⟨rfl,_⟩:=h;exact aL.still hI (key _ (by simp[binOp,Op.intBits])) (λ_=>rfl) aD.mkInt
 case andNot=>obtain⟨rfl,_⟩:=h;exact aL.still hI (key _ (by simp[binOp,Op.intBits])) (λ_=>rfl) aD.mkInt
 case eql=>obtain⟨rfl,_⟩:=h;exact aL.still hI (key _ (by simp[binOp,Op.intCmp])) (λ_=>rfl) aD.gW
 case neq=>obtain⟨rfl,_⟩:=h;exact aL.still hI (key _ (by simp[binOp,Op.intCmp])) (λ_=>rfl) aD.gW
 case lss=>obtain⟨rfl,_⟩:=h;exact aL.still hI (key _ (by simp[binOp,Op.intCmp])) (λ_=>rfl) aD.gW
 case leq=>obtain⟨rfl,_⟩:=h;exact aL.still hI (key _ (by simp[binOp,Op.intCmp])) (λ_=>rfl) aD.gW
 case gtr=>obtain⟨rfl,_⟩:=h;exact aL.still hI (key _ (by simp[binOp,Op.intCmp])) (λ_=>rfl) aD.gW
 case geq=>obtain⟨rfl,_⟩:=h;exact aL.still hI (key _ (by simp[binOp,Op.intCmp])) (λ_=>rfl) aD.gW
 all_goals exact h.elim
theorem aqf[af](hI:Inv w0 L0 N vs T a w L){o:Oper}{Y:TypeId}{op:BinOp}{y:Operand}{k':IntKind}{m n:Int}{v:V}(ho:o.op = .binOp op X x y Y)
  (hx:a.eval x = .int k m) (hy:a.eval y = .int k' n) (h:(Ma op k m n).ai T v log):aL P o vs T a w L d v:=by
 have key:∀c,((binOp op X (.int k m) (.int k' n)).run P w = .ok c w)->(execOp a.eval o).run P w = .ok (.value c) w:=by
  intro c hc;simp only[execOp,ho,hx,hy,eqGuard_at_int];simp[hc]
 cases op<;>simp only[Ma]at h
 case shl=>obtain⟨h0,rfl,_⟩:=h;exact aL.still hI (key _ (by simp at h0;simp[binOp,Op.shift,Int.not_lt.2 h0])) (λ_=>rfl) aD.mkInt
 case shr=>obtain⟨h0,rfl,_⟩:=h;exact aL.still hI (key _ (by simp at h0;simp[binOp,Op.shift,Int.not_lt.2 h0])) (λ_=>rfl) aD.mkInt
 all_goals exact h.elim
theorem aqj[af](hI:Inv w0 L0 N vs T a w L){o:Oper}{Y:TypeId}{op:BinOp}{y:Operand}{m n:ByteArray}{v:V}(ho:o.op = .binOp op X x y Y)
  (hx:a.eval x = .string m) (hy:a.eval y = .string n) (h:(Mp op m n).ai T v log):aL P o vs T a w L d v:=by
 have key:∀c,((binOp op X (.string m) (.string n)).run P w = .ok c w)->(execOp a.eval o).run P w = .ok (.value c) w:=by
  intro c hc;simp only[execOp,ho,hx,hy,eqGuard_at_string];simp[hc]
 cases op<;>simp only[Mp]at h
 case add =>
  obtain⟨h0,rfl,_⟩:=h;refine aL.still hI (key _ ?_) (λ_=>rfl) aD.mkStr;simp at h0;simp only[binOp,Op.stringOp,IntKind.max_i64];rw[if_neg (by omega)];rfl
 case eql=>obtain⟨rfl,_⟩:=h;exact aL.still hI (key _ (by simp[binOp,Op.stringOp])) (λ_=>rfl) aD.gW
 case neq=>obtain⟨rfl,_⟩:=h;exact aL.still hI (key _ (by simp[binOp,Op.stringOp])) (λ_=>rfl) aD.gW
 case lss=>obtain⟨rfl,_⟩:=h;exact aL.still hI (key _ (by simp[binOp,Op.stringOp])) (λ_=>rfl) aD.gW
 case leq=>obtain⟨rfl,_⟩:=h;exact aL.still hI (key _ (by simp[binOp,Op.stringOp])) (λ_=>rfl) aD.gW
 case gtr=>obtain⟨rfl,_⟩:=h;exact aL.still hI (key _ (by simp[binOp,Op.stringOp])) (λ_=>rfl) aD.gW
 case geq=>obtain⟨rfl,_⟩:=h;exact aL.still hI (key _ (by simp[binOp,Op.stringOp])) (λ_=>rfl) aD.gW
 all_goals exact h.elim
theorem aqk[af](hI:Inv w0 L0 N vs T a w L){o:Oper}{op:UnOp}{u v:V}{log2:List Nat}(ho:o.op = .unOp op X x)
  (hx:(cK C X x).ai T u log) (h:(MB op u).ai T v log2):aL P o vs T a w L d v:=by
 have key:∀c,((Op.unary op (a.eval x)).run P w = .ok c w)->(execOp a.eval o).run P w = .ok (.value c) w:=by
  intro c hc;simp[execOp,ho,hc]
 unfold MB at h;split at h
 ·split at h
  ·obtain⟨rfl,_⟩:=h;refine aL.still hI (key _ ?_) (λ_=>rfl) aD.mkInt;rw[gX hI hx];simp[Op.unary,Op.intArith]
  ·exact h.elim
 ·split at h
  ·obtain⟨rfl,_⟩:=h;refine aL.still hI (key _ ?_) (λ_=>rfl) aD.gW;rw[LH hI hx];simp[Op.unary]
  ·exact h.elim
 ·exact h.elim
end
end Go.Proofs.YtbhogmdpmkpinaaGreat.P.Am
