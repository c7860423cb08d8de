/- A part of the proof: Am1, Am2, Am3, Am4, Am5, Am6, Am7, Am8. No conditions. -/
import Derived.Laws.OwnMore
import Derived.Calls
import Derived.Below
import Derived.Laws.Cells
import Derived.ChangeKeysEq
set_option linter.unusedVariables false
set_option linter.unusedSimpArgs false
namespace Go.Proofs.YtkanidldnnfloaaGreat.P.Am
inductive Ty where
 | int (k:IntKind)
 | bool
 | str
 | raw (z:Nat)
 | unit
 | pair (a b:Ty)
 | agg (t:Ty)
 | slice (e:TypeId) (t:Ty)
 deriving DecidableEq,Inhabited
@[reducible] def Ty.den:Ty→Type
 | .int _=>Int
 | .bool=>Bool
 | .str=>ByteArray
 | .raw _=>Value
 | .unit=>Unit
 | .pair a b=>a.den×b.den
 | .agg t=>t.den
 | .slice _ t=>List t.den
def Ty.sz:Ty→Nat
 | .unit=>0
 | .pair a b=>a.sz+b.sz
 | .agg t=>t.sz
 | _=>1
def rawZero:Nat→Value
 | 0 => .pointer none
 | 1 => .nilFunc
 | _ => .nilIface
def Ty.zero:(t:Ty)→t.den
 | .int _=>(0:Int)
 | .bool=>false
 | .str=>ByteArray.empty
 | .raw z=>rawZero z
 | .unit=>()
 | .pair a b=>(a.zero,b.zero)
 | .agg t=>t.zero
 | .slice _ t=>[]
def Ty.depth:Ty→Nat
 | .pair a b=>max a.depth b.depth
 | .agg t=>t.depth
 | .slice _ t=>t.depth+1
 | _=>0
def Value.plain1:Value→Bool
 | .pointer none | .nilFunc | .nilIface | .func .. => true
 | _=>false
theorem plain1_one {v:Value} (h:Value.plain1 v=true):v.oneCell'=true:=by
 cases v <;> simp_all [Value.plain1,Value.oneCell']
def Rd (w:World) (S:Nat→Prop):(t:Ty)→t.den→List Value→Prop
 | .int k,x,cs=>cs=[.int k x]
 | .bool,x,cs=>cs=[.bool x]
 | .str,x,cs=>cs=[.string x]
 | .raw _,x,cs=>cs=[x]∧Value.plain1 x=true
 | .unit,_,cs=>cs=[]
 | .pair a b,x,cs=>∃ c0 c1,cs=c0++c1∧Rd w S a x.1 c0∧Rd w S b x.2 c1
 | .agg t,x,cs=>Rd w S t x cs
 | .slice _ t,xs,cs=>∃ A c,cs=[.slice A (xs:List t.den).length c]∧xs.length≤c∧(A=none→xs=[]∧c=0) ∧
   (xs≠[]→∃ g o,A=some ⟨g,o,none⟩∧S g∧∀ j (h:j < xs.length),∃ es,Rd w S t (xs[j]) es∧∀ i v,es[i]? = some v→w.cell? ⟨g,o+(j*t.sz+i),none⟩=some v)
inductive Lab where
 | stable
 | free
 | other
 | own (s:Nat) (q:List Nat)
def Own (w:World) (L:Nat→Lab) (S:Nat→Prop) (s:Nat):Nat→(t:Ty)→t.den→List Nat→Nat→List Value→Prop
 | _,.int k,x,_,_,cs=>cs=[.int k x]
 | _,.bool,x,_,_,cs=>cs=[.bool x]
 | _,.str,x,_,_,cs=>cs=[.string x]
 | _,.raw _,x,_,_,cs=>cs=[x]∧Value.plain1 x=true
 | _,.unit,_,_,_,cs=>cs=[]
 | n,.pair a b,x,q,o,cs=>∃ c0 c1,cs=c0++c1∧Own w L S s n a x.1 q o c0∧Own w L S s n b x.2 q (o+a.sz) c1
 | n,.agg t,x,q,o,cs=>Own w L S s n t x q o cs
 | 0,.slice e t,xs,_,_,cs=>Rd w S (.slice e t) xs cs
 | n+1,.slice e t,xs,q,o,cs=>(cs=[.slice none 0 0]∧xs=[]) ∨
   ∃ g cap cur,cs=[.slice (some ⟨g,0,none⟩) (xs:List t.den).length cap]∧L g = .own s (q++[o])∧w.heap[g]? = some (.cells cur e (0,0)) ∧
    xs.length≤cap∧cap≤maxLen∧cur.size=cap*t.sz ∧
    ∀ j (h:j < xs.length),Own w L S s n t (xs[j]) (q++[o]) (j*t.sz) ((cur.toList.drop (j*t.sz)).take t.sz)
section
variable {w w':World} {S S':Nat→Prop} {L L':Nat→Lab} {s s':Nat}
theorem Rd.len:{t:Ty}→{x:t.den}→{cs:List Value}→Rd w S t x cs→cs.length=t.sz
 | .int _,_,_,h=>by simp only [Rd] at h; subst h; rfl
 | .bool,_,_,h=>by simp only [Rd] at h; subst h; rfl
 | .str,_,_,h=>by simp only [Rd] at h; subst h; rfl
 | .raw _,_,_,h=>by simp only [Rd] at h; rw [h.1]; rfl
 | .unit,_,_,h=>by simp only [Rd] at h; subst h; rfl
 | .pair a b,_,_,h=>by
  simp only [Rd] at h
  obtain ⟨c0,c1,rfl,h0,h1⟩:=h
  simp [Ty.sz,Rd.len h0,Rd.len h1]
 | .agg t,_,_,h=>by simp only [Rd] at h; exact Rd.len (t:=t) h
 | .slice _ _,_,_,h=>by
  simp only [Rd] at h
  obtain ⟨A,c,rfl,_⟩:=h
  rfl
theorem Own.len:{n:Nat}→{t:Ty}→{x:t.den}→{q:List Nat}→{o:Nat}→{cs:List Value}→Own w L S s n t x q o cs→cs.length=t.sz
 | _,.int _,_,_,_,_,h=>by simp only [Own] at h; subst h; rfl
 | _,.bool,_,_,_,_,h=>by simp only [Own] at h; subst h; rfl
 | _,.str,_,_,_,_,h=>by simp only [Own] at h; subst h; rfl
 | _,.raw _,_,_,_,_,h=>by simp only [Own] at h; rw [h.1]; rfl
 | _,.unit,_,_,_,_,h=>by simp only [Own] at h; subst h; rfl
 | _,.pair a b,_,_,_,_,h=>by
  simp only [Own] at h
  obtain ⟨c0,c1,rfl,h0,h1⟩:=h
  simp [Ty.sz,Own.len h0,Own.len h1]
 | _,.agg t,_,_,_,_,h=>by simp only [Own] at h; exact Own.len (t:=t) h
 | 0,.slice _ _,_,_,_,_,h=>by simp only [Own] at h; exact Rd.len h
 | n+1,.slice _ _,_,_,_,_,h=>by
  simp only [Own] at h
  rcases h with ⟨rfl,_⟩ | ⟨g,cap,cur,rfl,_⟩ <;> rfl
def one1 (v:Value):Bool:=v.oneCell'
theorem Rd.one:{t:Ty}→{x:t.den}→{cs:List Value}→Rd w S t x cs→∀ v∈cs,v.oneCell'=true
 | .int _,_,_,h=>by simp only [Rd] at h; subst h; simp [Value.oneCell']
 | .bool,_,_,h=>by simp only [Rd] at h; subst h; simp [Value.oneCell']
 | .str,_,_,h=>by simp only [Rd] at h; subst h; simp [Value.oneCell']
 | .raw _,_,_,h=>by
  simp only [Rd] at h
  obtain ⟨rfl,h⟩:=h
  intro v hv
  rw [List.mem_singleton.1 hv]
  exact plain1_one h
 | .unit,_,_,h=>by simp only [Rd] at h; subst h; simp
 | .pair a b,_,_,h=>by
  simp only [Rd] at h
  obtain ⟨c0,c1,rfl,h0,h1⟩:=h
  intro v hv
  rcases List.mem_append.1 hv with hv | hv
  ·exact Rd.one h0 v hv
  ·exact Rd.one h1 v hv
 | .agg t,_,_,h=>by simp only [Rd] at h; exact Rd.one (t:=t) h
 | .slice _ _,_,_,h=>by
  simp only [Rd] at h
  obtain ⟨A,c,rfl,_⟩:=h
  simp [Value.oneCell']
theorem Own.one:{n:Nat}→{t:Ty}→{x:t.den}→{q:List Nat}→{o:Nat}→{cs:List Value}→Own w L S s n t x q o cs→∀ v∈cs,v.oneCell'=true
 | _,.int _,_,_,_,_,h=>by simp only [Own] at h; subst h; simp [Value.oneCell']
 | _,.bool,_,_,_,_,h=>by simp only [Own] at h; subst h; simp [Value.oneCell']
 | _,.str,_,_,_,_,h=>by simp only [Own] at h; subst h; simp [Value.oneCell']
 | _,.raw _,_,_,_,_,h=>by
  simp only [Own] at h
  exact Rd.one (w:=w) (S:=S) (t := .raw 0) h
 | _,.unit,_,_,_,_,h=>by simp only [Own] at h; subst h; simp
 | _,.pair a b,_,_,_,_,h=>by
  simp only [Own] at h
  obtain ⟨c0,c1,rfl,h0,h1⟩:=h
  intro v hv
  rcases List.mem_append.1 hv with hv | hv
  ·exact Own.one h0 v hv
  ·exact Own.one h1 v hv
 | _,.agg t,_,_,_,_,h=>by simp only [Own] at h; exact Own.one (t:=t) h
 | 0,.slice _ _,_,_,_,_,h=>by simp only [Own] at h; exact Rd.one h
 | n+1,.slice _ _,_,_,_,_,h=>by
  simp only [Own] at h
  rcases h with ⟨rfl,_⟩ | ⟨g,cap,cur,rfl,_⟩ <;> simp [Value.oneCell']
theorem Rd.move:{t:Ty}→{x:t.den}→{cs:List Value}→(∀ k,S k→S' k∧w'.heap[k]? = w.heap[k]?)→Rd w S t x cs→Rd w' S' t x cs
 | .int _,_,_,_,h=>h
 | .bool,_,_,_,h=>h
 | .str,_,_,_,h=>h
 | .raw _,_,_,_,h=>h
 | .unit,_,_,_,h=>h
 | .pair a b,_,_,H,h=>by
  simp only [Rd] at h ⊢
  obtain ⟨c0,c1,rfl,h0,h1⟩:=h
  exact ⟨c0,c1,rfl,Rd.move H h0,Rd.move H h1⟩
 | .agg t,_,_,H,h=>by simp only [Rd] at h ⊢; exact Rd.move (t:=t) H h
 | .slice _ _,_,_,H,h=>by
  simp only [Rd] at h ⊢
  obtain ⟨A,c,rfl,h1,h2,h3⟩:=h
  refine ⟨A,c,rfl,h1,h2,fun hx => ?_⟩
  obtain ⟨g,o,hA,hS,h⟩:=h3 hx
  refine ⟨g,o,hA,(H g hS).1,fun j hj => ?_⟩
  obtain ⟨es,he,hc⟩:=h j hj
  refine ⟨es,Rd.move H he,fun i v hv => ?_⟩
  rw [World.cell?_of_block (w:=w) ((H g hS).2)]
  exact hc i v hv
theorem Own.move:{n:Nat}→{t:Ty}→{x:t.den}→{q q2:List Nat}→{o o2:Nat}→{cs:List Value} →
  (∀ k,S k→S' k∧w'.heap[k]? = w.heap[k]?) →
  (∀ k d rest,d < t.sz→L k = .own s (q++(o+d)::rest)→L' k = .own s' (q2++(o2+d)::rest)∧w'.heap[k]? = w.heap[k]?) →
  Own w L S s n t x q o cs→Own w' L' S' s' n t x q2 o2 cs
 | _,.int _,_,_,_,_,_,_,_,_,h=>by simpa only [Own] using h
 | _,.bool,_,_,_,_,_,_,_,_,h=>by simpa only [Own] using h
 | _,.str,_,_,_,_,_,_,_,_,h=>by simpa only [Own] using h
 | _,.raw _,_,_,_,_,_,_,_,_,h=>by simpa only [Own] using h
 | _,.unit,_,_,_,_,_,_,_,_,h=>by simpa only [Own] using h
 | _,.pair a b,_,q,q2,o,o2,_,H,H2,h=>by
  simp only [Own] at h ⊢
  obtain ⟨c0,c1,rfl,h0,h1⟩:=h
  refine ⟨c0,c1,rfl,Own.move H (fun k d rest hd=>H2 k d rest (by simp only [Ty.sz]; omega)) h0,Own.move H (fun k d rest hd hk => ?_) h1⟩
  have:=H2 k (a.sz+d) rest (by simp only [Ty.sz]; omega) (by rw [hk,Nat.add_assoc])
  rwa [← Nat.add_assoc] at this
 | _,.agg t,_,_,_,_,_,_,H,H2,h=>by simp only [Own] at h ⊢; exact Own.move (t:=t) H H2 h
 | 0,.slice _ _,_,_,_,_,_,_,H,_,h=>by simp only [Own] at h ⊢; exact Rd.move H h
 | n+1,.slice e t,xs,q,q2,o,o2,_,H,H2,h=>by
  simp only [Own] at h ⊢
  rcases h with h | ⟨g,cap,cur,rfl,hL,hg,h1,h2,h3,h4⟩
  ·exact .inl h
  ·have hh:=H2 g 0 [] (by simp [Ty.sz]) (by simpa using hL)
   refine .inr ⟨g,cap,cur,rfl,by simpa using hh.1,by rw [hh.2]; exact hg,h1,h2,h3,fun j hj => ?_⟩
   refine Own.move H (fun k d rest hd hk => ?_) (h4 j hj)
   have:=H2 k 0 ((j*t.sz+d)::rest) (by simp [Ty.sz]) (by rw [hk]; simp)
   simpa using this
theorem Own.rd0:{t:Ty}→{x:t.den}→{q:List Nat}→{o:Nat}→{cs:List Value}→Own w L S s 0 t x q o cs→Rd w S t x cs
 | .int _,_,_,_,_,h=>by simpa only [Own,Rd] using h
 | .bool,_,_,_,_,h=>by simpa only [Own,Rd] using h
 | .str,_,_,_,_,h=>by simpa only [Own,Rd] using h
 | .raw _,_,_,_,_,h=>by simpa only [Own,Rd] using h
 | .unit,_,_,_,_,h=>by simpa only [Own,Rd] using h
 | .pair a b,_,_,_,_,h=>by
  simp only [Own,Rd] at h ⊢
  obtain ⟨c0,c1,rfl,h0,h1⟩:=h
  exact ⟨c0,c1,rfl,Own.rd0 h0,Own.rd0 h1⟩
 | .agg t,_,_,_,_,h=>by simp only [Own,Rd] at h ⊢; exact Own.rd0 (t:=t) h
 | .slice _ _,_,_,_,_,h=>by simpa only [Own] using h
theorem Own.of_rd:{t:Ty}→{x:t.den}→{q:List Nat}→{o:Nat}→{cs:List Value}→Rd w S t x cs→Own w L S s 0 t x q o cs
 | .int _,_,_,_,_,h=>by simpa only [Own,Rd] using h
 | .bool,_,_,_,_,h=>by simpa only [Own,Rd] using h
 | .str,_,_,_,_,h=>by simpa only [Own,Rd] using h
 | .raw _,_,_,_,_,h=>by simpa only [Own,Rd] using h
 | .unit,_,_,_,_,h=>by simpa only [Own,Rd] using h
 | .pair a b,_,_,_,_,h=>by
  simp only [Own,Rd] at h ⊢
  obtain ⟨c0,c1,rfl,h0,h1⟩:=h
  exact ⟨c0,c1,rfl,Own.of_rd h0,Own.of_rd h1⟩
 | .agg t,_,_,_,_,h=>by simp only [Own,Rd] at h ⊢; exact Own.of_rd (t:=t) h
 | .slice _ _,_,_,_,_,h=>by simpa only [Own] using h
theorem Own.flat:{t:Ty}→{x:t.den}→{n n':Nat}→{q q':List Nat}→{o o':Nat}→{cs:List Value}→t.depth=0→Own w L S s n t x q o cs→Own w' L' S' s' n' t x q' o' cs
 | .int _,_,_,_,_,_,_,_,_,_,h=>by simpa only [Own] using h
 | .bool,_,_,_,_,_,_,_,_,_,h=>by simpa only [Own] using h
 | .str,_,_,_,_,_,_,_,_,_,h=>by simpa only [Own] using h
 | .raw _,_,_,_,_,_,_,_,_,_,h=>by simpa only [Own] using h
 | .unit,_,_,_,_,_,_,_,_,_,h=>by simpa only [Own] using h
 | .pair a b,_,_,_,_,_,_,_,_,hd,h=>by
  simp only [Own,Ty.depth] at h hd ⊢
  obtain ⟨c0,c1,rfl,h0,h1⟩:=h
  exact ⟨c0,c1,rfl,Own.flat (by omega) h0,Own.flat (by omega) h1⟩
 | .agg t,_,_,_,_,_,_,_,_,hd,h=>by simp only [Own,Ty.depth] at h hd ⊢; exact Own.flat (t:=t) hd h
 | .slice _ _,_,_,_,_,_,_,_,_,hd,h=>by simp [Ty.depth] at hd
theorem Own.cap:{n m:Nat}→{t:Ty}→{x:t.den}→{q:List Nat}→{o:Nat}→{cs:List Value}→t.depth≤n→t.depth≤m→Own w L S s n t x q o cs→Own w L S s m t x q o cs
 | _,_,.int _,_,_,_,_,_,_,h=>by simpa only [Own] using h
 | _,_,.bool,_,_,_,_,_,_,h=>by simpa only [Own] using h
 | _,_,.str,_,_,_,_,_,_,h=>by simpa only [Own] using h
 | _,_,.raw _,_,_,_,_,_,_,h=>by simpa only [Own] using h
 | _,_,.unit,_,_,_,_,_,_,h=>by simpa only [Own] using h
 | _,_,.pair a b,_,_,_,_,hn,hm,h=>by
  simp only [Own,Ty.depth] at h hn hm ⊢
  obtain ⟨c0,c1,h2,h0,h1⟩:=h
  exact ⟨c0,c1,h2,Own.cap (by omega) (by omega) h0,Own.cap (by omega) (by omega) h1⟩
 | _,_,.agg t,_,_,_,_,hn,hm,h=>by simp only [Own,Ty.depth] at h hn hm ⊢; exact Own.cap (t:=t) hn hm h
 | 0,_,.slice _ _,_,_,_,_,hn,_,_=>by simp [Ty.depth] at hn
 | _+1,0,.slice _ _,_,_,_,_,_,hm,_=>by simp [Ty.depth] at hm
 | n+1,m+1,.slice _ t,xs,_,_,_,hn,hm,h=>by
  simp only [Own,Ty.depth] at h hn hm ⊢
  rcases h with h | ⟨g,cap,cur,h1,h2,h3,h4,h5,h6,h7⟩
  ·exact .inl h
  ·exact .inr ⟨g,cap,cur,h1,h2,h3,h4,h5,h6,fun j hj=>Own.cap (by omega) (by omega) (h7 j hj)⟩
theorem Own.atLeast {n m:Nat} {t:Ty} {x:t.den} {q:List Nat} {o:Nat} {cs:List Value} (h:m≤n∨t.depth≤n) (ho:Own w L S s n t x q o cs):∃ k,m≤k∧Own w L S s k t x q o cs:=by
 by_cases hm:m≤n
 ·exact ⟨n,hm,ho⟩
 ·have hd:=h.resolve_left hm
  exact ⟨m,Nat.le_refl _,Own.cap hd (by omega) ho⟩
def Ty.zcells:Ty→List Value
 | .int k=>[.int k 0]
 | .bool=>[.bool false]
 | .str=>[.string ByteArray.empty]
 | .raw z=>[rawZero z]
 | .unit=>[]
 | .pair a b=>a.zcells++b.zcells
 | .agg t=>t.zcells
 | .slice _ _=>[.slice none 0 0]
theorem Own.zero:{n:Nat}→{t:Ty}→{q:List Nat}→{o:Nat}→Own w L S s n t t.zero q o t.zcells
 | _,.int _,_,_=>by simp [Own,Ty.zero,Ty.zcells]
 | _,.bool,_,_=>by simp [Own,Ty.zero,Ty.zcells]
 | _,.str,_,_=>by simp [Own,Ty.zero,Ty.zcells]
 | _,.raw 0,_,_=>by simp [Own,Ty.zero,Ty.zcells,rawZero,Value.plain1]
 | _,.raw 1,_,_=>by simp [Own,Ty.zero,Ty.zcells,rawZero,Value.plain1]
 | _,.raw (_+2),_,_=>by simp [Own,Ty.zero,Ty.zcells,rawZero,Value.plain1]
 | _,.unit,_,_=>by simp [Own,Ty.zcells]
 | _,.pair a b,_,_=>by simp only [Own]; exact ⟨_,_,rfl,Own.zero,Own.zero⟩
 | _,.agg t,_,_=>by simp only [Own]; exact Own.zero (t:=t)
 | 0,.slice _ _,_,_=>by
  simp only [Own,Rd,Ty.zcells,Ty.zero]
  exact ⟨none,0,rfl,Nat.le_refl _,fun _=>by simp,fun h=>absurd rfl h⟩
 | n+1,.slice _ _,_,_=>by simp only [Own]; exact .inl ⟨rfl,rfl⟩
theorem Ty.zcells_len:(t:Ty)→t.zcells.length=t.sz
 | .int _ | .bool | .str | .raw _ | .unit | .slice _ _=>rfl
 | .pair a b=>by simp [Ty.zcells,Ty.sz,zcells_len a,zcells_len b]
 | .agg t=>zcells_len t
theorem Own.moveLow:{n m:Nat}→{t:Ty}→{x:t.den}→{q q2:List Nat}→{o o2:Nat}→{cs:List Value}→m≤n →
  (∀ k,S k→S' k∧w'.heap[k]? = w.heap[k]?) →
  (∀ k d rest,d < t.sz→L k = .own s (q++(o+d)::rest)→w'.heap[k]? = w.heap[k]? ∧ (rest.length < m→L' k = .own s' (q2++(o2+d)::rest))∧(m≤rest.length→S' k)) →
  Own w L S s n t x q o cs→Own w' L' S' s' m t x q2 o2 cs
 | _,_,.int _,_,_,_,_,_,_,_,_,_,h=>by simpa only [Own] using h
 | _,_,.bool,_,_,_,_,_,_,_,_,_,h=>by simpa only [Own] using h
 | _,_,.str,_,_,_,_,_,_,_,_,_,h=>by simpa only [Own] using h
 | _,_,.raw _,_,_,_,_,_,_,_,_,_,h=>by simpa only [Own] using h
 | _,_,.unit,_,_,_,_,_,_,_,_,_,h=>by simpa only [Own] using h
 | _,_,.pair a b,_,q,q2,o,o2,_,hm,H,H2,h=>by
  simp only [Own] at h ⊢
  obtain ⟨c0,c1,rfl,h0,h1⟩:=h
  refine ⟨c0,c1,rfl,Own.moveLow hm H (fun k d rest hd=>H2 k d rest (by simp only [Ty.sz]; omega)) h0,Own.moveLow hm H (fun k d rest hd hk => ?_) h1⟩
  have:=H2 k (a.sz+d) rest (by simp only [Ty.sz]; omega) (by rw [hk,Nat.add_assoc])
  rwa [← Nat.add_assoc] at this
 | _,_,.agg t,_,_,_,_,_,_,hm,H,H2,h=>by simp only [Own] at h ⊢; exact Own.moveLow (t:=t) hm H H2 h
 | 0,0,.slice _ _,_,_,_,_,_,_,_,H,_,h=>by simp only [Own] at h ⊢; exact Rd.move H h
 | n+1,m+1,.slice e t,xs,q,q2,o,o2,_,hm,H,H2,h=>by
  simp only [Own] at h ⊢
  rcases h with h | ⟨g,cap,cur,rfl,hL,hg,h1,h2,h3,h4⟩
  ·exact .inl h
  ·have hh:=H2 g 0 [] (by simp [Ty.sz]) (by simpa using hL)
   refine .inr ⟨g,cap,cur,rfl,by simpa using hh.2.1 (by simp),by rw [hh.1]; exact hg,h1,h2,h3,fun j hj => ?_⟩
   refine Own.moveLow (by omega) H (fun k d rest hd hk => ?_) (h4 j hj)
   have:=H2 k 0 ((j*t.sz+d)::rest) (by simp [Ty.sz]) (by rw [hk]; simp)
   refine ⟨this.1,fun hr => ?_,fun hr=>this.2.2 (by simp; omega)⟩
   have h5:=this.2.1 (by simp; omega)
   simpa using h5
 | n+1,0,.slice e t,xs,q,q2,o,o2,_,hm,H,H2,h=>by
  simp only [Own] at h ⊢
  simp only [Rd]
  rcases h with ⟨rfl,rfl⟩ | ⟨g,cap,cur,rfl,hL,hg,h1,h2,h3,h4⟩
  ·exact ⟨none,0,rfl,Nat.le_refl _,fun _=>⟨rfl,rfl⟩,fun h=>absurd rfl h⟩
  ·have hh:=H2 g 0 [] (by simp [Ty.sz]) (by simpa using hL)
   refine ⟨_,cap,rfl,h1,(by simp),fun _=>⟨g,0,rfl,hh.2.2 (by simp),fun j hj => ?_⟩⟩
   have h5:Own w' L' S' s' 0 t (xs[j]) (q2++[o2]) (j*t.sz) ((cur.toList.drop (j*t.sz)).take t.sz):=by
    refine Own.moveLow (Nat.zero_le _) H (fun k d rest hd hk => ?_) (h4 j hj)
    have:=H2 k 0 ((j*t.sz+d)::rest) (by simp [Ty.sz]) (by rw [hk]; simp)
    exact ⟨this.1,fun hr=>absurd hr (by omega),fun hr=>this.2.2 (by simp)⟩
   refine ⟨_,Own.rd0 h5,fun i v hv => ?_⟩
   rw [List.getElem?_take] at hv
   split at hv
   ·rw [List.getElem?_drop] at hv
    simp only [World.cell?,hh.1,hg,Option.isSome_none,Bool.false_eq_true,if_false,Nat.zero_add]
    simpa using hv
   ·cases hv
theorem Own.freeze {n m:Nat} {t:Ty} {x:t.den} {q:List Nat} {o:Nat} {cs:List Value} (hm:m≤n)
  (H:∀ k,S k→S' k∧w'.heap[k]? = w.heap[k]?)
  (H2:∀ k d rest,d < t.sz→L k = .own s (q++(o+d)::rest)→w'.heap[k]? = w.heap[k]? ∧ (rest.length < m→L' k = .own s (q++(o+d)::rest))∧(m≤rest.length→S' k))
  (h:Own w L S s n t x q o cs):Own w' L' S' s m t x q o cs:=Own.moveLow hm H H2 h
end
end Go.Proofs.YtkanidldnnfloaaGreat.P.Am
set_option linter.unusedVariables false
set_option linter.unusedSimpArgs false
namespace Go.Proofs.YtkanidldnnfloaaGreat.P.Am
def getI {α:Type} (xs:List α) (i:Int):Option α:=if 0≤i then xs[i.toNat]? else none
inductive St where
 | fld (i off:Nat)
 | idx (sz:Nat) (i:Int)
def node:List Nat→Nat→List St→List Nat×Nat
 | q,o,[]=>(q,o)
 | q,o,.fld _ off::p=>node q (o+off) p
 | q,o,.idx sz i::p=>node (q++[o]) (i.toNat*sz) p
inductive V where
 | dead
 | d (l:Option Nat) (n:Nat) (t:Ty) (x:t.den)
 | tup (l:List (Nat×Option (Nat×(t:Ty)×t.den)))
 | box (l:Option Nat) (n:Nat) (t:Ty) (x:t.den)
 | rp (l:Option Nat) (t:Ty) (x:t.den)
 | ptr (r:Nat) (p:List St) (t:Ty)
 | view (r:Nat) (p:List St) (t:Ty)
 | hole (v:V) (p:List St)
 | part (r i:Nat) (n:Nat) (t:Ty) (x:t.den)
 | odd (k n:Nat) (t:Ty) (x:t.den)
 | same (r:Nat) (t:Ty)
 deriving Inhabited
structure D where
 n:Nat
 t:Ty
 x:t.den
def V.root:V→Option Nat
 | .d l _ _ _=>l
 | .box l _ _ _=>l
 | .rp l _ _=>l
 | .ptr s _ _=>some s
 | .view s _ _=>some s
 | .hole v _=>v.root
 | .part r _ _ _ _=>some r
 | .same r _=>some r
 | _=>none
def V.on (r:Nat) (v:V):Bool:=v.root == some r
def V.boxy:V→Bool
 | .box _ _ _ _=>true
 | .hole (.box _ _ _ _) _=>true
 | .odd 1 _ _ _=>true
 | _=>false
def shallow:List St→Bool
 | []=>true
 | .fld _ _::p=>shallow p
 | _=>false
def V.deepOn (r:Nat) (v:V):Bool:=v.on r && (match v with
 | .ptr _ p _ => !shallow p
 | _=>true)
def tagK:Nat:=100000
def boxKey (s:Nat):Nat:=tagK+2*s
def bareKey (r m:Nat):Nat:=tagK+(2*(r+100000*m)+1)
def qok (k s:Nat) (v:V):Bool :=
 cond ((k - tagK) % 2 == 0) (s != (k - tagK) / 2 || v.boxy) (((k - tagK) / 2 / 100000).testBit (s+1) || !cond (((k - tagK) / 2 / 100000).testBit 0) (v.on ((k - tagK) / 2 % 100000)) (v.deepOn ((k - tagK) / 2 % 100000)))
def allQ (k:Nat):Nat→List V→Bool
 | _,[]=>true
 | i,v::l=>qok k i v && allQ k (i+1) l
def askOk (k:Nat) (T:List V):Bool:=allQ k 0 T && ((k - tagK) % 2 == 1 || decide ((k - tagK) / 2 < T.length))
theorem allQ_get {k:Nat} {l:List V}:∀ {i:Nat},allQ k i l=true→∀ s,s < l.length→qok k (i+s) (l.getD s .dead)=true:=by
 induction l with
 | nil=>intro i _ s hs; exact absurd hs (Nat.not_lt_zero s)
 | cons v l ih =>
  intro i h s hs
  simp only [allQ,Bool.and_eq_true] at h
  cases s with
  | zero=>exact h.1
  | succ s =>
   have:=ih h.2 s (Nat.lt_of_succ_lt_succ hs)
   rw [show i+1+s=i+(s+1) by omega] at this
   exact this
theorem allQ_of {k:Nat} {l:List V}:∀ {i:Nat},(∀ s,s < l.length→qok k (i+s) (l.getD s .dead)=true)→allQ k i l=true:=by
 induction l with
 | nil=>intro i _; rfl
 | cons v l ih =>
  intro i h
  simp only [allQ,Bool.and_eq_true]
  refine ⟨h 0 (Nat.zero_lt_succ _),ih fun s hs => ?_⟩
  have:=h (s+1) (Nat.succ_lt_succ hs)
  rw [show i+1+s=i+(s+1) by omega]
  exact this
theorem ask_box {s:Nat} {T:List V} (h:askOk (boxKey s) T=true):(T.getD s .dead).boxy=true:=by
 have e:boxKey s - tagK=2*s:=Nat.add_sub_cancel_left _ _
 unfold askOk at h
 rw [Bool.and_eq_true,e,show 2*s % 2=0 from Nat.mul_mod_right 2 s,show 2*s / 2=s from Nat.mul_div_cancel_left s (Nat.zero_lt_succ 1)] at h
 obtain ⟨h1,h2⟩:=h
 have hs:s < T.length:=by simpa using h2
 have:=allQ_get h1 s hs
 unfold qok at this
 rw [e,show 2*s % 2=0 from Nat.mul_mod_right 2 s,show 2*s / 2=s from Nat.mul_div_cancel_left s (Nat.zero_lt_succ 1),Nat.zero_add] at this
 simpa using this
theorem ask_bare {r m:Nat} {T:List V} (hr:r < 100000) (h:askOk (bareKey r m) T=true) (s:Nat) (hs:m.testBit (s+1)=false):cond (m.testBit 0) ((T.getD s .dead).on r) ((T.getD s .dead).deepOn r)=false:=by
 have e:bareKey r m - tagK=2*(r+100000*m)+1:=Nat.add_sub_cancel_left _ _
 have e1:(2*(r+100000*m)+1) % 2=1:=by omega
 have e2:(2*(r+100000*m)+1) / 2=r+100000*m:=by omega
 have e3:(r+100000*m) / 100000=m:=by omega
 have e4:(r+100000*m) % 100000=r:=by omega
 unfold askOk at h
 rw [Bool.and_eq_true] at h
 by_cases hl:s < T.length
 ·have:=allQ_get h.1 s hl
  unfold qok at this
  rw [e,e1,e2,e3,e4,Nat.zero_add,hs] at this
  simpa using this
 ·rw [List.getD_eq_getElem?_getD,List.getElem?_eq_none (Nat.le_of_not_lt hl)]
  cases m.testBit 0 <;> rfl
def Agr (T T':List V) (s:Nat):Prop:=(s < tagK→T'.getD s .dead=T.getD s .dead)∧(tagK≤s→askOk s T=true→askOk s T'=true)
inductive M (α:Type):Type where
 | ret (a:α)
 | fail
 | get (s:Nat) (k:V→M α)
 | bnd (t:Ty) (m:Option t.den) (k:t.den→M α)
 | chk (b:Bool) (k:M α)
 | ask (q:Nat) (k:M α)
 | ite (b:Bool) (x y:M α)
def M.bind {α β:Type}:M α→(α→M β)→M β
 | .ret a,f=>f a
 | .fail,_ => .fail
 | .get s k,f => .get s fun v=>(k v).bind f
 | .bnd t m k,f => .bnd t m fun x=>(k x).bind f
 | .chk b k,f => .chk b (k.bind f)
 | .ask q k,f => .ask q (k.bind f)
 | .ite b x y,f => .ite b (x.bind f) (y.bind f)
def M.Runs {α:Type} (T:List V):M α→α→List Nat→Prop
 | .ret a,b,log=>b=a∧log=[]
 | .fail,_,_=>False
 | .get s k,b,log=>∃ log',log=s::log'∧(k (T.getD s .dead)).Runs T b log'
 | .bnd _ m k,b,log=>∃ x,m=some x∧(k x).Runs T b log
 | .chk c k,b,log=>c=true∧k.Runs T b log
 | .ask q k,b,log=>(askOk q T=true∧tagK≤q)∧∃ log',log=q::log'∧k.Runs T b log'
 | .ite c x y,b,log=>(c=true∧x.Runs T b log)∨(c=false∧y.Runs T b log)
theorem M.runs_bind {α β:Type} {T:List V}:{m:M α}→{f:α→M β}→{b:β}→{log:List Nat}→(m.bind f).Runs T b log →
  ∃ a log1 log2,log=log1++log2∧m.Runs T a log1∧(f a).Runs T b log2
 | .ret a,f,b,log,h=>⟨a,[],log,rfl,⟨rfl,rfl⟩,h⟩
 | .fail,_,_,_,h=>h.elim
 | .get s k,f,b,log,h=>by
  obtain ⟨log',rfl,h⟩:=h
  obtain ⟨a,l1,l2,rfl,h1,h2⟩:=M.runs_bind (m:=k _) h
  exact ⟨a,s::l1,l2,rfl,⟨l1,rfl,h1⟩,h2⟩
 | .bnd t m k,f,b,log,h=>by
  obtain ⟨x,hm,h⟩:=h
  obtain ⟨a,l1,l2,rfl,h1,h2⟩:=M.runs_bind (m:=k _) h
  exact ⟨a,l1,l2,rfl,⟨x,hm,h1⟩,h2⟩
 | .chk c k,f,b,log,h=>by
  obtain ⟨hc,h⟩:=h
  obtain ⟨a,l1,l2,rfl,h1,h2⟩:=M.runs_bind (m:=k) h
  exact ⟨a,l1,l2,rfl,⟨hc,h1⟩,h2⟩
 | .ask q k,f,b,log,h=>by
  obtain ⟨hc,log',rfl,h⟩:=h
  obtain ⟨a,l1,l2,rfl,h1,h2⟩:=M.runs_bind (m:=k) h
  exact ⟨a,q::l1,l2,rfl,⟨hc,l1,rfl,h1⟩,h2⟩
 | .ite c x y,f,b,log,h=>by
  rcases h with ⟨hc,h⟩ | ⟨hc,h⟩
  ·obtain ⟨a,l1,l2,rfl,h1,h2⟩:=M.runs_bind (m:=x) h
   exact ⟨a,l1,l2,rfl,.inl ⟨hc,h1⟩,h2⟩
  ·obtain ⟨a,l1,l2,rfl,h1,h2⟩:=M.runs_bind (m:=y) h
   exact ⟨a,l1,l2,rfl,.inr ⟨hc,h1⟩,h2⟩
theorem M.runs_agree {α:Type} {T T':List V} (hl:T.length≤tagK) (hl':T'.length=T.length):{m:M α}→{a:α}→{log:List Nat}→m.Runs T a log→(∀ s∈log,Agr T T' s)→m.Runs T' a log
 | .ret _,_,_,h,_=>h
 | .fail,_,_,h,_=>h
 | .get s k,a,log,h,H=>by
  obtain ⟨log',rfl,h⟩:=h
  refine ⟨log',rfl,?_⟩
  have hs:T'.getD s .dead=T.getD s .dead:=by
   by_cases hs:s < tagK
   ·exact (H s (by simp)).1 hs
   ·rw [List.getD_eq_getElem?_getD,List.getD_eq_getElem?_getD,List.getElem?_eq_none (by omega),List.getElem?_eq_none (by omega)]
  rw [hs]
  exact M.runs_agree hl hl' h (fun s hs=>H s (by simp [hs]))
 | .bnd _ m k,a,log,h,H=>by
  obtain ⟨x,hm,h⟩:=h
  exact ⟨x,hm,M.runs_agree hl hl' h H⟩
 | .chk c k,a,log,h,H=>⟨h.1,M.runs_agree hl hl' h.2 H⟩
 | .ask q k,a,log,h,H=>by
  obtain ⟨⟨hc,hq⟩,log',rfl,h⟩:=h
  exact ⟨⟨(H q (by simp)).2 hq hc,hq⟩,log',rfl,M.runs_agree hl hl' h (fun s hs=>H s (by simp [hs]))⟩
 | .ite c x y,a,log,h,H=>by
  rcases h with ⟨hc,h⟩ | ⟨hc,h⟩
  ·exact .inl ⟨hc,M.runs_agree hl hl' h H⟩
  ·exact .inr ⟨hc,M.runs_agree hl hl' h H⟩
def M.runK {α R:Type} (T:List V):M α→List Nat→(List Nat→α→Option R)→Option R
 | .ret a,l,K=>K l a
 | .fail,_,_=>none
 | .get s k,l,K=>(k (T.getD s .dead)).runK T (s::l) K
 | .bnd _ m k,l,K=>m.bind fun x=>(k x).runK T l K
 | .chk b k,l,K=>cond b (k.runK T l K) none
 | .ask q k,l,K=>cond (askOk q T && decide (tagK≤q)) (k.runK T (q::l) K) none
 | .ite b x y,l,K=>cond b (x.runK T l K) (y.runK T l K)
theorem M.runK_some {α R:Type} {T:List V} {r:R}:{m:M α}→{l:List Nat}→{K:List Nat→α→Option R}→m.runK T l K=some r →
  ∃ a log,m.Runs T a log∧K (log.reverse++l) a=some r
 | .ret a,l,K,h=>⟨a,[],⟨rfl,rfl⟩,by simpa [M.runK] using h⟩
 | .fail,_,_,h=>by simp [M.runK] at h
 | .get s k,l,K,h=>by
  obtain ⟨a,log,h1,h2⟩:=M.runK_some (m:=k _) h
  exact ⟨a,s::log,⟨log,rfl,h1⟩,by simpa using h2⟩
 | .bnd t m k,l,K,h=>by
  simp only [M.runK] at h
  obtain ⟨x,hm,h⟩:=Option.bind_eq_some_iff.1 h
  obtain ⟨a,log,h1,h2⟩:=M.runK_some (m:=k x) h
  exact ⟨a,log,⟨x,hm,h1⟩,h2⟩
 | .chk b k,l,K,h=>by
  simp only [M.runK] at h
  cases hb:b with
  | true =>
   rw [hb] at h
   obtain ⟨a,log,h1,h2⟩:=M.runK_some (m:=k) h
   exact ⟨a,log,⟨rfl,h1⟩,h2⟩
  | false =>
   rw [hb] at h
   cases h
 | .ask q k,l,K,h=>by
  simp only [M.runK] at h
  cases hb:(askOk q T && decide (tagK≤q)) with
  | true =>
   rw [hb] at h
   obtain ⟨a,log,h1,h2⟩:=M.runK_some (m:=k) h
   simp only [Bool.and_eq_true,decide_eq_true_eq] at hb
   exact ⟨a,q::log,⟨hb,log,rfl,h1⟩,by simpa using h2⟩
  | false =>
   rw [hb] at h
   cases h
 | .ite b x y,l,K,h=>by
  simp only [M.runK] at h
  cases hb:b with
  | true =>
   rw [hb] at h
   obtain ⟨a,log,h1,h2⟩:=M.runK_some (m:=x) h
   exact ⟨a,log,.inl ⟨rfl,h1⟩,h2⟩
  | false =>
   rw [hb] at h
   obtain ⟨a,log,h1,h2⟩:=M.runK_some (m:=y) h
   exact ⟨a,log,.inr ⟨rfl,h1⟩,h2⟩
theorem M.runK_of {α R:Type} {T:List V} {r:R}:{m:M α}→{a:α}→{l log:List Nat}→{K:List Nat→α→Option R}→m.Runs T a log→K (log.reverse++l) a=some r→m.runK T l K=some r
 | .ret _,a,l,log,K,h,hK=>by obtain ⟨rfl,rfl⟩:=h; simpa [M.runK] using hK
 | .fail,_,_,_,_,h,_=>h.elim
 | .get s k,a,l,log,K,h,hK=>by
  obtain ⟨log',rfl,h⟩:=h
  exact M.runK_of (m:=k _) h (by simpa using hK)
 | .bnd t m k,a,l,log,K,h,hK=>by
  obtain ⟨x,hm,h⟩:=h
  simp only [M.runK,hm,Option.bind_some]
  exact M.runK_of (m:=k x) h hK
 | .chk b k,a,l,log,K,h,hK=>by
  obtain ⟨hb,h⟩:=h
  simp only [M.runK]
  rw [hb]
  exact M.runK_of (m:=k) h hK
 | .ask q k,a,l,log,K,h,hK=>by
  obtain ⟨hb,log',rfl,h⟩:=h
  simp only [M.runK]
  have:(askOk q T && decide (tagK≤q))=true:=by simp [hb.1,hb.2]
  rw [this]
  exact M.runK_of (m:=k) h (by simpa using hK)
 | .ite b x y,a,l,log,K,h,hK=>by
  simp only [M.runK]
  rcases h with ⟨hb,h⟩ | ⟨hb,h⟩
  ·rw [hb]
   exact M.runK_of (m:=x) h hK
  ·rw [hb]
   exact M.runK_of (m:=y) h hK
def compT:Nat→Ty→Option (Nat×Ty)
 | 0,.pair a _=>some (0,a)
 | i+1,.pair a b=>(compT i b).map fun r=>(a.sz+r.1,r.2)
 | 0,t=>some (0,t)
 | _+1,_=>none
def comp:Nat→(t:Ty)→t.den→Option (Nat×(t:Ty)×t.den)
 | 0,.pair a _,x=>some (0,⟨a,x.1⟩)
 | i+1,.pair a b,x=>(comp i b x.2).map fun r=>(a.sz+r.1,r.2)
 | 0,.int k,x=>some (0,⟨.int k,x⟩)
 | 0,.bool,x=>some (0,⟨.bool,x⟩)
 | 0,.str,x=>some (0,⟨.str,x⟩)
 | 0,.raw z,x=>some (0,⟨.raw z,x⟩)
 | 0,.unit,x=>some (0,⟨.unit,x⟩)
 | 0,.agg t,x=>some (0,⟨.agg t,x⟩)
 | 0,.slice e t,x=>some (0,⟨.slice e t,x⟩)
 | _+1,_,_=>none
def modC:Nat→(t:Ty)→t.den→((t1:Ty)→t1.den→M t1.den)→M t.den
 | 0,.pair a _,x,f=>(f a x.1).bind fun y => .ret (y,x.2)
 | i+1,.pair _ b,x,f=>(modC i b x.2 f).bind fun y => .ret (x.1,y)
 | 0,.int k,x,f=>f (.int k) x
 | 0,.bool,x,f=>f .bool x
 | 0,.str,x,f=>f .str x
 | 0,.raw z,x,f=>f (.raw z) x
 | 0,.unit,x,f=>f .unit x
 | 0,.agg t,x,f=>f (.agg t) x
 | 0,.slice e t,x,f=>f (.slice e t) x
 | _+1,_,_,_ => .fail
def getP:List St→(n:Nat)→(t:Ty)→t.den→M D
 | [],n,t,x => .ret ⟨n,t,x⟩
 | .fld i off::p,n,.agg t,x=>match comp i t x with
  | some (o,⟨t',x'⟩)=>if o=off then getP p n t' x' else .fail
  | none => .fail
 | .idx sz i::p,n+1,.slice _ t,xs=>if sz=t.sz then .bnd t (getI xs i) (fun y=>getP p n t y) else .fail
 | _::_,_,_,_ => .fail
def modP:List St→(t:Ty)→t.den→(t':Ty)→t'.den→M t.den
 | [],t,_,t',y=>if h:t'=t then .ret (h▸y) else .fail
 | .fld i off::p,.agg t,x,t',y=>match compT i t with
  | some (o,_)=>if o=off then modC i t x (fun t1 x1=>modP p t1 x1 t' y) else .fail
  | none => .fail
 | .idx sz i::p,.slice e t,xs,t',y=>if sz=t.sz then .bnd t (getI xs i) (fun z=>(modP p t z t' y).bind fun z' => .bnd (.slice e t) (some (List.set xs i.toNat z')) fun w => .ret w) else .fail
 | _::_,_,_,_,_ => .fail
theorem getI_some {α:Type} {xs:List α} {i:Int} {x:α} (h:getI xs i=some x):∃ hi:i.toNat < xs.length,0≤i∧xs[i.toNat]=x:=by
 unfold getI at h
 split at h
 ·obtain ⟨h1,h2⟩:=List.getElem?_eq_some_iff.1 h
  exact ⟨h1,by assumption,h2⟩
 ·cases h
section
variable {w w':World} {S S':Nat→Prop} {L L':Nat→Lab} {s:Nat} {T:List V}
theorem comp_own:{i:Nat}→{t:Ty}→{x:t.den}→{o1:Nat}→{t1:Ty}→{x1:t1.den}→{n:Nat}→{q:List Nat}→{o:Nat}→{cs:List Value} →
  comp i t x=some (o1,⟨t1,x1⟩)→Own w L S s n t x q o cs→o1+t1.sz≤t.sz∧Own w L S s n t1 x1 q (o+o1) ((cs.drop o1).take t1.sz)
 | 0,.pair a b,x,o1,t1,x1,n,q,o,cs,hc,h=>by
  simp only [comp,Option.some.injEq,Prod.mk.injEq] at hc
  obtain ⟨rfl,hc⟩:=hc
  cases hc
  simp only [Own] at h
  obtain ⟨c0,c1,rfl,h0,h1⟩:=h
  refine ⟨by simp [Ty.sz],?_⟩
  rw [List.drop_zero,List.take_left' (Own.len h0)]
  exact h0
 | i+1,.pair a b,x,o1,t1,x1,n,q,o,cs,hc,h=>by
  simp only [comp,Option.map_eq_some_iff] at hc
  obtain ⟨⟨o2,t2,x2⟩,hc,he⟩:=hc
  simp only [Prod.mk.injEq] at he
  obtain ⟨rfl,he⟩:=he
  cases he
  simp only [Own] at h
  obtain ⟨c0,c1,rfl,h0,h1⟩:=h
  obtain ⟨h2,h3⟩:=comp_own hc h1
  refine ⟨by simp only [Ty.sz]; omega,?_⟩
  rw [← Nat.add_assoc,← List.drop_drop,List.drop_left' (Own.len h0)]
  exact h3
 | 0,.int _,_,_,_,_,_,_,_,_,hc,h=>by
  simp only [comp,Option.some.injEq,Prod.mk.injEq] at hc; obtain ⟨rfl,hc⟩:=hc; cases hc
  exact ⟨by simp,by rw [List.drop_zero,List.take_of_length_le (Nat.le_of_eq (Own.len h))]; exact h⟩
 | 0,.bool,_,_,_,_,_,_,_,_,hc,h=>by
  simp only [comp,Option.some.injEq,Prod.mk.injEq] at hc; obtain ⟨rfl,hc⟩:=hc; cases hc
  exact ⟨by simp,by rw [List.drop_zero,List.take_of_length_le (Nat.le_of_eq (Own.len h))]; exact h⟩
 | 0,.str,_,_,_,_,_,_,_,_,hc,h=>by
  simp only [comp,Option.some.injEq,Prod.mk.injEq] at hc; obtain ⟨rfl,hc⟩:=hc; cases hc
  exact ⟨by simp,by rw [List.drop_zero,List.take_of_length_le (Nat.le_of_eq (Own.len h))]; exact h⟩
 | 0,.raw _,_,_,_,_,_,_,_,_,hc,h=>by
  simp only [comp,Option.some.injEq,Prod.mk.injEq] at hc; obtain ⟨rfl,hc⟩:=hc; cases hc
  exact ⟨by simp,by rw [List.drop_zero,List.take_of_length_le (Nat.le_of_eq (Own.len h))]; exact h⟩
 | 0,.unit,_,_,_,_,_,_,_,_,hc,h=>by
  simp only [comp,Option.some.injEq,Prod.mk.injEq] at hc; obtain ⟨rfl,hc⟩:=hc; cases hc
  exact ⟨by simp,by rw [List.drop_zero,List.take_of_length_le (Nat.le_of_eq (Own.len h))]; exact h⟩
 | 0,.agg _,_,_,_,_,_,_,_,_,hc,h=>by
  simp only [comp,Option.some.injEq,Prod.mk.injEq] at hc; obtain ⟨rfl,hc⟩:=hc; cases hc
  exact ⟨by simp,by rw [List.drop_zero,List.take_of_length_le (Nat.le_of_eq (Own.len h))]; exact h⟩
 | 0,.slice _ _,_,_,_,_,_,_,_,_,hc,h=>by
  simp only [comp,Option.some.injEq,Prod.mk.injEq] at hc; obtain ⟨rfl,hc⟩:=hc; cases hc
  exact ⟨by simp,by rw [List.drop_zero,List.take_of_length_le (Nat.le_of_eq (Own.len h))]; exact h⟩
def InB (w:World) (L:Nat→Lab) (S:Nat→Prop) (s:Nat) (n:Nat) (t:Ty) (x:t.den) (q:List Nat) (o:Nat):Prop :=
 ∃ g cur e,L g = .own s q∧w.heap[g]? = some (.cells cur e (0,0))∧o+t.sz≤cur.size∧Own w L S s n t x q o ((cur.toList.drop o).take t.sz)
theorem getP_inB:{p:List St}→{n:Nat}→{t:Ty}→{x:t.den}→{n':Nat}→{t':Ty}→{x':t'.den}→{q:List Nat}→{o:Nat}→{log:List Nat} →
  (getP p n t x).Runs T ⟨n',t',x'⟩ log→InB w L S s n t x q o→InB w L S s n' t' x' (node q o p).1 (node q o p).2
 | [],n,t,x,n',t',x',q,o,log,hr,h=>by
  obtain ⟨he,_⟩:=hr
  cases he
  exact h
 | .fld i off::p,n,.agg t,x,n',t',x',q,o,log,hr,h=>by
  simp only [getP] at hr
  split at hr
  ·rename_i o1 t1 x1 hc
   split at hr
   ·rename_i ho
    subst ho
    refine getP_inB (q:=q) (o:=o+o1) hr ?_
    obtain ⟨g,cur,e,h1,h2,h3,h4⟩:=h
    simp only [Own] at h4
    obtain ⟨h5,h6⟩:=comp_own hc h4
    simp only [Ty.sz] at h3 h6
    refine ⟨g,cur,e,h1,h2,by omega,?_⟩
    rw [List.drop_take,List.take_take,List.drop_drop] at h6
    rwa [Nat.min_eq_left (by omega)] at h6
   ·exact hr.elim
  ·exact hr.elim
 | .idx sz i::p,n+1,.slice e t,xs,n',t',x',q,o,log,hr,h=>by
  simp only [getP] at hr
  split at hr
  ·rename_i hz
   subst hz
   obtain ⟨y,hy,hr⟩:=hr
   obtain ⟨hi,h0,rfl⟩:=getI_some hy
   refine getP_inB (q:=q++[o]) (o:=i.toNat*t.sz) hr ?_
   obtain ⟨g,cur,e',h1,h2,h3,h4⟩:=h
   simp only [Own] at h4
   rcases h4 with ⟨_,rfl⟩ | ⟨g2,cap,cur2,hcs,hL,hg,h5,h6,h7,h8⟩
   ·exact absurd hi (by simp)
   ·refine ⟨g2,cur2,e,hL,hg,?_,h8 _ hi⟩
    rw [h7]
    calc i.toNat*t.sz+t.sz=(i.toNat+1)*t.sz:=by rw [Nat.add_mul,Nat.one_mul]
     _≤cap*t.sz:=Nat.mul_le_mul_right _ (by omega)
  ·exact hr.elim
 | .idx _ _::p,0,.slice _ _,_,_,_,_,_,_,_,hr,_=>by simp only [getP] at hr; exact hr.elim
 | .fld _ _::p,_,.int _,_,_,_,_,_,_,_,hr,_=>by simp only [getP] at hr; exact hr.elim
 | .fld _ _::p,_,.bool,_,_,_,_,_,_,_,hr,_=>by simp only [getP] at hr; exact hr.elim
 | .fld _ _::p,_,.str,_,_,_,_,_,_,_,hr,_=>by simp only [getP] at hr; exact hr.elim
 | .fld _ _::p,_,.raw _,_,_,_,_,_,_,_,hr,_=>by simp only [getP] at hr; exact hr.elim
 | .fld _ _::p,_,.unit,_,_,_,_,_,_,_,hr,_=>by simp only [getP] at hr; exact hr.elim
 | .fld _ _::p,_,.pair _ _,_,_,_,_,_,_,_,hr,_=>by simp only [getP] at hr; exact hr.elim
 | .fld _ _::p,_,.slice _ _,_,_,_,_,_,_,_,hr,_=>by simp only [getP] at hr; exact hr.elim
 | .idx _ _::p,_,.int _,_,_,_,_,_,_,_,hr,_=>by simp only [getP] at hr; exact hr.elim
 | .idx _ _::p,_,.bool,_,_,_,_,_,_,_,hr,_=>by simp only [getP] at hr; exact hr.elim
 | .idx _ _::p,_,.str,_,_,_,_,_,_,_,hr,_=>by simp only [getP] at hr; exact hr.elim
 | .idx _ _::p,_,.raw _,_,_,_,_,_,_,_,hr,_=>by simp only [getP] at hr; exact hr.elim
 | .idx _ _::p,_,.unit,_,_,_,_,_,_,_,hr,_=>by simp only [getP] at hr; exact hr.elim
 | .idx _ _::p,_,.pair _ _,_,_,_,_,_,_,_,hr,_=>by simp only [getP] at hr; exact hr.elim
 | .idx _ _::p,_,.agg _,_,_,_,_,_,_,_,hr,_=>by simp only [getP] at hr; exact hr.elim
end
end Go.Proofs.YtkanidldnnfloaaGreat.P.Am
set_option linter.unusedVariables false
set_option linter.unusedSimpArgs false
namespace Go.Proofs.YtkanidldnnfloaaGreat.P.Am
def Under (q:List Nat) (o sz:Nat) (q2:List Nat):Prop:=∃ d rest,d < sz∧q2=q++(o+d)::rest
def Reach (q:List Nat) (o sz:Nat) (q':List Nat) (o' sz':Nat):Prop:=(q'=q∧o≤o'∧o'+sz'≤o+sz)∨Under q o sz q'
structure Upd (w w':World) (L L':Nat→Lab) (S S':Nat→Prop) (s:Nat) (q':List Nat) (o' sz' g':Nat) (cur cur':Array Value) (e':TypeId):Prop where
 hS:∀ k,S k→S' k∧w'.heap[k]? = w.heap[k]?
 hO:∀ k q2,L k = .own s q2→q2≠q'→¬ Under q' o' sz' q2→L' k=L k∧w'.heap[k]? = w.heap[k]?
 hL:L g' = .own s q'
 hL':L' g' = .own s q'
 h0:w.heap[g']? = some (.cells cur e' (0,0))
 h1:w'.heap[g']? = some (.cells cur' e' (0,0))
 hsz:cur'.size=cur.size
 hout:∀ i,(i < o'∨o'+sz'≤i)→cur'[i]? = cur[i]?
 inj:∀ k,L k = .own s q'→k=g'
section
variable {w w':World} {S S':Nat→Prop} {L L':Nat→Lab} {s:Nat} {T:List V}
theorem take_drop_same {cur cur':Array Value} {a b:Nat} (h:∀ i,a≤i→i < a+b→cur'[i]? = cur[i]?):(cur'.toList.drop a).take b=(cur.toList.drop a).take b:=by
 apply List.ext_getElem?
 intro i
 rw [List.getElem?_take,List.getElem?_take]
 split
 ·rw [List.getElem?_drop,List.getElem?_drop]
  have:=h (a+i) (by omega) (by omega)
  simpa using this
 ·rfl
theorem under_idx {q:List Nat} {o sz q2:List Nat}:True:=trivial
theorem sib {q q':List Nat} {o1 sz1 o' sz' x:Nat} {rest:List Nat} (hr:Reach q o1 sz1 q' o' sz') (hx:x < o1∨o1+sz1≤x) :
  q++x::rest≠q'∧¬ Under q' o' sz' (q++x::rest):=by
 rcases hr with ⟨rfl,h1,h2⟩ | ⟨d,r,hd,rfl⟩
 ·refine ⟨fun h => ?_,fun ⟨d,r,hd,h⟩ => ?_⟩
  ·have:=congrArg List.length h; simp at this
  ·have h:=List.append_cancel_left h
   injection h with h _
   omega
 ·refine ⟨fun h => ?_,fun ⟨d2,r2,hd2,h⟩ => ?_⟩
  ·have h:=List.append_cancel_left h
   injection h with h _
   omega
  ·rw [List.append_assoc] at h
   have h:=List.append_cancel_left h
   rw [List.cons_append] at h
   injection h with h _
   omega
theorem Own.sib {n:Nat} {t:Ty} {x:t.den} {q q':List Nat} {o o1 sz1 o' sz' g':Nat} {cur cur':Array Value} {e':TypeId} {cs:List Value}
  (hu:Upd w w' L L' S S' s q' o' sz' g' cur cur' e') (hr:Reach q o1 sz1 q' o' sz') (hx:o+t.sz≤o1∨o1+sz1≤o)
  (h:Own w L S s n t x q o cs):Own w' L' S' s n t x q o cs :=
 Own.move hu.hS (fun k d rest hd hk=>by
  obtain ⟨h1,h2⟩:=Am.sib (rest:=rest) hr (show o+d < o1∨o1+sz1≤o+d by omega)
  have:=hu.hO k _ hk h1 h2
  exact ⟨this.1.trans hk,this.2⟩) h
theorem comp_sz:{i:Nat}→{t:Ty}→{x:t.den}→{o1:Nat}→{t1:Ty}→{x1:t1.den}→comp i t x=some (o1,⟨t1,x1⟩)→o1+t1.sz≤t.sz
 | 0,.pair a b,x,o1,t1,x1,hc=>by
  simp only [comp,Option.some.injEq,Prod.mk.injEq] at hc
  obtain ⟨rfl,hc⟩:=hc
  cases hc
  simp [Ty.sz]
 | i+1,.pair a b,x,o1,t1,x1,hc=>by
  simp only [comp,Option.map_eq_some_iff] at hc
  obtain ⟨⟨o2,t2,x2⟩,hc,he⟩:=hc
  simp only [Prod.mk.injEq] at he
  obtain ⟨rfl,he⟩:=he
  cases he
  have:=comp_sz hc
  simp only [Ty.sz]; omega
 | 0,.int _,_,_,_,_,hc=>by simp only [comp,Option.some.injEq,Prod.mk.injEq] at hc; obtain ⟨rfl,hc⟩:=hc; cases hc; simp
 | 0,.bool,_,_,_,_,hc=>by simp only [comp,Option.some.injEq,Prod.mk.injEq] at hc; obtain ⟨rfl,hc⟩:=hc; cases hc; simp
 | 0,.str,_,_,_,_,hc=>by simp only [comp,Option.some.injEq,Prod.mk.injEq] at hc; obtain ⟨rfl,hc⟩:=hc; cases hc; simp
 | 0,.raw _,_,_,_,_,hc=>by simp only [comp,Option.some.injEq,Prod.mk.injEq] at hc; obtain ⟨rfl,hc⟩:=hc; cases hc; simp
 | 0,.unit,_,_,_,_,hc=>by simp only [comp,Option.some.injEq,Prod.mk.injEq] at hc; obtain ⟨rfl,hc⟩:=hc; cases hc; simp
 | 0,.agg _,_,_,_,_,hc=>by simp only [comp,Option.some.injEq,Prod.mk.injEq] at hc; obtain ⟨rfl,hc⟩:=hc; cases hc; simp
 | 0,.slice _ _,_,_,_,_,hc=>by simp only [comp,Option.some.injEq,Prod.mk.injEq] at hc; obtain ⟨rfl,hc⟩:=hc; cases hc; simp
theorem getP_reach:{p:List St}→{n:Nat}→{t:Ty}→{x:t.den}→{n':Nat}→{t':Ty}→{x':t'.den}→{q:List Nat}→{o:Nat}→{log:List Nat} →
  (getP p n t x).Runs T ⟨n',t',x'⟩ log→Reach q o t.sz (node q o p).1 (node q o p).2 t'.sz
 | [],n,t,x,n',t',x',q,o,log,hr=>by
  obtain ⟨he,_⟩:=hr
  cases he
  exact .inl ⟨rfl,Nat.le_refl _,Nat.le_refl _⟩
 | .fld i off::p,n,.agg t,x,n',t',x',q,o,log,hr=>by
  simp only [getP] at hr
  split at hr
  ·rename_i o1 t1 x1 hc
   split at hr
   ·rename_i ho
    subst ho
    have h1:=comp_sz hc
    rcases getP_reach (q:=q) (o:=o+o1) hr with ⟨h2,h3,h4⟩ | ⟨d,rest,hd,h⟩
    ·exact .inl ⟨h2,by simp only [node]; omega,by simp only [node,Ty.sz]; omega⟩
    ·exact .inr ⟨o1+d,rest,by simp only [Ty.sz]; omega,by simp only [node]; rw [h,Nat.add_assoc]⟩
   ·exact hr.elim
  ·exact hr.elim
 | .idx sz i::p,n+1,.slice e t,xs,n',t',x',q,o,log,hr=>by
  simp only [getP] at hr
  split at hr
  ·rename_i hz
   subst hz
   obtain ⟨y,hy,hr⟩:=hr
   rcases getP_reach (q:=q++[o]) (o:=i.toNat*t.sz) hr with ⟨h2,h3,h4⟩ | ⟨d,rest,hd,h⟩
   ·exact .inr ⟨0,[],by simp [Ty.sz],by simp only [node]; rw [h2]; rfl⟩
   ·exact .inr ⟨0,(i.toNat*t.sz+d)::rest,by simp [Ty.sz],by simp only [node]; rw [h]; simp⟩
  ·exact hr.elim
 | .idx _ _::p,0,.slice _ _,_,_,_,_,_,_,_,hr=>by simp only [getP] at hr; exact hr.elim
 | .fld _ _::p,_,.int _,_,_,_,_,_,_,_,hr=>by simp only [getP] at hr; exact hr.elim
 | .fld _ _::p,_,.bool,_,_,_,_,_,_,_,hr=>by simp only [getP] at hr; exact hr.elim
 | .fld _ _::p,_,.str,_,_,_,_,_,_,_,hr=>by simp only [getP] at hr; exact hr.elim
 | .fld _ _::p,_,.raw _,_,_,_,_,_,_,_,hr=>by simp only [getP] at hr; exact hr.elim
 | .fld _ _::p,_,.unit,_,_,_,_,_,_,_,hr=>by simp only [getP] at hr; exact hr.elim
 | .fld _ _::p,_,.pair _ _,_,_,_,_,_,_,_,hr=>by simp only [getP] at hr; exact hr.elim
 | .fld _ _::p,_,.slice _ _,_,_,_,_,_,_,_,hr=>by simp only [getP] at hr; exact hr.elim
 | .idx _ _::p,_,.int _,_,_,_,_,_,_,_,hr=>by simp only [getP] at hr; exact hr.elim
 | .idx _ _::p,_,.bool,_,_,_,_,_,_,_,hr=>by simp only [getP] at hr; exact hr.elim
 | .idx _ _::p,_,.str,_,_,_,_,_,_,_,hr=>by simp only [getP] at hr; exact hr.elim
 | .idx _ _::p,_,.raw _,_,_,_,_,_,_,_,hr=>by simp only [getP] at hr; exact hr.elim
 | .idx _ _::p,_,.unit,_,_,_,_,_,_,_,hr=>by simp only [getP] at hr; exact hr.elim
 | .idx _ _::p,_,.pair _ _,_,_,_,_,_,_,_,hr=>by simp only [getP] at hr; exact hr.elim
 | .idx _ _::p,_,.agg _,_,_,_,_,_,_,_,hr=>by simp only [getP] at hr; exact hr.elim
theorem modC_own {f:(t1:Ty)→t1.den→M t1.den} {q':List Nat} {o' sz' g':Nat} {cur cur':Array Value} {e':TypeId}
  (hu:Upd w w' L L' S S' s q' o' sz' g' cur cur' e') :
  {i:Nat}→{t:Ty}→{x x2:t.den}→{o1:Nat}→{t1:Ty}→{x1:t1.den}→{n:Nat}→{q:List Nat}→{o:Nat}→{cs cs2:List Value}→{log:List Nat} →
  comp i t x=some (o1,⟨t1,x1⟩)→(modC i t x f).Runs T x2 log→Own w L S s n t x q o cs→Reach q (o+o1) t1.sz q' o' sz' →
  cs2.length=cs.length→(∀ j,(j < o1∨o1+t1.sz≤j)→cs2[j]? = cs[j]?) →
  (∀ y1 log1,(f t1 x1).Runs T y1 log1→Own w' L' S' s n t1 y1 q (o+o1) ((cs2.drop o1).take t1.sz))→Own w' L' S' s n t x2 q o cs2
 | 0,.pair a b,x,x2,o1,t1,x1,n,q,o,cs,cs2,log,hc,hm,h,hr,hl,hj,hf=>by
  simp only [comp,Option.some.injEq,Prod.mk.injEq] at hc
  obtain ⟨rfl,hc⟩:=hc
  cases hc
  obtain ⟨y,l1,l2,rfl,hm1,hm2⟩:=M.runs_bind hm
  obtain ⟨rfl,_⟩:=hm2
  simp only [Own] at h ⊢
  obtain ⟨c0,c1,rfl,h0,h1⟩:=h
  have hl0:=Own.len h0
  have hl1:=Own.len h1
  refine ⟨cs2.take a.sz,cs2.drop a.sz,(List.take_append_drop _ _).symm,by simpa using hf _ _ hm1,?_⟩
  have he:cs2.drop a.sz=c1:=by
   apply List.ext_getElem?
   intro i
   rw [List.getElem?_drop,hj _ (.inr (by omega)),List.getElem?_append_right (by omega)]
   congr 1
   omega
  rw [he]
  exact Own.sib hu hr (.inr (by simp)) h1
 | i+1,.pair a b,x,x2,o1,t1,x1,n,q,o,cs,cs2,log,hc,hm,h,hr,hl,hj,hf=>by
  simp only [comp,Option.map_eq_some_iff] at hc
  obtain ⟨⟨o2,t2,x2'⟩,hc,he⟩:=hc
  simp only [Prod.mk.injEq] at he
  obtain ⟨rfl,he⟩:=he
  cases he
  obtain ⟨y,l1,l2,rfl,hm1,hm2⟩:=M.runs_bind hm
  obtain ⟨rfl,_⟩:=hm2
  simp only [Own] at h ⊢
  obtain ⟨c0,c1,rfl,h0,h1⟩:=h
  have hl0:=Own.len h0
  have hl1:=Own.len h1
  have h2:=comp_sz hc
  refine ⟨cs2.take a.sz,cs2.drop a.sz,(List.take_append_drop _ _).symm,?_,?_⟩
  ·have he:cs2.take a.sz=c0:=by
    apply List.ext_getElem?
    intro i
    rw [List.getElem?_take]
    split
    ·rw [hj _ (.inl (by omega)),List.getElem?_append_left (by omega)]
    ·rw [List.getElem?_eq_none (by omega)]
   rw [he]
   exact Own.sib hu hr (.inl (by omega)) h0
  ·refine modC_own hu (o:=o+a.sz) hc hm1 h1 (by rw [Nat.add_assoc]; exact hr) (by simp [hl] at hl ⊢; omega) (fun j hjj => ?_) (fun y1 log1 hy => ?_)
   ·rw [List.getElem?_drop,hj _ (by omega),List.getElem?_append_right (by omega)]
    congr 1
    omega
   ·rw [Nat.add_assoc,List.drop_drop]
    exact hf y1 log1 hy
 | 0,.int _,x,x2,o1,t1,x1,n,q,o,cs,cs2,log,hc,hm,h,hr,hl,hj,hf=>by
  simp only [comp,Option.some.injEq,Prod.mk.injEq] at hc; obtain ⟨rfl,hc⟩:=hc; cases hc
  have:=hf _ _ hm; rw [List.drop_zero,List.take_of_length_le (by rw [hl,Own.len h]; exact Nat.le_refl _)] at this; exact this
 | 0,.bool,x,x2,o1,t1,x1,n,q,o,cs,cs2,log,hc,hm,h,hr,hl,hj,hf=>by
  simp only [comp,Option.some.injEq,Prod.mk.injEq] at hc; obtain ⟨rfl,hc⟩:=hc; cases hc
  have:=hf _ _ hm; rw [List.drop_zero,List.take_of_length_le (by rw [hl,Own.len h]; exact Nat.le_refl _)] at this; exact this
 | 0,.str,x,x2,o1,t1,x1,n,q,o,cs,cs2,log,hc,hm,h,hr,hl,hj,hf=>by
  simp only [comp,Option.some.injEq,Prod.mk.injEq] at hc; obtain ⟨rfl,hc⟩:=hc; cases hc
  have:=hf _ _ hm; rw [List.drop_zero,List.take_of_length_le (by rw [hl,Own.len h]; exact Nat.le_refl _)] at this; exact this
 | 0,.raw _,x,x2,o1,t1,x1,n,q,o,cs,cs2,log,hc,hm,h,hr,hl,hj,hf=>by
  simp only [comp,Option.some.injEq,Prod.mk.injEq] at hc; obtain ⟨rfl,hc⟩:=hc; cases hc
  have:=hf _ _ hm; rw [List.drop_zero,List.take_of_length_le (by rw [hl,Own.len h]; exact Nat.le_refl _)] at this; exact this
 | 0,.unit,x,x2,o1,t1,x1,n,q,o,cs,cs2,log,hc,hm,h,hr,hl,hj,hf=>by
  simp only [comp,Option.some.injEq,Prod.mk.injEq] at hc; obtain ⟨rfl,hc⟩:=hc; cases hc
  have:=hf _ _ hm; rw [List.drop_zero,List.take_of_length_le (by rw [hl,Own.len h]; exact Nat.le_refl _)] at this; exact this
 | 0,.agg _,x,x2,o1,t1,x1,n,q,o,cs,cs2,log,hc,hm,h,hr,hl,hj,hf=>by
  simp only [comp,Option.some.injEq,Prod.mk.injEq] at hc; obtain ⟨rfl,hc⟩:=hc; cases hc
  have:=hf _ _ hm; rw [List.drop_zero,List.take_of_length_le (by rw [hl,Own.len h]; exact Nat.le_refl _)] at this; exact this
 | 0,.slice _ _,x,x2,o1,t1,x1,n,q,o,cs,cs2,log,hc,hm,h,hr,hl,hj,hf=>by
  simp only [comp,Option.some.injEq,Prod.mk.injEq] at hc; obtain ⟨rfl,hc⟩:=hc; cases hc
  have:=hf _ _ hm; rw [List.drop_zero,List.take_of_length_le (by rw [hl,Own.len h]; exact Nat.le_refl _)] at this; exact this
theorem compT_comp:{i:Nat}→{t:Ty}→{x:t.den}→{o1:Nat}→{t1:Ty}→compT i t=some (o1,t1)→∃ x1,comp i t x=some (o1,⟨t1,x1⟩)
 | 0,.pair a b,x,o1,t1,h=>by simp only [compT,Option.some.injEq,Prod.mk.injEq] at h; obtain ⟨rfl,rfl⟩:=h; exact ⟨x.1,rfl⟩
 | i+1,.pair a b,x,o1,t1,h=>by
  simp only [compT,Option.map_eq_some_iff] at h
  obtain ⟨⟨o2,t2⟩,h,he⟩:=h
  simp only [Prod.mk.injEq] at he
  obtain ⟨rfl,rfl⟩:=he
  obtain ⟨x1,hx⟩:=compT_comp (x:=x.2) h
  exact ⟨x1,by simp [comp,hx]⟩
 | 0,.int _,x,_,_,h=>by simp only [compT,Option.some.injEq,Prod.mk.injEq] at h; obtain ⟨rfl,rfl⟩:=h; exact ⟨x,rfl⟩
 | 0,.bool,x,_,_,h=>by simp only [compT,Option.some.injEq,Prod.mk.injEq] at h; obtain ⟨rfl,rfl⟩:=h; exact ⟨x,rfl⟩
 | 0,.str,x,_,_,h=>by simp only [compT,Option.some.injEq,Prod.mk.injEq] at h; obtain ⟨rfl,rfl⟩:=h; exact ⟨x,rfl⟩
 | 0,.raw _,x,_,_,h=>by simp only [compT,Option.some.injEq,Prod.mk.injEq] at h; obtain ⟨rfl,rfl⟩:=h; exact ⟨x,rfl⟩
 | 0,.unit,x,_,_,h=>by simp only [compT,Option.some.injEq,Prod.mk.injEq] at h; obtain ⟨rfl,rfl⟩:=h; exact ⟨x,rfl⟩
 | 0,.agg _,x,_,_,h=>by simp only [compT,Option.some.injEq,Prod.mk.injEq] at h; obtain ⟨rfl,rfl⟩:=h; exact ⟨x,rfl⟩
 | 0,.slice _ _,x,_,_,h=>by simp only [compT,Option.some.injEq,Prod.mk.injEq] at h; obtain ⟨rfl,rfl⟩:=h; exact ⟨x,rfl⟩
theorem modP_own {q':List Nat} {o' g':Nat} {cur cur':Array Value} {e':TypeId} {n':Nat} {t':Ty} {x' y:t'.den}
  (hu:Upd w w' L L' S S' s q' o' t'.sz g' cur cur' e') (hy:Own w' L' S' s n' t' y q' o' ((cur'.toList.drop o').take t'.sz)) :
  {p:List St}→{n:Nat}→{t:Ty}→{x x2:t.den}→{q:List Nat}→{o:Nat}→{g1:Nat}→{cur1:Array Value}→{e1:TypeId}→{log log2:List Nat} →
  node q o p=(q',o')→L g1 = .own s q→w.heap[g1]? = some (.cells cur1 e1 (0,0))→o+t.sz≤cur1.size→Own w L S s n t x q o ((cur1.toList.drop o).take t.sz) →
  (getP p n t x).Runs T ⟨n',t',x'⟩ log→(modP p t x t' y).Runs T x2 log2 →
  ∃ cur2,w'.heap[g1]? = some (.cells cur2 e1 (0,0))∧L' g1 = .own s q∧cur2.size=cur1.size∧(∀ i,(i < o∨o+t.sz≤i)→cur2[i]? = cur1[i]?) ∧
   Own w' L' S' s n t x2 q o ((cur2.toList.drop o).take t.sz)
 | [],n,t,x,x2,q,o,g1,cur1,e1,log,log2,hn,hg1,hh,hsz,h,hr,hm=>by
  obtain ⟨he,_⟩:=hr
  cases he
  simp only [node,Prod.mk.injEq] at hn
  obtain ⟨rfl,rfl⟩:=hn
  simp only [modP,dif_pos] at hm
  obtain ⟨rfl,_⟩:=hm
  obtain rfl:=hu.inj g1 hg1
  have e0:=hu.h0
  rw [hh] at e0
  injection e0 with e0
  injection e0 with e0 e2 _
  subst e0 e2
  exact ⟨cur',hu.h1,hu.hL',hu.hsz,hu.hout,hy⟩
 | .fld i off::p,n,.agg t,x,x2,q,o,g1,cur1,e1,log,log2,hn,hg1,hh,hsz,h,hr,hm=>by
  have hreach:Reach q o (Ty.agg t).sz q' o' t'.sz:=by
   have:=getP_reach (q:=q) (o:=o) hr
   rwa [hn] at this
  simp only [getP] at hr
  simp only [modP] at hm
  split at hr
  ·rename_i o1 t1 x1 hc
   split at hr
   ·rename_i ho
    subst ho
    split at hm
    ·split at hm
     ·rename_i o2 t2 hc2 ho2
      subst ho2
      simp only [Own,Ty.sz] at h hsz
      simp only [node] at hn
      have h1:=comp_own hc h
      have hcx:compT i t=some (o2,t1):=by
       obtain ⟨x9,hx9⟩:=compT_comp (t:=t) (x:=x) hc2
       rw [hc] at hx9
       simp only [Option.some.injEq,Prod.mk.injEq] at hx9
       rw [hc2]
       have:=congrArg Sigma.fst hx9.2
       simp at this
       rw [this]
      have hr1:Reach q (o+o2) t1.sz q' o' t'.sz:=by
       have:=getP_reach (q:=q) (o:=o+o2) hr
       rwa [hn] at this
      have hin:((cur1.toList.drop (o+o2)).take t1.sz)=((((cur1.toList.drop o).take t.sz).drop o2).take t1.sz):=by
       rw [List.drop_take,List.take_take,List.drop_drop,Nat.min_eq_left (by omega)]
      have key:∀ y1 log1,(modP p t1 x1 t' y).Runs T y1 log1→_:=fun y1 log1 hy1 =>
       modP_own hu hy (p:=p) (q:=q) (o:=o+o2) (g1:=g1) (cur1:=cur1) (e1:=e1) hn hg1 hh (by omega) (by rw [hin]; exact h1.2) hr hy1
      have hrun:∃ y1 log1,(modP p t1 x1 t' y).Runs T y1 log1:=modC_runs hc hm
      obtain ⟨y1,log1,hy1⟩:=hrun
      obtain ⟨cur2,k1,k2,k3,k4,k5⟩:=key y1 log1 hy1
      refine ⟨cur2,k1,k2,k3,fun i hi=>k4 i (by simp only [Ty.sz] at hi; omega),?_⟩
      simp only [Own,Ty.sz]
      refine modC_own hu (cs:=(cur1.toList.drop o).take t.sz) hc hm h hr1 (by simp; omega) (fun j hj => ?_) (fun z1 log3 hz => ?_)
      ·rw [List.getElem?_take,List.getElem?_take]
       split
       ·rw [List.getElem?_drop,List.getElem?_drop]
        have:=k4 (o+j) (by omega)
        simpa using this
       ·rfl
      ·obtain ⟨cur3,j1,j2,j3,j4,j5⟩:=key z1 log3 hz
       rw [k1] at j1
       injection j1 with j1
       injection j1 with j1 _ _
       subst j1
       rw [List.drop_take,List.take_take,List.drop_drop,Nat.min_eq_left (by omega)]
       exact j5
     ·exact hm.elim
    ·exact hm.elim
   ·exact hr.elim
  ·exact hr.elim
 | .idx sz i::p,n+1,.slice e t,xs,x2,q,o,g1,cur1,e1,log,log2,hn,hg1,hh,hsz,h,hr,hm=>by
  simp only [getP] at hr
  simp only [modP] at hm
  split at hr
  ·rename_i hz
   subst hz
   obtain ⟨y0,hy0,hr⟩:=hr
   simp only [if_true] at hm
   obtain ⟨y9,hy9,hm⟩:=hm
   obtain rfl:y0=y9:=by rw [hy0] at hy9; exact Option.some.inj hy9
   obtain ⟨z,l1,l2,rfl,hm1,hm2⟩:=M.runs_bind hm
   obtain ⟨w9,hw9,rfl,_⟩:=hm2
   injection hw9 with hw9
   subst hw9
   obtain ⟨hi,h0,rfl⟩:=getI_some hy0
   simp only [node] at hn
   have hr1:Reach (q++[o]) (i.toNat*t.sz) t.sz q' o' t'.sz:=by
    have:=getP_reach (q:=q++[o]) (o:=i.toNat*t.sz) hr
    rwa [hn] at this
   simp only [Own] at h
   rcases h with ⟨_,rfl⟩ | ⟨g2,cap,cur2,hcs,hL,hg,h5,h6,h7,h8⟩
   ·exact absurd hi (by simp)
   ·have hb:i.toNat*t.sz+t.sz≤cur2.size:=by
     rw [h7]
     calc i.toNat*t.sz+t.sz=(i.toNat+1)*t.sz:=by rw [Nat.add_mul,Nat.one_mul]
      _≤cap*t.sz:=Nat.mul_le_mul_right _ (by omega)
    obtain ⟨cur3,k1,k2,k3,k4,k5⟩:=modP_own hu hy (p:=p) (q:=q++[o]) (o:=i.toNat*t.sz) (g1:=g2) (cur1:=cur2) (e1:=e) hn hL hg hb (h8 _ hi) hr hm1
    have hq:q≠q'∧¬ Under q' o' t'.sz q:=by
     rcases hr1 with ⟨hq,_⟩ | ⟨d,r,_,hq⟩
     ·subst hq
      refine ⟨fun h => ?_,fun ⟨d,r,_,h⟩ => ?_⟩
      ·have:=congrArg List.length h; simp at this
      ·have:=congrArg List.length h; simp at this <;> omega
     ·subst hq
      refine ⟨fun h => ?_,fun ⟨d,r,_,h⟩ => ?_⟩
      ·have:=congrArg List.length h; simp at this <;> omega
      ·have:=congrArg List.length h; simp at this <;> omega
    obtain ⟨m1,m2⟩:=hu.hO g1 q hg1 hq.1 hq.2
    refine ⟨cur1,by rw [m2]; exact hh,by rw [m1]; exact hg1,rfl,fun _ _=>rfl,?_⟩
    simp only [Own]
    refine .inr ⟨g2,cap,cur3,by rw [hcs]; simp,k2,k1,by simpa using h5,h6,by rw [k3]; exact h7,fun j hj => ?_⟩
    simp only [List.length_set] at hj
    by_cases hji:j=i.toNat
    ·subst hji
     have:(xs.set i.toNat z)[i.toNat]'(by simpa using hi)=z:=List.getElem_set_self _
     rw [this]
     exact k5
    ·have he:(xs.set i.toNat z)[j]'(by simpa using hj)=xs[j]:=List.getElem_set_ne (fun e=>hji e.symm) _
     rw [he]
     have hd:(j*t.sz+t.sz≤i.toNat*t.sz)∨(i.toNat*t.sz+t.sz≤j*t.sz):=by
      rcases Nat.lt_or_gt_of_ne hji with h | h
      ·left
       calc j*t.sz+t.sz=(j+1)*t.sz:=by rw [Nat.add_mul,Nat.one_mul]
        _≤i.toNat*t.sz:=Nat.mul_le_mul_right _ h
      ·right
       calc i.toNat*t.sz+t.sz=(i.toNat+1)*t.sz:=by rw [Nat.add_mul,Nat.one_mul]
        _≤j*t.sz:=Nat.mul_le_mul_right _ h
     rw [take_drop_same (cur:=cur2) (fun i' h1 h2=>k4 i' (by omega))]
     exact Own.sib hu hr1 (by omega) (h8 j hj)
  ·exact hr.elim
 | .idx _ _::p,0,.slice _ _,_,_,_,_,_,_,_,_,_,_,_,_,_,_,hr,_=>by simp only [getP] at hr; exact hr.elim
 | .fld _ _::p,_,.int _,_,_,_,_,_,_,_,_,_,_,_,_,_,_,hr,_=>by simp only [getP] at hr; exact hr.elim
 | .fld _ _::p,_,.bool,_,_,_,_,_,_,_,_,_,_,_,_,_,_,hr,_=>by simp only [getP] at hr; exact hr.elim
 | .fld _ _::p,_,.str,_,_,_,_,_,_,_,_,_,_,_,_,_,_,hr,_=>by simp only [getP] at hr; exact hr.elim
 | .fld _ _::p,_,.raw _,_,_,_,_,_,_,_,_,_,_,_,_,_,_,hr,_=>by simp only [getP] at hr; exact hr.elim
 | .fld _ _::p,_,.unit,_,_,_,_,_,_,_,_,_,_,_,_,_,_,hr,_=>by simp only [getP] at hr; exact hr.elim
 | .fld _ _::p,_,.pair _ _,_,_,_,_,_,_,_,_,_,_,_,_,_,_,hr,_=>by simp only [getP] at hr; exact hr.elim
 | .fld _ _::p,_,.slice _ _,_,_,_,_,_,_,_,_,_,_,_,_,_,_,hr,_=>by simp only [getP] at hr; exact hr.elim
 | .idx _ _::p,_,.int _,_,_,_,_,_,_,_,_,_,_,_,_,_,_,hr,_=>by simp only [getP] at hr; exact hr.elim
 | .idx _ _::p,_,.bool,_,_,_,_,_,_,_,_,_,_,_,_,_,_,hr,_=>by simp only [getP] at hr; exact hr.elim
 | .idx _ _::p,_,.str,_,_,_,_,_,_,_,_,_,_,_,_,_,_,hr,_=>by simp only [getP] at hr; exact hr.elim
 | .idx _ _::p,_,.raw _,_,_,_,_,_,_,_,_,_,_,_,_,_,_,hr,_=>by simp only [getP] at hr; exact hr.elim
 | .idx _ _::p,_,.unit,_,_,_,_,_,_,_,_,_,_,_,_,_,_,hr,_=>by simp only [getP] at hr; exact hr.elim
 | .idx _ _::p,_,.pair _ _,_,_,_,_,_,_,_,_,_,_,_,_,_,_,hr,_=>by simp only [getP] at hr; exact hr.elim
 | .idx _ _::p,_,.agg _,_,_,_,_,_,_,_,_,_,_,_,_,_,_,hr,_=>by simp only [getP] at hr; exact hr.elim
 where
 modC_runs {f:(t1:Ty)→t1.den→M t1.den}:{i:Nat}→{t:Ty}→{x x2:t.den}→{o1:Nat}→{t1:Ty}→{x1:t1.den}→{log:List Nat} →
   comp i t x=some (o1,⟨t1,x1⟩)→(modC i t x f).Runs T x2 log→∃ y1 log1,(f t1 x1).Runs T y1 log1
  | 0,.pair a b,x,x2,o1,t1,x1,log,hc,hm=>by
   simp only [comp,Option.some.injEq,Prod.mk.injEq] at hc
   obtain ⟨rfl,hc⟩:=hc
   cases hc
   obtain ⟨y,l1,l2,rfl,hm1,hm2⟩:=M.runs_bind hm
   exact ⟨_,_,hm1⟩
  | i+1,.pair a b,x,x2,o1,t1,x1,log,hc,hm=>by
   simp only [comp,Option.map_eq_some_iff] at hc
   obtain ⟨⟨o2,t2,x2'⟩,hc,he⟩:=hc
   simp only [Prod.mk.injEq] at he
   obtain ⟨rfl,he⟩:=he
   cases he
   obtain ⟨y,l1,l2,rfl,hm1,hm2⟩:=M.runs_bind hm
   exact modC_runs hc hm1
  | 0,.int _,x,x2,o1,t1,x1,log,hc,hm=>by simp only [comp,Option.some.injEq,Prod.mk.injEq] at hc; obtain ⟨rfl,hc⟩:=hc; cases hc; exact ⟨_,_,hm⟩
  | 0,.bool,x,x2,o1,t1,x1,log,hc,hm=>by simp only [comp,Option.some.injEq,Prod.mk.injEq] at hc; obtain ⟨rfl,hc⟩:=hc; cases hc; exact ⟨_,_,hm⟩
  | 0,.str,x,x2,o1,t1,x1,log,hc,hm=>by simp only [comp,Option.some.injEq,Prod.mk.injEq] at hc; obtain ⟨rfl,hc⟩:=hc; cases hc; exact ⟨_,_,hm⟩
  | 0,.raw _,x,x2,o1,t1,x1,log,hc,hm=>by simp only [comp,Option.some.injEq,Prod.mk.injEq] at hc; obtain ⟨rfl,hc⟩:=hc; cases hc; exact ⟨_,_,hm⟩
  | 0,.unit,x,x2,o1,t1,x1,log,hc,hm=>by simp only [comp,Option.some.injEq,Prod.mk.injEq] at hc; obtain ⟨rfl,hc⟩:=hc; cases hc; exact ⟨_,_,hm⟩
  | 0,.agg _,x,x2,o1,t1,x1,log,hc,hm=>by simp only [comp,Option.some.injEq,Prod.mk.injEq] at hc; obtain ⟨rfl,hc⟩:=hc; cases hc; exact ⟨_,_,hm⟩
  | 0,.slice _ _,x,x2,o1,t1,x1,log,hc,hm=>by simp only [comp,Option.some.injEq,Prod.mk.injEq] at hc; obtain ⟨rfl,hc⟩:=hc; cases hc; exact ⟨_,_,hm⟩
end
end Go.Proofs.YtkanidldnnfloaaGreat.P.Am
set_option linter.unusedVariables false
set_option linter.unusedSimpArgs false
namespace Go.Proofs.YtkanidldnnfloaaGreat.P.Am
def Form:Ty→List Value→Value→Prop
 | .agg _,cs,c=>c = .agg cs.toArray
 | _,cs,c=>cs=[c]
def SL (L:Nat→Lab) (l:Option Nat):Nat→Prop:=fun k=>L k = .stable∨∃ r q,l=some r∧L k = .own r q
def compOwns:Option (Nat×(t:Ty)×t.den)→Bool
 | some (n,⟨t,_⟩)=>n != 0 && t.depth != 0
 | none=>false
def V.owns:V→Bool
 | .d _ n t _=>n != 0 && t.depth != 0
 | .tup _=>true
 | .part .. => true
 | .box .. => true
 | .hole .. => true
 | .odd .. => true
 | _=>false
def V.deep:V→Bool
 | .d _ n t _=>n != 0 && t.depth != 0
 | .box _ n t _=>n != 0 && t.depth != 0
 | .odd .. => true
 | _=>false
theorem V.owns_of_deep:{v:V}→v.deep=true→v.owns=true
 | .d _ _ _ _,h=>h
 | .box _ _ _ _,_=>rfl
 | .odd _ _ _ _,_=>rfl
 | .dead,h | .tup _,h | .rp _ _ _,h | .ptr _ _ _,h | .view _ _ _,h | .hole _ _,h | .part _ _ _ _ _,h | .same _ _,h=>by simp [V.deep] at h
def V.isD:V→Bool
 | .d .. => true
 | _=>false
def TRep (w:World) (L:Nat→Lab) (s:Nat):Nat→List (Nat×Option (Nat×(t:Ty)×t.den))→List Value→Prop
 | _,[],vs=>vs=[]
 | o,(sz,c)::l,vs=>∃ v vs',vs=v::vs'∧(∀ n t x,c=some (n,⟨t,x⟩)→t.sz=sz∧∃ cs,Form t cs v∧Own w L (SL L none) s n t x [] o cs)∧TRep w L s (o+sz) l vs'
def MixF (w:World) (L:Nat→Lab) (s:Nat):Nat→(t:Ty)→t.den→Nat→List Value→Prop
 | m,.pair a b,x,o,cs=>∃ c0 c1,cs=c0++c1∧Own w L (SL L none) s (cond (m.testBit 0) a.depth 0) a x.1 [] o c0∧MixF w L s (m / 2) b x.2 (o+a.sz) c1
 | m,t,x,o,cs=>Own w L (SL L none) s (cond (m.testBit 0) t.depth 0) t x [] o cs
def OddRep (w:World) (L:Nat→Lab) (s:Nat):Nat→Nat→(t:Ty)→t.den→Value→Prop
 | 0,n,.pair (.int _) (.slice e t),x,c=>(c = .slice none 0 0∧x.2=[])∨∃ g cap cur,c = .slice (some ⟨g,0,none⟩) (x.2:List t.den).length cap∧L g = .own s [0]∧w.heap[g]? = some (.cells cur e (0,0)) ∧
   x.2.length≤cap∧cap≤maxLen∧cur.size=cap*t.sz∧∀ (j:Nat) (h:j < x.2.length),x.1≤(j:Int)→Own w L (SL L none) s n t (x.2[j]) [0] (j*t.sz) ((cur.toList.drop (j*t.sz)).take t.sz)
 | 1,m,.agg t,x,c=>∃ g cur e,c = .pointer (some ⟨g,0,none⟩)∧L g = .own s []∧w.heap[g]? = some (.cells cur e (0,0))∧cur.size=t.sz∧MixF w L s m t x 0 cur.toList
 | _,_,_,_,_=>False
def SRep (L:Nat→Lab) (T:List V) (tm:Array Value) (s:Nat):V→World→Value→Prop
 | .dead,_,_=>True
 | .d l n t x,w,c=>(∀ r,l=some r→(T.getD r .dead).deep=true)∧∃ cs,Form t cs c∧Own w L (SL L l) s n t x [] 0 cs
 | .tup l,w,c=>∃ vs,c = .tuple vs∧TRep w L s 0 l vs.toList
 | .box l n t x,w,c=>(∀ r,l=some r→(T.getD r .dead).deep=true)∧∃ g cur e,c = .pointer (some ⟨g,0,none⟩)∧L g = .own s []∧w.heap[g]? = some (.cells cur e (0,0))∧cur.size=t.sz ∧
   Own w L (SL L l) s n t x [] 0 cur.toList
 | .rp l t x,w,c=>(∀ r,l=some r→(T.getD r .dead).deep=true)∧∃ g o cs,c = .pointer (some ⟨g,o,none⟩)∧SL L l g∧Rd w (SL L l) t x cs∧∀ i v,cs[i]? = some v→w.cell? ⟨g,o+i,none⟩=some v
 | .ptr r p t,_,c=>∃ g,c = .pointer (some ⟨g,(node [] 0 p).2,none⟩)∧L g = .own r (node [] 0 p).1
 | .view r p t,w,c=>(T.getD r .dead).deep=true∧((p=[]∧c=tm.getD r undef∧∃ l n x,T.getD r .dead = .d l n t x∧(V.d l n t x).owns=true) ∨
   ∃ g cur e,((T.getD r .dead).isD=false∨p≠[])∧L g = .own r (node [] 0 p).1∧w.heap[g]? = some (.cells cur e (0,0))∧(node [] 0 p).2+t.sz≤cur.size∧Form t ((cur.toList.drop (node [] 0 p).2).take t.sz) c)
 | .hole v p,w,c=>v.root=none∧∃ g cur e,L g = .own s (node [] 0 p).1∧w.heap[g]? = some (.cells cur e (0,0))∧(node [] 0 p).2 < cur.size ∧
   SRep L T tm s v (w.setCell ⟨g,(node [] 0 p).2,none⟩ (.slice none 0 0)) c
 | .odd k n t x,w,c=>OddRep w L s k n t x c
 | .same r t,_,c=>c=tm.getD r undef∧∃ n k x,T.getD r .dead = .odd 0 n (.pair (.int k) t) x
 | .part r i n t x,w,_=>(T.getD r .dead).owns=true∧∃ vs v cs,tm.getD r undef = .tuple vs∧vs[i]? = some v∧Form t cs v∧Own w L (SL L none) s n t x [] 0 cs
class Glob where
 ok:World→(Nat→Lab)→Prop
 keep:∀ {w w':World} {L L':Nat→Lab},ok w L→(∀ k,k < w.heap.size→(L k = .stable∨L k = .other)→(L' k = .stable∨L' k = .other)∧w'.heap[k]? = w.heap[k]?)→ok w' L'
structure Fr [Glob] (w0:World) (L0:Nat→Lab) (w:World) (L:Nat→Lab):Prop where
 os:w.os=w0.os
 tape:w.tape=w0.tape
 output:w.output=w0.output
 size:w0.heap.size≤w.heap.size
 drawn:w0.drawn≤w.drawn
 keep:∀ k,k < w0.heap.size→(L0 k = .stable∨L0 k = .other)→L k=L0 k∧w.heap[k]? = w0.heap[k]?
 glob:Glob.ok w0 L0
structure Inv [Glob] (w0:World) (L0:Nat→Lab) (N:Nat) (vs:List Nat) (T:List V) (a:Act) (w:World) (L:Nat→Lab):Prop where
 size:a.tmps.size=N
 len:T.length=N
 dfr:a.defers=[]
 fr:Fr w0 L0 w L
 free:∀ k,w.heap.size≤k→L k = .free
 inj:∀ k k' s q,L k = .own s q→L k' = .own s q→k=k'
 owner:∀ k s q,L k = .own s q→(T.getD s .dead).owns=true
 roots:∀ s r,(T.getD s .dead).on r=true→r∈vs
 slots:∀ s,SRep L T a.tmps s (T.getD s .dead) w (a.tmps.getD s undef)
section
variable {w w' w0:World} {S S':Nat→Prop} {L L' L0:Nat→Lab} {s N:Nat} {vs:List Nat} {T T':List V} {tm tm':Array Value} {a:Act}
theorem SL.keep {l:Option Nat} (H:∀ k,(L k = .stable∨∃ r q,L k = .own r q∧l=some r)→L' k=L k∧w'.heap[k]? = w.heap[k]?) :
  ∀ k,SL L l k→SL L' l k∧w'.heap[k]? = w.heap[k]? := by
 rintro k (h | ⟨r,q,hl,h⟩)
 ·have:=H k (.inl h)
  exact ⟨.inl (this.1.trans h),this.2⟩
 ·have:=H k (.inr ⟨r,q,h,hl⟩)
  exact ⟨.inr ⟨r,q,hl,this.1.trans h⟩,this.2⟩
theorem Own.keep [Glob] {l:Option Nat} {n:Nat} {t:Ty} {x:t.den} {q:List Nat} {o:Nat} {cs:List Value}
  (H:∀ k,(L k = .stable∨∃ r q,L k = .own r q∧(r=s∨l=some r))→L' k=L k∧w'.heap[k]? = w.heap[k]?)
  (h:Own w L (SL L l) s n t x q o cs):Own w' L' (SL L' l) s n t x q o cs :=
 Own.move (SL.keep fun k hk=>H k (hk.imp id fun ⟨r,q,h,hl⟩=>⟨r,q,h,.inr hl⟩)) (fun k d rest hd hk=>by
  have:=H k (.inr ⟨s,_,hk,.inl rfl⟩)
  exact ⟨this.1.trans hk,this.2⟩) h
theorem setCell_heap {w w':World} {k:Nat} (h:w'.heap[k]? = w.heap[k]?) (a:Addr) (u:Value):(w'.setCell a u).heap[k]? = (w.setCell a u).heap[k]? := by
 simp only [World.setCell,Array.getElem?_modify]
 split
 ·rw [h]
 ·exact h
theorem TRep.keep [Glob]:{l:List (Nat×Option (Nat×(t:Ty)×t.den))}→{o:Nat}→{vs:List Value} →
  (∀ k,(L k = .stable∨∃ q,L k = .own s q)→L' k=L k∧w'.heap[k]? = w.heap[k]?)→TRep w L s o l vs→TRep w' L' s o l vs
 | [],_,_,_,h=>h
 | (sz,c)::l,o,vs,H,⟨v,vs',h1,h2,h3⟩=>⟨v,vs',h1,fun n t x hc=>by
   obtain ⟨h4,cs,h5,h6⟩:=h2 n t x hc
   exact ⟨h4,cs,h5,Own.keep (fun k hk=>H k (hk.imp id fun ⟨r,q,h,hl⟩=>by
    rcases hl with rfl | hl
    ·exact ⟨q,h⟩
    ·cases hl)) h6⟩,TRep.keep H h3⟩
theorem MixF.keep [Glob] {L L':Nat→Lab} (H:∀ k,(L k = .stable∨∃ q,L k = .own s q)→L' k=L k∧w'.heap[k]? = w.heap[k]?):{m:Nat}→{t:Ty}→{x:t.den}→{o:Nat}→{cs:List Value}→MixF w L s m t x o cs→MixF w' L' s m t x o cs:=by
 have HO:∀ {n:Nat} {t:Ty} {x:t.den} {o:Nat} {cs:List Value},Own w L (SL L none) s n t x [] o cs→Own w' L' (SL L' none) s n t x [] o cs:=fun ho=>Own.keep (fun k hk=>H k (hk.imp id fun ⟨r,q,h1,hl⟩=>by
  rcases hl with rfl | hl
  ·exact ⟨q,h1⟩
  ·cases hl)) ho
 intro m t
 induction t generalizing m with
 | pair a b _ ih =>
  intro x o cs h
  obtain ⟨c0,c1,h1,h2,h3⟩:=h
  exact ⟨c0,c1,h1,HO h2,ih h3⟩
 | _=>intro x o cs h; simp only [MixF] at h ⊢; exact HO h
theorem OddRep.keep [Glob] {k0 n:Nat} {t:Ty} {x:t.den} {c:Value} (H:∀ k,(L k = .stable∨∃ q,L k = .own s q)→L' k=L k∧w'.heap[k]? = w.heap[k]?) (h:OddRep w L s k0 n t x c):OddRep w' L' s k0 n t x c:=by
 unfold OddRep at h ⊢
 split at h
 ·rcases h with h | ⟨g,cap,cur,h1,h2,h3,h4,h5,h6,h7⟩
  ·exact .inl h
  ·have hh:=H g (.inr ⟨_,h2⟩)
   exact .inr ⟨g,cap,cur,h1,hh.1.trans h2,hh.2.trans h3,h4,h5,h6,fun j hj hx=>Own.keep (fun k hk=>H k (hk.imp id fun ⟨r,q,h,hl⟩=>by
    rcases hl with rfl | hl
    ·exact ⟨q,h⟩
    ·cases hl)) (h7 j hj hx)⟩
 ·obtain ⟨g,cur,e,h1,h2,h3,h4,h5⟩:=h
  have hh:=H g (.inr ⟨_,h2⟩)
  exact ⟨g,cur,e,h1,hh.1.trans h2,hh.2.trans h3,h4,MixF.keep H h5⟩
 ·exact h.elim
theorem SRep.keep [Glob]:{v:V}→{c:Value}→{w w':World} →
  (∀ k,(L k = .stable∨∃ r q,L k = .own r q∧(r=s∨v.on r=true))→L' k=L k∧w'.heap[k]? = w.heap[k]?) →
  (hr:∀ r,v.on r=true→(T.getD r .dead).owns=true→T'.getD r .dead=T.getD r .dead∧tm'.getD r undef=tm.getD r undef) →
  SRep L T tm s v w c→SRep L' T' tm' s v w' c
 | .dead,_,_,_,_,_,_=>trivial
 | .d l n t x,_,_,_,H,hr,⟨h0,cs,h1,h2⟩=>⟨fun r hl=>by subst hl; have:=h0 r rfl; rwa [(hr r (by simp [V.on,V.root]) (V.owns_of_deep this)).1],cs,h1,Own.keep (fun k hk=>H k (hk.imp id fun ⟨r,q,h,hl⟩=>⟨r,q,h,hl.imp id fun e=>by subst e; simp [V.on,V.root]⟩)) h2⟩
 | .tup l,_,_,_,H,_,⟨vs,h1,h2⟩=>⟨vs,h1,TRep.keep (fun k hk=>H k (hk.imp id fun ⟨q,h⟩=>⟨s,q,h,.inl rfl⟩)) h2⟩
 | .box l n t x,_,_,_,H,hr,⟨h0,g,cur,e,h1,h2,h3,h4,h5⟩=>by
  have hh:=H g (.inr ⟨s,_,h2,.inl rfl⟩)
  exact ⟨fun r hl=>by subst hl; have:=h0 r rfl; rwa [(hr r (by simp [V.on,V.root]) (V.owns_of_deep this)).1],g,cur,e,h1,hh.1.trans h2,hh.2.trans h3,h4,Own.keep (fun k hk=>H k (hk.imp id fun ⟨r,q,h,hl⟩=>⟨r,q,h,hl.imp id fun e=>by subst e; simp [V.on,V.root]⟩)) h5⟩
 | .rp l t x,_,_,_,H,hr,⟨h0,g,o,cs,h1,h2,h3,h4⟩=>by
  have HS:∀ k,SL L l k→SL L' l k∧_:=SL.keep (fun k hk=>H k (hk.imp id fun ⟨r,q,h,hl⟩=>⟨r,q,h,.inr (by subst hl; simp [V.on,V.root])⟩))
  have hh:=HS g h2
  refine ⟨fun r hl=>by subst hl; have:=h0 r rfl; rwa [(hr r (by simp [V.on,V.root]) (V.owns_of_deep this)).1],g,o,cs,h1,hh.1,Rd.move HS h3,fun i v hv => ?_⟩
  rw [World.cell?_of_block hh.2]
  exact h4 i v hv
 | .ptr r p t,_,_,_,H,_,⟨g,h1,h2⟩=>⟨g,h1,(H g (.inr ⟨r,_,h2,.inr (by simp [V.on,V.root])⟩)).1.trans h2⟩
 | .view r p t,_,_,_,H,hr,⟨hdp,h⟩=>by
  have hh0:=hr r (by simp [V.on,V.root]) (V.owns_of_deep hdp)
  refine ⟨by rw [hh0.1]; exact hdp,?_⟩
  rcases h with ⟨h1,h2,l,n,x,h3,h4⟩ | ⟨g,cur,e,hp,h1,h2,h3,h4⟩
  ·exact .inl ⟨h1,h2.trans hh0.2.symm,l,n,x,hh0.1.trans h3,h4⟩
  ·have hh:=H g (.inr ⟨r,_,h1,.inr (by simp [V.on,V.root])⟩)
   exact .inr ⟨g,cur,e,by rw [hh0.1]; exact hp,hh.1.trans h1,hh.2.trans h2,h3,h4⟩
 | .hole v p,c,_,_,H,hr,⟨h0,g,cur,e,h1,h2,h3,h4⟩=>by
  have hh:=H g (.inr ⟨s,_,h1,.inl rfl⟩)
  refine ⟨h0,g,cur,e,hh.1.trans h1,hh.2.trans h2,h3,?_⟩
  refine SRep.keep (v:=v) (fun k hk => ?_) (fun r hr' ho=>hr r (by simpa [V.on,V.root] using hr') ho) h4
  have:=H k (hk.imp id fun ⟨r,q,h,hl⟩=>⟨r,q,h,hl.imp id fun e=>by simpa [V.on,V.root] using e⟩)
  exact ⟨this.1,setCell_heap this.2 _ _⟩
 | .odd _ _ _ _,_,_,_,H,_,h=>OddRep.keep (fun k hk=>H k (hk.imp id fun ⟨q,h⟩=>⟨s,q,h,.inl rfl⟩)) h
 | .same r t,_,_,_,H,hr,⟨h1,n,k,x,h2⟩=>by
  have hh:=hr r (by simp [V.on,V.root]) (by rw [h2]; rfl)
  exact ⟨h1.trans hh.2.symm,n,k,x,hh.1.trans h2⟩
 | .part r i n t x,c,_,_,H,hr,⟨h0,vs,v,cs,h1,h2,h3,h4⟩=>by
  have hh:=hr r (by simp [V.on,V.root]) h0
  refine ⟨by rw [hh.1]; exact h0,vs,v,cs,by rw [hh.2]; exact h1,h2,h3,Own.keep (fun k hk=>H k (hk.imp id fun ⟨r',q,h,hl⟩=>⟨r',q,h,?_⟩)) h4⟩
  rcases hl with rfl | hl
  ·exact .inl rfl
  ·cases hl
theorem Inv.upd [Glob] {a a':Act} (X:Nat→Prop) (hI:Inv w0 L0 N vs T a w L)
  (hsz:a'.tmps.size=N) (hlen:T'.length=N) (hdf:a'.defers=[]) (hfr:Fr w0 L0 w' L') (hfree:∀ k,w'.heap.size≤k→L' k = .free)
  (hinj:∀ k k' s q,L' k = .own s q→L' k' = .own s q→k=k') (hown:∀ k s q,L' k = .own s q→(T'.getD s .dead).owns=true)
  (hkeep:∀ s,¬ X s→∀ k,(L k = .stable∨∃ r q,L k = .own r q∧(r=s∨(T.getD s .dead).on r=true))→L' k=L k∧w'.heap[k]? = w.heap[k]?)
  (hsame:∀ s,¬ X s→T'.getD s .dead=T.getD s .dead∧a'.tmps.getD s undef=a.tmps.getD s undef)
  (hroots:∀ s r,(T'.getD s .dead).on r=true→r∈vs)
  (hlook:∀ s r,¬ X s→(T.getD s .dead).on r=true→(T.getD r .dead).owns=true→T'.getD r .dead=T.getD r .dead∧a'.tmps.getD r undef=a.tmps.getD r undef)
  (hX:∀ s,X s→SRep L' T' a'.tmps s (T'.getD s .dead) w' (a'.tmps.getD s undef)):Inv w0 L0 N vs T' a' w' L':=by
 refine ⟨hsz,hlen,hdf,hfr,hfree,hinj,hown,hroots,fun s => ?_⟩
 by_cases hs:X s
 ·exact hX s hs
 ·obtain ⟨h1,h2⟩:=hsame s hs
  rw [h1,h2]
  exact SRep.keep (hkeep s hs) (fun r hr ho=>hlook s r hs hr ho) (hI.slots s)
end
end Go.Proofs.YtkanidldnnfloaaGreat.P.Am
set_option linter.unusedVariables false
set_option linter.unusedSimpArgs false
namespace Go.Proofs.YtkanidldnnfloaaGreat.P.Am
section
variable {w w' w0:World} {S S':Nat→Prop} {L L' L0:Nat→Lab} {s N:Nat} {vs:List Nat} {T T':List V} {tm tm':Array Value} {a:Act}
def V.idle (v:V):Bool := !v.owns
theorem V.not_owns {v:V} (h:v.idle=true):v.owns=false:=by simpa [V.idle] using h
theorem idle_ne [Glob] {T:List V} {r d:Nat} (hid:(T.getD d .dead).idle=true) (h:(T.getD r .dead).owns=true):r≠d:=by
 rintro rfl
 rw [V.not_owns hid] at h
 cases h
theorem getD_set {α:Type} (l:List α) (d:Nat) (v z:α) (s:Nat):(l.set d v).getD s z=if s=d∧d < l.length then v else l.getD s z:=by
 simp only [List.getD_eq_getElem?_getD,List.getElem?_set]
 by_cases h:d=s
 ·subst h
  by_cases h2:d < l.length
  ·simp [h2]
  ·simp [h2]
 ·simp [h,Ne.symm h]
theorem getD_setA (l:Array Value) (d:Nat) (v z:Value) (s:Nat):(l.setIfInBounds d v).getD s z=if s=d∧d < l.size then v else l.getD s z:=by
 simp only [Array.getD_eq_getD_getElem?,Array.getElem?_setIfInBounds]
 by_cases h:d=s
 ·subst h
  by_cases h2:d < l.size
  ·simp [h2]
  ·simp [h2]
 ·simp [h,Ne.symm h]
structure Grows (w w':World) (L L':Nat→Lab) (d:Nat):Prop where
 os:w'.os=w.os
 tape:w'.tape=w.tape
 output:w'.output=w.output
 size:w.heap.size≤w'.heap.size
 drawn:w.drawn≤w'.drawn
 old:∀ k,k < w.heap.size→L' k=L k∧w'.heap[k]? = w.heap[k]?
 new:∀ k s q,w.heap.size≤k→L' k = .own s q→s=d
 inj:∀ k k' q,w.heap.size≤k→w.heap.size≤k'→L' k = .own d q→L' k' = .own d q→k=k'
 free:∀ k,w'.heap.size≤k→L' k = .free
theorem Grows.refl [Glob] (hI:Inv w0 L0 N vs T a w L) (d:Nat):Grows w w L L d :=
 ⟨rfl,rfl,rfl,Nat.le_refl _,Nat.le_refl _,fun _ _=>⟨rfl,rfl⟩,fun k s q hk h=>(by rw [hI.free k hk] at h; cases h),fun k k' q hk _ h _=>(by rw [hI.free k hk] at h; cases h),hI.free⟩
theorem Inv.lt [Glob] (hI:Inv w0 L0 N vs T a w L) {k:Nat} (h:L k ≠ .free):k < w.heap.size:=Nat.lt_of_not_le fun hk=>h (hI.free k hk)
theorem Inv.set [Glob] (hI:Inv w0 L0 N vs T a w L) {d:Nat} (hd:d < N) (hid:(T.getD d .dead).idle=true) (hg:Grows w w' L L' d) (v:V) (c:Value)
  (hv:∀ k q,w.heap.size≤k→L' k = .own d q→v.owns=true) (hvs:∀ r,v.on r=true→r∈vs)
  (hr:SRep L' (T.set d v) (a.tmps.setIfInBounds d c) d v w' c):Inv w0 L0 N vs (T.set d v) (a.put (some d) c) w' L':=by
 have hno:(T.getD d .dead).owns=false:=V.not_owns hid
 have hnl:∀ k q,L k ≠ .own d q:=fun k q h=>by
  have:=hI.owner k d q h
  rw [hno] at this
  cases this
 refine Inv.upd (fun s=>s=d) hI ?_ ?_ ?_ ?_ hg.free ?_ ?_ ?_ ?_ ?_ ?_ ?_
 ·simp [Act.put,hI.size]
 ·simp [hI.len]
 ·exact hI.dfr
 ·refine ⟨hg.os.trans hI.fr.os,hg.tape.trans hI.fr.tape,hg.output.trans hI.fr.output,Nat.le_trans hI.fr.size hg.size,Nat.le_trans hI.fr.drawn hg.drawn,fun k hk h0 => ?_,hI.fr.glob⟩
  have h1:=hI.fr.keep k hk h0
  have h2:=hg.old k (Nat.lt_of_lt_of_le hk hI.fr.size)
  exact ⟨h2.1.trans h1.1,h2.2.trans h1.2⟩
 ·intro k k' s q h h'
  by_cases hk:k < w.heap.size
  ·by_cases hk':k' < w.heap.size
   ·rw [(hg.old k hk).1] at h
    rw [(hg.old k' hk').1] at h'
    exact hI.inj k k' s q h h'
   ·obtain rfl:=hg.new k' s q (by omega) h'
    rw [(hg.old k hk).1] at h
    exact absurd h (hnl k q)
  ·obtain rfl:=hg.new k s q (by omega) h
   by_cases hk':k' < w.heap.size
   ·rw [(hg.old k' hk').1] at h'
    exact absurd h' (hnl k' q)
   ·exact hg.inj k k' q (by omega) (by omega) h h'
 ·intro k s q h
  rw [getD_set]
  by_cases hk:k < w.heap.size
  ·rw [(hg.old k hk).1] at h
   have:=hI.owner k s q h
   by_cases hs:s=d
   ·subst hs
    exact absurd h (hnl k q)
   ·rw [if_neg (fun h=>hs h.1)]
    exact this
  ·obtain rfl:=hg.new k s q (by omega) h
   rw [if_pos ⟨rfl,by rw [hI.len]; exact hd⟩]
   exact hv k q (by omega) h
 ·intro s hs k hk
  refine hg.old k (hI.lt ?_)
  rcases hk with hk | ⟨r,q,hk,_⟩ <;> rw [hk] <;> simp
 ·intro s hs
  rw [getD_set,if_neg (fun h=>hs h.1)]
  refine ⟨rfl,?_⟩
  show (a.tmps.setIfInBounds d c).getD s undef=_
  rw [getD_setA,if_neg (fun h=>hs h.1)]
 ·intro s r h
  rw [getD_set] at h
  split at h
  ·exact hvs r h
  ·exact hI.roots s r h
 ·intro s r hs hr ho
  have hrd:r≠d:=idle_ne hid ho
  rw [getD_set,if_neg (fun h=>hrd h.1)]
  refine ⟨rfl,?_⟩
  show (a.tmps.setIfInBounds d c).getD r undef=_
  rw [getD_setA,if_neg (fun h=>hrd h.1)]
 ·rintro s rfl
  rw [getD_set,if_pos ⟨rfl,by rw [hI.len]; exact hd⟩]
  show SRep L' (T.set s v) (a.tmps.setIfInBounds s c) s v w' ((a.tmps.setIfInBounds s c).getD s undef)
  rw [getD_setA,if_pos ⟨rfl,by rw [hI.size]; exact hd⟩]
  exact hr
theorem Inv.kill [Glob] (hI:Inv w0 L0 N vs T a w L) (g:Nat→Bool) (hlen:T'.length=N) (hT:∀ s,T'.getD s .dead=if g s=true then .dead else T.getD s .dead)
  (hc:∀ s r,g s=false→(T.getD s .dead).on r=true→(T.getD r .dead).owns=true→g r=false) :
  Inv w0 L0 N vs T' a w (fun k=>match L k with | .own s q=>if g s=true then .other else .own s q | x=>x):=by
 have hown:∀ k s q,(match L k with | .own s q=>if g s=true then Lab.other else .own s q | x=>x) = .own s q→L k = .own s q∧g s=false:=by
  intro k s q h
  split at h
  ·split at h
   ·cases h
   ·rename_i s' q' hk hg
    injection h with h1 h2
    subst h1 h2
    exact ⟨hk,by simpa using hg⟩
  ·rename_i hk
   exact absurd h (hk s q)
 refine Inv.upd (fun s=>g s=true) hI hI.size hlen hI.dfr ?_ ?_ ?_ ?_ ?_ ?_ ?_ ?_ ?_
 ·refine ⟨hI.fr.os,hI.fr.tape,hI.fr.output,hI.fr.size,hI.fr.drawn,fun k hk h0 => ?_,hI.fr.glob⟩
  have h1:=hI.fr.keep k hk h0
  refine ⟨?_,h1.2⟩
  rcases h0 with h0 | h0 <;> simp [h1.1,h0]
 ·intro k hk
  simp [hI.free k hk]
 ·intro k k' s q h h'
  exact hI.inj k k' s q (hown k s q h).1 (hown k' s q h').1
 ·intro k s q h
  obtain ⟨h1,h2⟩:=hown k s q h
  rw [hT,h2]
  simpa using hI.owner k s q h1
 ·intro s hs k hk
  refine ⟨?_,rfl⟩
  rcases hk with hk | ⟨r,q,hk,hr⟩
  ·simp [hk]
  ·have hg:g r=false:=by
    rcases hr with rfl | hr
    ·simpa using hs
    ·exact hc s r (by simpa using hs) hr (hI.owner k r q hk)
   simp [hk,hg]
 ·intro s hs
  rw [hT,if_neg hs]
  exact ⟨rfl,rfl⟩
 ·intro s r h
  rw [hT] at h
  split at h
  ·simp [V.on,V.root] at h
  ·exact hI.roots s r h
 ·intro s r hs hr ho
  have:=hc s r (by simpa using hs) hr ho
  rw [hT,this]
  exact ⟨by simp,rfl⟩
 ·intro s hs
  rw [hT,if_pos hs]
  trivial
end
end Go.Proofs.YtkanidldnnfloaaGreat.P.Am
set_option linter.unusedVariables false
set_option linter.unusedSimpArgs false
namespace Go.Proofs.YtkanidldnnfloaaGreat.P.Am
structure Ctx where
 ty:TypeId→Option Ty
 bytes:TypeId→Nat
def Ty.isAgg:Ty→Bool
 | .agg _=>true
 | _=>false
def Ty.isArr:Ty→Bool
 | .pair .unit _=>true
 | _=>false
def fieldsOk (C:Ctx) (t:Ty) (fs:Array Field):Prop :=
 (∀ (i : Nat) (f : Field), fs[i]? = some f → ∃ t1, compT i t = some (f.offset, t1) ∧ C.ty f.type = some t1 ∧ t1.sz ≠ 0 ∧ f.name ≠ "_") ∧ ∀ i r, compT i t = some r → i < fs.size
def ArrOk (P:Program) (C:Ctx) (T:TypeId) (t:Ty):Prop :=
 ∃ n e te,P.underlying T=some (.array n e)∧C.ty e=some te∧te.isAgg=false∧2≤n∧(∀ k,k < n→compT (k+1) t=some (k*te.sz,te))∧∀ k r,compT (k+1) t=some r→k < n
structure TyOk (P:Program) (C:Ctx) (T:TypeId) (t:Ty):Prop where
 info:∃ i z,P.info? T=some i∧i.size=t.sz∧i.bytes=C.bytes T∧i.zero=some z∧Form t t.zcells z
 und:match t with
  | .int k=>P.underlying T=some (.int k)
  | .bool=>P.underlying T=some .bool
  | .str=>P.underlying T=some .string
  | .raw _=>∃ d,P.underlying T=some d∧(∀ fs,d ≠ .struct fs)∧∀ n e,d ≠ .array n e
  | .agg t'=>(t'.isArr=false∧(∃ fs,P.underlying T=some (.struct fs)∧fieldsOk C t' fs)∧P.stoodInHeld T=false∧P.eqGuardType P.depth T=false)∨(t'.isArr=true∧ArrOk P C T t')
  | .slice e t'=>P.underlying T=some (.slice e)∧C.ty e=some t'
  | _=>False
def CtxOk (P:Program) (C:Ctx):Prop:=∀ T t,C.ty T=some t→TyOk P C T t
section
variable {P:Program} {C:Ctx} {w w' w0:World} {S S':Nat→Prop} {L L' L0:Nat→Lab} {s N:Nat} {vs:List Nat} {T T':List V} {tm tm':Array Value} {a:Act}
theorem TyOk.str {X:TypeId} {t:Ty} (h:TyOk P C X (.agg t)) (hn:t.isArr=false):(∃ fs,P.underlying X=some (.struct fs)∧fieldsOk C t fs)∧P.stoodInHeld X=false∧P.eqGuardType P.depth X=false:=by
 rcases h.und with h | ⟨h,_⟩
 ·exact h.2
 ·rw [hn] at h; cases h
theorem TyOk.run_isAgg {X:TypeId} {t:Ty} (h:TyOk P C X t):(isAgg X).run P w = .ok t.isAgg w:=by
 have:=h.und
 unfold isAgg
 cases t with
 | int k=>simp [run_underlying this,Ty.isAgg]
 | bool=>simp [run_underlying this,Ty.isAgg]
 | str=>simp [run_underlying this,Ty.isAgg]
 | raw z =>
  obtain ⟨d,h1,h2,h3⟩:=this
  simp only [Sem.run_bind,run_underlying h1,Result.andThen_ok]
  cases d <;> simp_all [Ty.isAgg]
 | unit=>exact this.elim
 | pair a b=>exact this.elim
 | agg t =>
  rcases this with ⟨_,⟨fs,h1,_⟩,_⟩ | ⟨_,n,e,te,h1,_⟩
  ·simp [run_underlying h1,Ty.isAgg]
  ·simp [run_underlying h1,Ty.isAgg]
 | slice e t=>simp [run_underlying this.1,Ty.isAgg]
theorem TyOk.run_sizeOf {X:TypeId} {t:Ty} (h:TyOk P C X t):(sizeOf X).run P w = .ok t.sz w:=by
 obtain ⟨i,z,h1,h2,_⟩:=h.info
 simp [sizeOf,Go.run_typeInfo w h1,h2]
theorem TyOk.sz1 {X:TypeId} {t:Ty} (h:TyOk P C X t) (ha:t.isAgg=false):t.sz=1:=by
 have:=h.und
 cases t <;> simp_all [Ty.sz,Ty.isAgg]
theorem Form.of_one {t:Ty} {cs:List Value} (h:t.sz=1) (ha:t.isAgg=false) (hl:cs.length=t.sz):∃ c,cs=[c]∧Form t cs c:=by
 rw [h] at hl
 match cs,hl with
 | [c],_=>exact ⟨c,rfl,by cases t <;> simp_all [Form,Ty.isAgg]⟩
theorem TyOk.run_loadVar [Glob] {X:TypeId} {t:Ty} (h:TyOk P C X t) {g o:Nat} {cs:List Value} (hl:cs.length=t.sz)
  (hc:∀ (i:Nat) (v:Value),cs[i]? = some v→w.cell? ⟨g,o+i,none⟩=some v):∃ c,(loadVar X ⟨g,o,none⟩).run P w = .ok c w∧Form t cs c:=by
 have hc':∀ (j:Nat) (v:Value),cs[j]? = some v→w.cell? ((⟨g,o,none⟩:Addr).add j)=some v:=fun j v hv=>by
  rw [Addr.add_lit]
  exact hc j v hv
 cases ha:t.isAgg with
 | true =>
  refine ⟨.agg cs.toArray,?_,by cases t <;> simp_all [Form,Ty.isAgg]⟩
  unfold loadVar
  simp only [Sem.run_bind,h.run_isAgg,Result.andThen_ok,ha,if_true,h.run_sizeOf]
  rw [← hl,run_loadCells_list w _ cs hc']
  rfl
 | false =>
  obtain ⟨c,rfl,hf⟩:=Form.of_one (h.sz1 ha) ha hl
  refine ⟨c,?_,hf⟩
  unfold loadVar
  have:=hc 0 c rfl
  simp only [Nat.add_zero] at this
  simp [h.run_isAgg,ha,this]
theorem cell_cells {g:Nat} {cur:Array Value} {e:TypeId} {fr:Nat×Nat} (h:w.heap[g]? = some (.cells cur e fr)) (i:Nat):w.cell? ⟨g,i,none⟩=cur[i]? := by
 simp [World.cell?,h]
theorem InB.cell [Glob] {g o sz:Nat} {cur:Array Value} {e:TypeId} {fr:Nat×Nat} (h:w.heap[g]? = some (.cells cur e fr)) :
  ∀ (i:Nat) (v:Value),((cur.toList.drop o).take sz)[i]? = some v→w.cell? ⟨g,o+i,none⟩=some v:=fun i v hv=>by
 rw [cell_cells h]
 rw [List.getElem?_take] at hv
 split at hv
 ·simpa using hv
 ·cases hv
theorem Own.rd {n:Nat}:{t:Ty}→{x:t.den}→{q:List Nat}→{o:Nat}→{cs:List Value}→(∀ k q,L k = .own s q→S' k)→(∀ k,S k→S' k)→Own w L S s n t x q o cs→Rd w S' t x cs :=
 fun {t x q o cs} H1 H2 h=>by
  have:=Own.freeze (w':=w) (L':=L) (S':=S') (m:=0) (Nat.zero_le _) (fun k hk=>⟨H2 k hk,rfl⟩) (fun k d rest _ hk=>⟨rfl,fun h=>absurd h (by omega),fun _=>H1 k _ hk⟩) h
  exact Own.rd0 this
theorem Own.at0 {t:Ty} {x:t.den} {n n':Nat} {q q':List Nat} {o o' s':Nat} {cs:List Value} (hn:n=0∨t.depth=0) (h:Own w L S s n t x q o cs) (hn':n'=0∨t.depth=0):Own w L S s' n' t x q' o' cs:=by
 by_cases hd:t.depth=0
 ·exact Own.flat hd h
 ·obtain rfl:n=0:=by omega
  obtain rfl:n'=0:=by omega
  exact Own.of_rd (Own.rd0 h)
theorem TRep.slot [Glob] {s':Nat}:{l:List (Nat×Option (Nat×(t:Ty)×t.den))}→{o:Nat}→{vs:List Value}→(∀ c∈l,compOwns c.2=false) →
  TRep w L s o l vs→TRep w L s' o l vs
 | [],_,_,_,h=>h
 | (sz,c)::l,o,vs,H,⟨v,vs',h1,h2,h3⟩=>⟨v,vs',h1,fun n t x hc=>by
   obtain ⟨h4,cs,h5,h6⟩:=h2 n t x hc
   have:=H (sz,c) (by simp)
   rw [hc] at this
   simp only [compOwns,Bool.and_eq_false_iff,bne_eq_false_iff_eq] at this
   exact ⟨h4,cs,h5,Own.at0 this h6 this⟩,TRep.slot (fun c hc=>H c (by simp [hc])) h3⟩
theorem SRep.slot [Glob] {s':Nat}:{v:V}→{c:Value}→v.owns=false→SRep L T tm s v w c→SRep L T tm s' v w c
 | .dead,_,_,_=>trivial
 | .d l n t x,c,ho,⟨h0,cs,h1,h2⟩=>by
  have hn:n=0∨t.depth=0:=by
   simp only [V.owns,Bool.and_eq_false_iff,bne_eq_false_iff_eq] at ho
   exact ho
  exact ⟨h0,cs,h1,Own.at0 hn h2 hn⟩
 | .tup _,_,ho,_=>by simp [V.owns] at ho
 | .box ..,_,ho,_=>by simp [V.owns] at ho
 | .rp ..,_,_,h=>h
 | .ptr ..,_,_,h=>h
 | .view ..,_,_,h=>h
 | .hole ..,_,ho,_=>by simp [V.owns] at ho
 | .part ..,_,ho,_=>by simp [V.owns] at ho
 | .odd ..,_,ho,_=>by simp [V.owns] at ho
 | .same ..,_,_,h=>h
theorem SRep.copy [Glob] (hI:Inv w0 L0 N vs T a w L) {d t:Nat} (hid:(T.getD d .dead).idle=true) {v v':V} {c:Value} {w':World} {L':Nat→Lab} (hg:Grows w w' L L' d)
  (ho:v.owns=false) (h:SRep L T a.tmps t v w c) (c':Value):SRep L' (T.set d v') (a.tmps.setIfInBounds d c') d v w' c:=by
 refine SRep.slot (s:=t) ho (SRep.keep (fun k hk=>hg.old k (hI.lt ?_)) (fun r _ hq => ?_) h)
 ·rcases hk with hk | ⟨r,q,hk,_⟩ <;> rw [hk] <;> simp
 ·have hrd:r≠d:=idle_ne hid hq
  rw [getD_set,if_neg (fun h=>hrd h.1),getD_setA,if_neg (fun h=>hrd h.1)]
  exact ⟨rfl,rfl⟩
end
end Go.Proofs.YtkanidldnnfloaaGreat.P.Am
set_option linter.unusedVariables false
set_option linter.unusedSimpArgs false
namespace Go.Proofs.YtkanidldnnfloaaGreat.P.Am
def constM (C:Ctx) (X:TypeId):Value→M V
 | .int k n => .ret (.d none 0 (.int k) n)
 | .bool b => .ret (.d none 0 .bool b)
 | .string s => .ret (.d none 0 .str s)
 | .pointer none => .ret (.d none 0 (.raw 0) (.pointer none))
 | .nilFunc => .ret (.d none 0 (.raw 1) .nilFunc)
 | .nilIface => .ret (.d none 0 (.raw 2) .nilIface)
 | .slice none 0 0=>match C.ty X with
  | some (.slice e t) => .ret (.d none (t.depth+1) (.slice e t) [])
  | _ => .fail
 | _ => .fail
def opnd (C:Ctx) (X:TypeId):Operand→M V
 | .const c=>constM C X c
 | .func f => .ret (.d none 0 (.raw 1) (.func (.func f) #[] #[]))
 | .tmp t => .get t .ret
 | .global _ => .fail
def copyOf (t:Nat):V→M V
 | .d l n t' x=>if (n != 0 && t'.depth != 0)=true then .ret (.view t [] t') else .ret (.d l n t' x)
 | .box _ _ t' _ => .ret (.ptr t [] t')
 | .rp l t' x => .ret (.rp l t' x)
 | .ptr r p t' => .ret (.ptr r p t')
 | .view r p t' => .ret (.view r p t')
 | _ => .fail
def moveM (C:Ctx) (X:TypeId):Operand→M V
 | .tmp t => .get t (copyOf t)
 | x=>opnd C X x
def intV (op:BinOp) (k:IntKind) (x y:Int):M V :=
 match op with
 | .add => .ret (.d none 0 (.int k) (k.wrap (x+y)))
 | .sub => .ret (.d none 0 (.int k) (k.wrap (x - y)))
 | .mul => .ret (.d none 0 (.int k) (k.wrap (x*y)))
 | .quo => .chk (y != 0) (.ret (.d none 0 (.int k) (k.wrap (x.tdiv y))))
 | .rem => .chk (y != 0) (.ret (.d none 0 (.int k) (x.tmod y)))
 | .and => .ret (.d none 0 (.int k) (k.wrap (BitVec.ofInt k.bits x &&& BitVec.ofInt k.bits y).toNat))
 | .or => .ret (.d none 0 (.int k) (k.wrap (BitVec.ofInt k.bits x ||| BitVec.ofInt k.bits y).toNat))
 | .xor => .ret (.d none 0 (.int k) (k.wrap (BitVec.ofInt k.bits x ^^^ BitVec.ofInt k.bits y).toNat))
 | .andNot => .ret (.d none 0 (.int k) (k.wrap (BitVec.ofInt k.bits x &&& ~~~ BitVec.ofInt k.bits y).toNat))
 | .eql => .ret (.d none 0 .bool (x == y))
 | .neq => .ret (.d none 0 .bool (x != y))
 | .lss => .ret (.d none 0 .bool (x < y))
 | .leq => .ret (.d none 0 .bool (x≤y))
 | .gtr => .ret (.d none 0 .bool (x > y))
 | .geq => .ret (.d none 0 .bool (x≥y))
 | _ => .fail
def shV (op:BinOp) (k:IntKind) (x y:Int):M V :=
 match op with
 | .shl => .chk (decide (0≤y)) (.ret (.d none 0 (.int k) (k.wrap (x*2 ^ (min y.toNat k.bits)))))
 | .shr => .chk (decide (0≤y)) (.ret (.d none 0 (.int k) (x.fdiv (2 ^ (min y.toNat k.bits)))))
 | _ => .fail
def isShift:BinOp→Bool
 | .shl | .shr=>true
 | _=>false
def strV (op:BinOp) (x y:ByteArray):M V :=
 match op with
 | .add => .chk (decide (x.size+y.size≤140737488355328)) (.ret (.d none 0 .str (x++y)))
 | .eql => .ret (.d none 0 .bool (x.toList == y.toList))
 | .neq => .ret (.d none 0 .bool (!(x.toList == y.toList)))
 | .lss => .ret (.d none 0 .bool (Op.bytesLess x.toList y.toList))
 | .leq => .ret (.d none 0 .bool (Op.bytesLess x.toList y.toList || x.toList == y.toList))
 | .gtr => .ret (.d none 0 .bool (!(Op.bytesLess x.toList y.toList || x.toList == y.toList)))
 | .geq => .ret (.d none 0 .bool (!Op.bytesLess x.toList y.toList))
 | _ => .fail
def unV (op:UnOp):V→M V
 | .d _ _ (.int k) x=>match op with
  | .neg => .ret (.d none 0 (.int k) (k.wrap (0 - x)))
  | _ => .fail
 | .d _ _ .bool x=>match op with
  | .not => .ret (.d none 0 .bool (!x))
  | _ => .fail
 | _ => .fail
section
variable {P:Program} {C:Ctx} {w w' w0:World} {S S':Nat→Prop} {L L' L0:Nat→Lab} {s N:Nat} {vs:List Nat} {T T':List V} {tm tm':Array Value} {a:Act}
theorem SRep.int {l:Option Nat} {n:Nat} {k:IntKind} {x:Int} {c:Value} (h:SRep L T tm s (.d l n (.int k) x) w c):c = .int k x:=by
 obtain ⟨_,cs,h1,h2⟩:=h
 simp only [Own] at h2
 subst h2
 exact ((List.cons.inj h1).1).symm
theorem SRep.bool {l:Option Nat} {n:Nat} {x:Bool} {c:Value} (h:SRep L T tm s (.d l n .bool x) w c):c = .bool x:=by
 obtain ⟨_,cs,h1,h2⟩:=h
 simp only [Own] at h2
 subst h2
 exact ((List.cons.inj h1).1).symm
theorem SRep.str {l:Option Nat} {n:Nat} {x:ByteArray} {c:Value} (h:SRep L T tm s (.d l n .str x) w c):c = .string x:=by
 obtain ⟨_,cs,h1,h2⟩:=h
 simp only [Own] at h2
 subst h2
 exact ((List.cons.inj h1).1).symm
theorem SRep.raw {l:Option Nat} {n z:Nat} {x:Value} {c:Value} (h:SRep L T tm s (.d l n (.raw z) x) w c):c=x∧Value.plain1 x=true:=by
 obtain ⟨_,cs,h1,h2⟩:=h
 simp only [Own] at h2
 obtain ⟨rfl,h2⟩:=h2
 exact ⟨((List.cons.inj h1).1).symm,h2⟩
theorem SRep.mkInt {k:IntKind} {x:Int}:SRep L T tm s (.d none 0 (.int k) x) w (.int k x):=⟨by simp,_,rfl,by simp [Own]⟩
theorem SRep.mkBool {x:Bool}:SRep L T tm s (.d none 0 .bool x) w (.bool x):=⟨by simp,_,rfl,by simp [Own]⟩
theorem SRep.mkStr {x:ByteArray}:SRep L T tm s (.d none 0 .str x) w (.string x):=⟨by simp,_,rfl,by simp [Own]⟩
theorem SRep.mkRaw {z:Nat} {x:Value} (h:Value.plain1 x=true):SRep L T tm s (.d none 0 (.raw z) x) w x:=⟨by simp,_,rfl,by simp [Own,h]⟩
theorem constM_rep [Glob] {X:TypeId} {c:Value} {v:V} {log:List Nat} (h:(constM C X c).Runs T' v log):SRep L T tm s v w c∧(∀ r,v.on r=false)∧log=[]:=by
 unfold constM at h
 split at h
 ·obtain ⟨rfl,rfl⟩:=h; exact ⟨SRep.mkInt,fun _=>rfl,rfl⟩
 ·obtain ⟨rfl,rfl⟩:=h; exact ⟨SRep.mkBool,fun _=>rfl,rfl⟩
 ·obtain ⟨rfl,rfl⟩:=h; exact ⟨SRep.mkStr,fun _=>rfl,rfl⟩
 ·obtain ⟨rfl,rfl⟩:=h; exact ⟨SRep.mkRaw rfl,fun _=>rfl,rfl⟩
 ·obtain ⟨rfl,rfl⟩:=h; exact ⟨SRep.mkRaw rfl,fun _=>rfl,rfl⟩
 ·obtain ⟨rfl,rfl⟩:=h; exact ⟨SRep.mkRaw rfl,fun _=>rfl,rfl⟩
 ·split at h
  ·obtain ⟨rfl,rfl⟩:=h
   exact ⟨⟨by simp,_,rfl,by simp [Own]⟩,fun _=>rfl,rfl⟩
  ·exact h.elim
 ·exact h.elim
theorem opnd_rep [Glob] (hI:Inv w0 L0 N vs T a w L) {X:TypeId} {x:Operand} {v:V} {log:List Nat} (h:(opnd C X x).Runs T v log) :
  (∃ t,x = .tmp t∧v=T.getD t .dead∧SRep L T a.tmps t v w (a.eval x))∨((∀ r,v.on r=false)∧∀ L T tm s w,SRep L T tm s v w (a.eval x)):=by
 cases x with
 | tmp t =>
  obtain ⟨log',rfl,rfl,_⟩:=h
  exact .inl ⟨t,rfl,rfl,hI.slots t⟩
 | const c =>
  have h1:=constM_rep (L:=L) (T:=T) (tm:=a.tmps) (s:=0) (w:=w) h
  exact .inr ⟨h1.2.1,fun L T tm s w=>(constM_rep h).1⟩
 | func f =>
  obtain ⟨rfl,_⟩:=h
  exact .inr ⟨fun _=>rfl,fun L T tm s w=>SRep.mkRaw rfl⟩
 | global g=>exact h.elim
theorem opnd_int [Glob] (hI:Inv w0 L0 N vs T a w L) {X:TypeId} {x:Operand} {l:Option Nat} {n:Nat} {k:IntKind} {y:Int} {log:List Nat} (h:(opnd C X x).Runs T (.d l n (.int k) y) log):a.eval x = .int k y:=by
 rcases opnd_rep hI h with ⟨t,_,_,h⟩ | ⟨_,h⟩
 ·exact h.int
 ·exact (h L T a.tmps 0 w).int
theorem opnd_bool [Glob] (hI:Inv w0 L0 N vs T a w L) {X:TypeId} {x:Operand} {l:Option Nat} {n:Nat} {y:Bool} {log:List Nat} (h:(opnd C X x).Runs T (.d l n .bool y) log):a.eval x = .bool y:=by
 rcases opnd_rep hI h with ⟨t,_,_,h⟩ | ⟨_,h⟩
 ·exact h.bool
 ·exact (h L T a.tmps 0 w).bool
theorem opnd_str [Glob] (hI:Inv w0 L0 N vs T a w L) {X:TypeId} {x:Operand} {l:Option Nat} {n:Nat} {y:ByteArray} {log:List Nat} (h:(opnd C X x).Runs T (.d l n .str y) log):a.eval x = .string y:=by
 rcases opnd_rep hI h with ⟨t,_,_,h⟩ | ⟨_,h⟩
 ·exact h.str
 ·exact (h L T a.tmps 0 w).str
def PureRes (P:Program) (o:Oper) (vs:List Nat) (T:List V) (a:Act) (w:World) (L:Nat→Lab) (d:Nat) (v:V):Prop :=
 ∃ c w' L',(execOp a.eval o).run P w = .ok (.value c) w'∧Grows w w' L L' d∧(∀ k q,w.heap.size≤k→L' k = .own d q→v.owns=true)∧(∀ r,v.on r=true→r∈vs) ∧
  SRep L' (T.set d v) (a.tmps.setIfInBounds d c) d v w' c
theorem PureRes.inv [Glob] {o:Oper} {d:Nat} {v:V} (hI:Inv w0 L0 N vs T a w L) (hd:d < N) (hid:(T.getD d .dead).idle=true) (ho:o.dst=some d) (h:PureRes P o vs T a w L d v)
  {K:Act→World→Prop} {Q:Exit→Act→World→Prop} (hK:∀ a' w' L',Inv w0 L0 N vs (T.set d v) a' w' L'→K a' w'):o.wp P a w K Q:=by
 obtain ⟨c,w',L',h1,h2,h3,h4,h5⟩:=h
 unfold Oper.wp
 rw [h1,Oper.upon_value,ho]
 exact hK _ _ L' (Inv.set hI hd hid h2 v c h3 h4 h5)
theorem PureRes.still [Glob] (hI:Inv w0 L0 N vs T a w L) {o:Oper} {d:Nat} {v:V} {c:Value} (hrun:(execOp a.eval o).run P w = .ok (.value c) w) (hon:∀ r,v.on r=false)
  (h:SRep L (T.set d v) (a.tmps.setIfInBounds d c) d v w c):PureRes P o vs T a w L d v :=
 ⟨c,w,L,hrun,Grows.refl hI d,fun k q hk h=>(by rw [hI.free k hk] at h; cases h),fun r hr=>(by rw [hon] at hr; cases hr),h⟩
theorem pure_move [Glob] (hI:Inv w0 L0 N vs T a w L) {o:Oper} {x:Operand} {d:Nat} {v:V} {log:List Nat} (ho:o.op = .move x) (hid:(T.getD d .dead).idle=true)
  (h:(moveM C o.type x).Runs T v log) (hvs:∀ r,v.on r=true→r∈vs):PureRes P o vs T a w L d v:=by
 have hrun:(execOp a.eval o).run P w = .ok (.value (a.eval x)) w:=by simp [execOp,ho]
 have hg:=Grows.refl hI d
 refine ⟨a.eval x,w,L,hrun,hg,fun k q hk h=>(by rw [hI.free k hk] at h; cases h),hvs,?_⟩
 have hconst:∀ {x:Operand},(opnd C o.type x).Runs T v log→(∀ t,x ≠ .tmp t)→SRep L (T.set d v) (a.tmps.setIfInBounds d (a.eval x)) d v w (a.eval x):=by
  intro x h hx
  rcases opnd_rep hI h with ⟨t,rfl,_⟩ | ⟨_,h⟩
  ·exact absurd rfl (hx t)
  ·exact h _ _ _ _ _
 cases x with
 | const c=>exact hconst h (by simp)
 | func c=>exact hconst h (by simp)
 | global c=>exact hconst h (by simp)
 | tmp t =>
  obtain ⟨log',rfl,h⟩:=h
  have hs:=hI.slots t
  show SRep L (T.set d v) (a.tmps.setIfInBounds d (a.tmps.getD t undef)) d v w (a.tmps.getD t undef)
  have hne:(T.getD t .dead).owns=true→t≠d:=fun h1=>idle_ne hid h1
  generalize hv:T.getD t .dead=v0 at h hs hne
  cases v0 with
  | d l n t' y =>
   simp only [copyOf] at h
   split at h
   ·rename_i hdp
    obtain ⟨rfl,_⟩:=h
    have hown:(V.d l n t' y).owns=true:=hdp
    have htd:=hne hown
    refine ⟨?_,.inl ⟨rfl,?_,l,n,y,?_,hown⟩⟩
    ·rw [getD_set,if_neg (fun h=>htd h.1),hv]; exact hdp
    ·rw [getD_setA,if_neg (fun h=>htd h.1)]
    ·rw [getD_set,if_neg (fun h=>htd h.1),hv]
   ·rename_i hdp
    obtain ⟨rfl,_⟩:=h
    exact SRep.copy hI hid hg (by simpa [V.owns] using hdp) hs _
  | box l n t' y =>
   obtain ⟨rfl,_⟩:=h
   obtain ⟨_,g,cur,e,h1,h2,_⟩:=hs
   exact ⟨g,h1,h2⟩
  | rp l t' y =>
   obtain ⟨rfl,_⟩:=h
   exact SRep.copy hI hid hg rfl hs _
  | ptr r p t' =>
   obtain ⟨rfl,_⟩:=h
   exact SRep.copy hI hid hg rfl hs _
  | view r p t' =>
   obtain ⟨rfl,_⟩:=h
   exact SRep.copy hI hid hg rfl hs _
  | dead=>exact h.elim
  | tup _=>exact h.elim
  | hole _ _=>exact h.elim
  | part _ _ _ _ _=>exact h.elim
  | odd _ _ _ _=>exact h.elim
  | same _ _=>exact h.elim
theorem pure_int [Glob] (hI:Inv w0 L0 N vs T a w L) {o:Oper} {X Y:TypeId} {op:BinOp} {x y:Operand} {k:IntKind} {m n:Int} {d:Nat} {v:V} {log:List Nat} (ho:o.op = .binOp op X x y Y)
  (hx:a.eval x = .int k m) (hy:a.eval y = .int k n) (h:(intV op k m n).Runs T v log):PureRes P o vs T a w L d v:=by
 have hne:isShift op=false:=by cases op <;> first | rfl | exact h.elim
 have key:∀ c,((binOp op X (.int k m) (.int k n)).run P w = .ok c w)→(execOp a.eval o).run P w = .ok (.value c) w:=by
  intro c hc
  simp only [execOp,ho,hx,hy,eqGuard_at_int]
  simp [hc]
 cases op <;> simp only [intV] at h
 case add=>obtain ⟨rfl,_⟩:=h; exact PureRes.still hI (key _ (by simp [binOp,Op.intArith])) (fun _=>rfl) SRep.mkInt
 case sub=>obtain ⟨rfl,_⟩:=h; exact PureRes.still hI (key _ (by simp [binOp,Op.intArith])) (fun _=>rfl) SRep.mkInt
 case mul=>obtain ⟨rfl,_⟩:=h; exact PureRes.still hI (key _ (by simp [binOp,Op.intArith])) (fun _=>rfl) SRep.mkInt
 case quo=>obtain ⟨h0,rfl,_⟩:=h; exact PureRes.still hI (key _ (by simp [binOp,Op.intDiv]; intro hn; exact absurd hn (by simpa using h0))) (fun _=>rfl) SRep.mkInt
 case rem=>obtain ⟨h0,rfl,_⟩:=h; exact PureRes.still hI (key _ (by simp [binOp,Op.intDiv]; intro hn; exact absurd hn (by simpa using h0))) (fun _=>rfl) SRep.mkInt
 case and=>obtain ⟨rfl,_⟩:=h; exact PureRes.still hI (key _ (by simp [binOp,Op.intBits])) (fun _=>rfl) SRep.mkInt
 case or=>obtain ⟨rfl,_⟩:=h; exact PureRes.still hI (key _ (by simp [binOp,Op.intBits])) (fun _=>rfl) SRep.mkInt
 case xor=>obtain ⟨rfl,_⟩:=h; exact PureRes.still hI (key _ (by simp [binOp,Op.intBits])) (fun _=>rfl) SRep.mkInt
 case andNot=>obtain ⟨rfl,_⟩:=h; exact PureRes.still hI (key _ (by simp [binOp,Op.intBits])) (fun _=>rfl) SRep.mkInt
 case eql=>obtain ⟨rfl,_⟩:=h; exact PureRes.still hI (key _ (by simp [binOp,Op.intCmp])) (fun _=>rfl) SRep.mkBool
 case neq=>obtain ⟨rfl,_⟩:=h; exact PureRes.still hI (key _ (by simp [binOp,Op.intCmp])) (fun _=>rfl) SRep.mkBool
 case lss=>obtain ⟨rfl,_⟩:=h; exact PureRes.still hI (key _ (by simp [binOp,Op.intCmp])) (fun _=>rfl) SRep.mkBool
 case leq=>obtain ⟨rfl,_⟩:=h; exact PureRes.still hI (key _ (by simp [binOp,Op.intCmp])) (fun _=>rfl) SRep.mkBool
 case gtr=>obtain ⟨rfl,_⟩:=h; exact PureRes.still hI (key _ (by simp [binOp,Op.intCmp])) (fun _=>rfl) SRep.mkBool
 case geq=>obtain ⟨rfl,_⟩:=h; exact PureRes.still hI (key _ (by simp [binOp,Op.intCmp])) (fun _=>rfl) SRep.mkBool
 all_goals exact h.elim
theorem pure_shift [Glob] (hI:Inv w0 L0 N vs T a w L) {o:Oper} {X Y:TypeId} {op:BinOp} {x y:Operand} {k k':IntKind} {m n:Int} {d:Nat} {v:V} {log:List Nat} (ho:o.op = .binOp op X x y Y)
  (hx:a.eval x = .int k m) (hy:a.eval y = .int k' n) (h:(shV op k m n).Runs T v log):PureRes P o vs T a w L d v:=by
 have key:∀ c,((binOp op X (.int k m) (.int k' n)).run P w = .ok c w)→(execOp a.eval o).run P w = .ok (.value c) w:=by
  intro c hc
  simp only [execOp,ho,hx,hy,eqGuard_at_int]
  simp [hc]
 cases op <;> simp only [shV] at h
 case shl=>obtain ⟨h0,rfl,_⟩:=h; exact PureRes.still hI (key _ (by simp at h0; simp [binOp,Op.shift,Int.not_lt.2 h0])) (fun _=>rfl) SRep.mkInt
 case shr=>obtain ⟨h0,rfl,_⟩:=h; exact PureRes.still hI (key _ (by simp at h0; simp [binOp,Op.shift,Int.not_lt.2 h0])) (fun _=>rfl) SRep.mkInt
 all_goals exact h.elim
theorem pure_str [Glob] (hI:Inv w0 L0 N vs T a w L) {o:Oper} {X Y:TypeId} {op:BinOp} {x y:Operand} {m n:ByteArray} {d:Nat} {v:V} {log:List Nat} (ho:o.op = .binOp op X x y Y)
  (hx:a.eval x = .string m) (hy:a.eval y = .string n) (h:(strV op m n).Runs T v log):PureRes P o vs T a w L d v:=by
 have key:∀ c,((binOp op X (.string m) (.string n)).run P w = .ok c w)→(execOp a.eval o).run P w = .ok (.value c) w:=by
  intro c hc
  simp only [execOp,ho,hx,hy,eqGuard_at_string]
  simp [hc]
 cases op <;> simp only [strV] at h
 case add =>
  obtain ⟨h0,rfl,_⟩:=h
  refine PureRes.still hI (key _ ?_) (fun _=>rfl) SRep.mkStr
  simp at h0
  simp only [binOp,Op.stringOp,IntKind.max_i64]
  rw [if_neg (by omega)]
  rfl
 case eql=>obtain ⟨rfl,_⟩:=h; exact PureRes.still hI (key _ (by simp [binOp,Op.stringOp])) (fun _=>rfl) SRep.mkBool
 case neq=>obtain ⟨rfl,_⟩:=h; exact PureRes.still hI (key _ (by simp [binOp,Op.stringOp])) (fun _=>rfl) SRep.mkBool
 case lss=>obtain ⟨rfl,_⟩:=h; exact PureRes.still hI (key _ (by simp [binOp,Op.stringOp])) (fun _=>rfl) SRep.mkBool
 case leq=>obtain ⟨rfl,_⟩:=h; exact PureRes.still hI (key _ (by simp [binOp,Op.stringOp])) (fun _=>rfl) SRep.mkBool
 case gtr=>obtain ⟨rfl,_⟩:=h; exact PureRes.still hI (key _ (by simp [binOp,Op.stringOp])) (fun _=>rfl) SRep.mkBool
 case geq=>obtain ⟨rfl,_⟩:=h; exact PureRes.still hI (key _ (by simp [binOp,Op.stringOp])) (fun _=>rfl) SRep.mkBool
 all_goals exact h.elim
theorem pure_un [Glob] (hI:Inv w0 L0 N vs T a w L) {o:Oper} {X:TypeId} {op:UnOp} {x:Operand} {u v:V} {d:Nat} {log log2:List Nat} (ho:o.op = .unOp op X x)
  (hx:(opnd C X x).Runs T u log) (h:(unV op u).Runs T v log2):PureRes P o vs T a w L d v:=by
 have key:∀ c,((Op.unary op (a.eval x)).run P w = .ok c w)→(execOp a.eval o).run P w = .ok (.value c) w:=by
  intro c hc
  simp [execOp,ho,hc]
 unfold unV at h
 split at h
 ·split at h
  ·obtain ⟨rfl,_⟩:=h
   refine PureRes.still hI (key _ ?_) (fun _=>rfl) SRep.mkInt
   rw [opnd_int hI hx]
   simp [Op.unary,Op.intArith]
  ·exact h.elim
 ·split at h
  ·obtain ⟨rfl,_⟩:=h
   refine PureRes.still hI (key _ ?_) (fun _=>rfl) SRep.mkBool
   rw [opnd_bool hI hx]
   simp [Op.unary]
  ·exact h.elim
 ·exact h.elim
end
end Go.Proofs.YtkanidldnnfloaaGreat.P.Am
set_option linter.unusedVariables false
set_option linter.unusedSimpArgs false
namespace Go.Proofs.YtkanidldnnfloaaGreat.P.Am
def oddD:List St→Nat→Nat→(t:Ty)→t.den→M (Option Nat×D)
 | .idx sz i::p,0,n,.pair (.int _) (.slice _ te),x=>if sz=te.sz then .chk (decide (x.1≤i)) (.bnd te (getI x.2 i) fun y=>(getP p n te y).bind fun r => .ret (none,r)) else .fail
 | .fld i off::p,1,m,.agg t,x=>match comp i t x with
  | some (o,⟨t',x'⟩)=>if o=off then (getP p (cond (m.testBit i) t'.depth 0) t' x').bind fun r => .ret (none,r) else .fail
  | none => .fail
 | _,_,_,_,_ => .fail
def rootD (p:List St):V→M (Option Nat×D)
 | .box l n t x=>(getP p n t x).bind fun r => .ret (l,r)
 | .d l n t x=>match p with
  | .idx sz i::p'=>(getP (.idx sz i::p') n t x).bind fun r => .ret (l,r)
  | _ => .fail
 | .odd k n t x=>oddD p k n t x
 | _ => .fail
def viewD (p:List St):V→M (Option Nat×D)
 | .d l n t x=>match p with
  | [] => .ret (l,⟨n,t,x⟩)
  | .idx sz i::p'=>(getP (.idx sz i::p') n t x).bind fun r => .ret (l,r)
  | _ => .fail
 | u=>rootD p u
def loadAtV (C:Ctx) (X:TypeId) (r:Nat) (p:List St):M V :=
 .get r fun u=>(rootD p u).bind fun z =>
  if C.ty X=some z.2.t then
   if z.2.t.depth=0 then .ret (.d none 0 z.2.t z.2.x) else if z.2.n=0 then .ret (.d z.1 0 z.2.t z.2.x) else .ret (.view r p z.2.t)
  else .fail
def loadV (C:Ctx) (X:TypeId) (t:Nat):V→M V
 | .rp l t' x=>if C.ty X=some t' then .ret (.d l 0 t' x) else .fail
 | .ptr r p _=>loadAtV C X r p
 | .box _ _ _ _=>loadAtV C X t []
 | _ => .fail
def readD (t:Nat):V→M (Option Nat×(t:Ty)×t.den)
 | .d l n t' x=>if n=0∨t'.depth=0 then .ret (l,⟨t',x⟩) else match l with
  | none => .ret (some t,⟨t',x⟩)
  | some _ => .fail
 | .view r p t' => .get r fun u=>(viewD p u).bind fun z=>match z.1 with
  | none=>if z.2.t=t' then .ret (some r,⟨z.2.t,z.2.x⟩) else .fail
  | some _ => .fail
 | _ => .fail
section
variable {P:Program} {C:Ctx} {w w' w0:World} {S S':Nat→Prop} {L L' L0:Nat→Lab} {s N:Nat} {vs:List Nat} {T T':List V} {tm tm':Array Value} {a:Act}
theorem node_append (q:List Nat) (o:Nat) (p p':List St):node q o (p++p')=node (node q o p).1 (node q o p).2 p':=by
 induction p generalizing q o with
 | nil=>rfl
 | cons st p ih=>cases st <;> simp only [List.cons_append,node] <;> exact ih _ _
theorem Own.elem {n:Nat} {e:TypeId} {t:Ty} {xs:List t.den} {q:List Nat} {o:Nat} {cs:List Value} (h:Own w L S s (n+1) (.slice e t) xs q o cs) {i:Nat} (hi:i < xs.length) :
  InB w L S s n t (xs[i]) (q++[o]) (i*t.sz):=by
 simp only [Own] at h
 rcases h with ⟨_,rfl⟩ | ⟨g2,cap,cur2,hcs,hL,hg,h5,h6,h7,h8⟩
 ·exact absurd hi (by simp)
 ·refine ⟨g2,cur2,e,hL,hg,?_,h8 _ hi⟩
  rw [h7]
  calc i*t.sz+t.sz=(i+1)*t.sz:=by rw [Nat.add_mul,Nat.one_mul]
   _≤cap*t.sz:=Nat.mul_le_mul_right _ (by omega)
theorem getP_le:{p:List St}→{n:Nat}→{t:Ty}→{x:t.den}→{n':Nat}→{t':Ty}→{x':t'.den}→{log:List Nat} →
  (getP p n t x).Runs T ⟨n',t',x'⟩ log→n'≤n∧t'.depth≤t.depth
 | [],n,t,x,n',t',x',log,hr=>by
  obtain ⟨he,_⟩:=hr
  cases he
  exact ⟨Nat.le_refl _,Nat.le_refl _⟩
 | .fld i off::p,n,.agg t,x,n',t',x',log,hr=>by
  simp only [getP] at hr
  split at hr
  ·rename_i o1 t1 x1 hc
   split at hr
   ·have h1:=getP_le hr
    have h2:=comp_depth hc
    simp only [Ty.depth]
    omega
   ·exact hr.elim
  ·exact hr.elim
 | .idx sz i::p,n+1,.slice e t,xs,n',t',x',log,hr=>by
  simp only [getP] at hr
  split at hr
  ·obtain ⟨y,hy,hr⟩:=hr
   have h1:=getP_le hr
   simp only [Ty.depth]
   omega
  ·exact hr.elim
 | .idx _ _::p,0,.slice _ _,_,_,_,_,_,hr=>by simp only [getP] at hr; exact hr.elim
 | .fld _ _::p,_,.int _,_,_,_,_,_,hr=>by simp only [getP] at hr; exact hr.elim
 | .fld _ _::p,_,.bool,_,_,_,_,_,hr=>by simp only [getP] at hr; exact hr.elim
 | .fld _ _::p,_,.str,_,_,_,_,_,hr=>by simp only [getP] at hr; exact hr.elim
 | .fld _ _::p,_,.raw _,_,_,_,_,_,hr=>by simp only [getP] at hr; exact hr.elim
 | .fld _ _::p,_,.unit,_,_,_,_,_,hr=>by simp only [getP] at hr; exact hr.elim
 | .fld _ _::p,_,.pair _ _,_,_,_,_,_,hr=>by simp only [getP] at hr; exact hr.elim
 | .fld _ _::p,_,.slice _ _,_,_,_,_,_,hr=>by simp only [getP] at hr; exact hr.elim
 | .idx _ _::p,_,.int _,_,_,_,_,_,hr=>by simp only [getP] at hr; exact hr.elim
 | .idx _ _::p,_,.bool,_,_,_,_,_,hr=>by simp only [getP] at hr; exact hr.elim
 | .idx _ _::p,_,.str,_,_,_,_,_,hr=>by simp only [getP] at hr; exact hr.elim
 | .idx _ _::p,_,.raw _,_,_,_,_,_,hr=>by simp only [getP] at hr; exact hr.elim
 | .idx _ _::p,_,.unit,_,_,_,_,_,hr=>by simp only [getP] at hr; exact hr.elim
 | .idx _ _::p,_,.pair _ _,_,_,_,_,_,hr=>by simp only [getP] at hr; exact hr.elim
 | .idx _ _::p,_,.agg _,_,_,_,_,_,hr=>by simp only [getP] at hr; exact hr.elim
 where
 comp_depth:{i:Nat}→{t:Ty}→{x:t.den}→{o1:Nat}→{t1:Ty}→{x1:t1.den}→comp i t x=some (o1,⟨t1,x1⟩)→t1.depth≤t.depth
 | 0,.pair a b,x,o1,t1,x1,hc=>by
  simp only [comp,Option.some.injEq,Prod.mk.injEq] at hc
  obtain ⟨rfl,hc⟩:=hc
  cases hc
  simp only [Ty.depth]; omega
 | i+1,.pair a b,x,o1,t1,x1,hc=>by
  simp only [comp,Option.map_eq_some_iff] at hc
  obtain ⟨⟨o2,t2,x2⟩,hc,he⟩:=hc
  simp only [Prod.mk.injEq] at he
  obtain ⟨rfl,he⟩:=he
  cases he
  have:=comp_depth hc
  simp only [Ty.depth]; omega
 | 0,.int _,_,_,_,_,hc=>by simp only [comp,Option.some.injEq,Prod.mk.injEq] at hc; obtain ⟨rfl,hc⟩:=hc; cases hc; simp
 | 0,.bool,_,_,_,_,hc=>by simp only [comp,Option.some.injEq,Prod.mk.injEq] at hc; obtain ⟨rfl,hc⟩:=hc; cases hc; simp
 | 0,.str,_,_,_,_,hc=>by simp only [comp,Option.some.injEq,Prod.mk.injEq] at hc; obtain ⟨rfl,hc⟩:=hc; cases hc; simp
 | 0,.raw _,_,_,_,_,hc=>by simp only [comp,Option.some.injEq,Prod.mk.injEq] at hc; obtain ⟨rfl,hc⟩:=hc; cases hc; simp
 | 0,.unit,_,_,_,_,hc=>by simp only [comp,Option.some.injEq,Prod.mk.injEq] at hc; obtain ⟨rfl,hc⟩:=hc; cases hc; simp
 | 0,.agg _,_,_,_,_,hc=>by simp only [comp,Option.some.injEq,Prod.mk.injEq] at hc; obtain ⟨rfl,hc⟩:=hc; cases hc; simp
 | 0,.slice _ _,_,_,_,_,hc=>by simp only [comp,Option.some.injEq,Prod.mk.injEq] at hc; obtain ⟨rfl,hc⟩:=hc; cases hc; simp
theorem MixF.len:{t:Ty}→{m:Nat}→{x:t.den}→{o:Nat}→{cs:List Value}→MixF w L s m t x o cs→cs.length=t.sz:=by
 intro t
 induction t with
 | pair a b _ ih =>
  intro m x o cs h
  obtain ⟨c0,c1,rfl,h2,h3⟩:=h
  rw [List.length_append,Own.len h2,ih h3]; rfl
 | _=>intro m x o cs h; simp only [MixF] at h; exact Own.len h
theorem MixF.compo:{t:Ty}→{m:Nat}→{x:t.den}→{o:Nat}→{cs:List Value}→{i o1:Nat}→{t1:Ty}→{x1:t1.den}→MixF w L s m t x o cs→comp i t x=some (o1,⟨t1,x1⟩) →
  o1+t1.sz≤t.sz∧Own w L (SL L none) s (cond (m.testBit i) t1.depth 0) t1 x1 [] (o+o1) ((cs.drop o1).take t1.sz):=by
 intro t
 induction t with
 | pair a b _ ih =>
  intro m x o cs i o1 t1 x1 h hc
  obtain ⟨c0,c1,rfl,h2,h3⟩:=h
  have hl:=Own.len h2
  cases i with
  | zero =>
   simp only [comp,Option.some.injEq,Prod.mk.injEq] at hc
   obtain ⟨rfl,hc⟩:=hc
   cases hc
   refine ⟨by simp only [Ty.sz]; omega,?_⟩
   rw [List.drop_zero,← hl,List.take_left]
   exact h2
  | succ i =>
   simp only [comp,Option.map_eq_some_iff] at hc
   obtain ⟨⟨o2,t2,x2⟩,hc,he⟩:=hc
   simp only [Prod.mk.injEq] at he
   obtain ⟨rfl,he⟩:=he
   cases he
   obtain ⟨k1,k3⟩:=ih h3 hc
   refine ⟨by simp only [Ty.sz]; omega,?_⟩
   have e:(c0++c1).drop (a.sz+o2)=c1.drop o2:=by
    rw [← hl,← List.drop_drop,List.drop_left]
   rw [e,← Nat.add_assoc,Nat.testBit_succ]
   exact k3
 | _ =>
  intro m x o cs i o1 t1 x1 h hc
  cases i with
  | zero =>
   simp only [comp,Option.some.injEq,Prod.mk.injEq] at hc
   obtain ⟨rfl,hc⟩:=hc
   cases hc
   simp only [MixF] at h
   refine ⟨by simp,?_⟩
   rw [List.drop_zero,List.take_of_length_le (Nat.le_of_eq (Own.len h))]
   exact h
  | succ i=>simp [comp] at hc
theorem oddD_inB [Glob] {p:List St} {k n:Nat} {t:Ty} {x:t.den} {c:Value} {l:Option Nat} {n':Nat} {t':Ty} {x':t'.den} {log:List Nat} (hr:(oddD p k n t x).Runs T (l,⟨n',t',x'⟩) log) (hs:OddRep w L s k n t x c) :
  InB w L (SL L l) s n' t' x' (node [] 0 p).1 (node [] 0 p).2∧l=none∧p≠[]:=by
 unfold oddD at hr
 split at hr
 ·split at hr
  ·rename_i hsz
   subst hsz
   obtain ⟨hle,y,hy,hr⟩:=hr
   obtain ⟨z,l1,l2',rfl,h1,h2⟩:=M.runs_bind hr
   obtain ⟨h2,_⟩:=h2
   cases h2
   obtain ⟨hi,h0,rfl⟩:=getI_some hy
   simp only [OddRep] at hs
   rcases hs with ⟨_,hs⟩ | ⟨g,cap,cur,k1,k2,k3,k4,k5,k6,k7⟩
   ·rw [hs] at hi; exact absurd hi (by simp)
   ·refine ⟨getP_inB (q:=[]++[0]) h1 ⟨g,cur,_,k2,k3,?_,k7 _ hi ?_⟩,rfl,by simp⟩
    ·rw [k6,← Nat.succ_mul]
     exact Nat.mul_le_mul_right _ (Nat.lt_of_lt_of_le hi k4)
    ·exact Int.le_trans (of_decide_eq_true hle) (Int.le_of_eq (Int.toNat_of_nonneg h0).symm)
  ·exact hr.elim
 ·split at hr
  ·rename_i o _ _ hc
   split at hr
   ·rename_i ho
    subst ho
    obtain ⟨z,l1,l2',rfl,h1,h2⟩:=M.runs_bind hr
    obtain ⟨h2,_⟩:=h2
    cases h2
    simp only [OddRep] at hs
    obtain ⟨g,cur,e,k1,k2,k3,k4,k5⟩:=hs
    obtain ⟨j1,j2⟩:=MixF.compo k5 hc
    rw [Nat.zero_add] at j2
    have key:=getP_inB (L:=L) (s:=s) (S:=SL L none) (w:=w) (q:=[]) (o:=o) h1 ⟨g,cur,e,k2,k3,by rw [k4]; exact j1,j2⟩
    refine ⟨?_,rfl,by simp⟩
    simp only [node,Nat.zero_add]
    exact key
   ·exact hr.elim
  ·exact hr.elim
 ·exact hr.elim
theorem rootD_inB [Glob] {p:List St} {u:V} {c:Value} {l:Option Nat} {n':Nat} {t':Ty} {x':t'.den} {log:List Nat} (hr:(rootD p u).Runs T (l,⟨n',t',x'⟩) log) (hs:SRep L T tm s u w c) :
  InB w L (SL L l) s n' t' x' (node [] 0 p).1 (node [] 0 p).2∧(∀ r,l=some r→(T.getD r .dead).deep=true)∧(n'≠0→t'.depth≠0→u.deep=true)∧u.owns=true∧(u.isD=false∨p≠[]):=by
 cases u with
 | box l2 n t x =>
  obtain ⟨z,l1,l2',rfl,h1,h2⟩:=M.runs_bind hr
  obtain ⟨h2,_⟩:=h2
  cases h2
  obtain ⟨h0,g,cur,e,h3,h4,h5,h6,h7⟩:=hs
  refine ⟨getP_inB h1 ⟨g,cur,e,h4,h5,by omega,?_⟩,h0,fun hn hd => ?_,rfl,.inl rfl⟩
  ·rw [List.drop_zero,List.take_of_length_le (by rw [← h6]; simp)]
   exact h7
  ·have:=getP_le h1
   simp only [V.deep,Bool.and_eq_true,bne_iff_ne]
   omega
 | d l2 n t x =>
  simp only [rootD] at hr
  split at hr
  ·rename_i sz i p'
   obtain ⟨z,l1,l2',rfl,h1,h2⟩:=M.runs_bind hr
   obtain ⟨h2,_⟩:=h2
   cases h2
   obtain ⟨h0,cs,h3,h4⟩:=hs
   have hle:=getP_le h1
   have hdeep:n'≠0→t'.depth≠0→(V.d l n t x).deep=true:=fun hn hd=>by
    simp only [V.deep,Bool.and_eq_true,bne_iff_ne]
    omega
   cases t <;> cases n <;> simp only [getP] at h1 <;> try exact h1.elim
   rename_i e t n
   split at h1
   ·rename_i hsz
    subst hsz
    obtain ⟨y,hy,h1⟩:=h1
    obtain ⟨hi,hi0,rfl⟩:=getI_some hy
    refine ⟨getP_inB (q:=[]++[0]) h1 (Own.elem h4 hi),h0,hdeep,?_,.inr (by simp)⟩
    simp [V.owns,Ty.depth]
   ·exact h1.elim
  ·exact hr.elim
 | odd k2 n t x =>
  obtain ⟨h1,h2,h3⟩:=oddD_inB hr hs
  exact ⟨h1,by simp [h2],fun _ _=>rfl,rfl,.inl rfl⟩
 | dead=>exact hr.elim
 | tup _=>exact hr.elim
 | rp _ _ _=>exact hr.elim
 | ptr _ _ _=>exact hr.elim
 | view _ _ _=>exact hr.elim
 | hole _ _=>exact hr.elim
 | part _ _ _ _ _=>exact hr.elim
 | same _ _=>exact hr.elim
theorem inB_load [Glob] (hI:Inv w0 L0 N vs T a w L) (hC:CtxOk P C) {X:TypeId} {l:Option Nat} {n:Nat} {t:Ty} {x:t.den} {q:List Nat} {o g r:Nat}
  (hT:C.ty X=some t) (h:InB w L (SL L l) r n t x q o) (hg:L g = .own r q) :
  ∃ c cur e,(loadVar X ⟨g,o,none⟩).run P w = .ok c w∧w.heap[g]? = some (.cells cur e (0,0))∧o+t.sz≤cur.size∧Form t ((cur.toList.drop o).take t.sz) c ∧
   Own w L (SL L l) r n t x q o ((cur.toList.drop o).take t.sz):=by
 obtain ⟨g',cur,e,h1,h2,h3,h4⟩:=h
 obtain rfl:=hI.inj g g' r q hg h1
 obtain ⟨c,hc,hf⟩:=(hC X t hT).run_loadVar (w:=w) (g:=g) (o:=o) (Own.len h4) (InB.cell h2)
 exact ⟨c,cur,e,hc,h2,h3,hf,h4⟩
theorem pure_loadAt [Glob] (hI:Inv w0 L0 N vs T a w L) (hC:CtxOk P C) {o:Oper} {X:TypeId} {x:Operand} {r d:Nat} {p:List St} {v:V} {log:List Nat} (ho:o.op = .load X x)
  (hid:(T.getD d .dead).idle=true) (hx:∃ g,a.eval x = .pointer (some ⟨g,(node [] 0 p).2,none⟩)∧L g = .own r (node [] 0 p).1)
  (h:(loadAtV C X r p).Runs T v log) (hvs:∀ r,v.on r=true→r∈vs):PureRes P o vs T a w L d v:=by
 obtain ⟨g,hx,hg⟩:=hx
 obtain ⟨log',rfl,h⟩:=h
 obtain ⟨⟨l,n',t',x'⟩,l1,l2,rfl,h1,h2⟩:=M.runs_bind h
 obtain ⟨hb,hl,hdp,hown,hisd⟩:=rootD_inB h1 (hI.slots r)
 have hrd:r≠d:=idle_ne hid hown
 split at h2
 ·rename_i hT
  obtain ⟨c,cur,e,hrun,hh,hsz,hf,ho'⟩:=inB_load hI hC hT hb hg
  have hrun':(execOp a.eval o).run P w = .ok (.value c) w:=by simp [execOp,ho,hx,Instr.loadAt,Instr.sureAddr,hrun]
  refine ⟨c,w,L,hrun',Grows.refl hI d,fun k q hk h=>(by rw [hI.free k hk] at h; cases h),hvs,?_⟩
  have hkeep:∀ r',(T.getD r' .dead).owns=true→r'≠d:=fun r' h1=>idle_ne hid h1
  split at h2
  ·rename_i hd0
   obtain ⟨rfl,_⟩:=h2
   exact ⟨by simp,_,hf,Own.flat hd0 ho'⟩
  ·rename_i hd0
   split at h2
   ·rename_i hn0
    obtain ⟨rfl,_⟩:=h2
    refine ⟨fun r' hr' => ?_,_,hf,Own.at0 (.inl hn0) ho' (.inl rfl)⟩
    have:=hl r' hr'
    rw [getD_set,if_neg (fun h=>hkeep r' (V.owns_of_deep this) h.1)]
    exact this
   ·rename_i hn0
    obtain ⟨rfl,_⟩:=h2
    refine ⟨?_,.inr ⟨g,cur,e,?_,hg,hh,hsz,hf⟩⟩
    ·rw [getD_set,if_neg (fun h=>hrd h.1)]
     exact hdp hn0 hd0
    ·rw [getD_set,if_neg (fun h=>hrd h.1)]
     exact hisd
 ·exact h2.elim
theorem pure_load [Glob] (hI:Inv w0 L0 N vs T a w L) (hC:CtxOk P C) {o:Oper} {X:TypeId} {t d:Nat} {v:V} {log:List Nat} (ho:o.op = .load X (.tmp t))
  (hid:(T.getD d .dead).idle=true) (h:(M.get t (loadV C X t)).Runs T v log) (hvs:∀ r,v.on r=true→r∈vs):PureRes P o vs T a w L d v:=by
 obtain ⟨log',rfl,h⟩:=h
 have hs:=hI.slots t
 generalize hv:T.getD t .dead=u at h hs
 cases u with
 | rp l t' x =>
  simp only [loadV] at h
  split at h
  ·rename_i hT
   obtain ⟨rfl,_⟩:=h
   obtain ⟨h0,g,o',cs,h1,h2,h3,h4⟩:=hs
   obtain ⟨c,hc,hf⟩:=(hC X t' hT).run_loadVar (w:=w) (g:=g) (o:=o') (Rd.len h3) h4
   have h1':a.eval (.tmp t)=_:=h1
   refine ⟨c,w,L,by simp [execOp,ho,h1',Instr.loadAt,Instr.sureAddr,hc],Grows.refl hI d,fun k q hk h=>(by rw [hI.free k hk] at h; cases h),hvs,?_⟩
   refine ⟨fun r hr => ?_,cs,hf,Own.of_rd h3⟩
   have:=h0 r hr
   rw [getD_set,if_neg (fun h=>idle_ne hid (V.owns_of_deep this) h.1)]
   exact this
  ·exact h.elim
 | ptr r p t' =>
  obtain ⟨g,h1,h2⟩:=hs
  exact pure_loadAt hI hC ho hid ⟨g,h1,h2⟩ h hvs
 | box l n t' x =>
  obtain ⟨_,g,cur,e,h1,h2,_⟩:=hs
  exact pure_loadAt hI hC ho hid (r:=t) (p:=[]) ⟨g,h1,h2⟩ h hvs
 | dead=>exact h.elim
 | tup _=>exact h.elim
 | d _ _ _ _=>exact h.elim
 | view _ _ _=>exact h.elim
 | hole _ _=>exact h.elim
 | part _ _ _ _ _=>exact h.elim
 | odd _ _ _ _=>exact h.elim
 | same _ _=>exact h.elim
theorem view_own [Glob] (hI:Inv w0 L0 N vs T a w L) {r:Nat} {p:List St} {t:Ty} {c:Value} {l:Option Nat} {n':Nat} {x':t.den} {log:List Nat}
  (hv:SRep L T a.tmps s (.view r p t) w c) (hr:(viewD p (T.getD r .dead)).Runs T (l,⟨n',t,x'⟩) log) :
  ∃ cs,Form t cs c∧Own w L (SL L l) r n' t x' (node [] 0 p).1 (node [] 0 p).2 cs∧(∀ r,l=some r→(T.getD r .dead).deep=true)∧(T.getD r .dead).deep=true:=by
 obtain ⟨hdp,hv⟩:=hv
 have hs:=hI.slots r
 rcases hv with ⟨rfl,hc,l0,n0,x0,hd,hown⟩ | ⟨g,cur,e,hp,h1,h2,h3,h4⟩
 ·rw [hd] at hr hs
  obtain ⟨hr,_⟩:=hr
  cases hr
  obtain ⟨h0,cs,hf,ho⟩:=hs
  exact ⟨cs,by rw [hc]; exact hf,ho,h0,hdp⟩
 ·have key:∀ {log:List Nat},(rootD p (T.getD r .dead)).Runs T (l,⟨n',t,x'⟩) log→_:=fun hr=>rootD_inB hr hs
  have hroot:(∃ log,(rootD p (T.getD r .dead)).Runs T (l,⟨n',t,x'⟩) log)∨p=[]:=by
   generalize T.getD r .dead=u at hr
   cases u with
   | d l0 n0 t0 x0 =>
    simp only [viewD] at hr
    split at hr
    ·exact .inr rfl
    ·exact .inl ⟨_,hr⟩
    ·exact hr.elim
   | box l0 n0 t0 x0=>exact .inl ⟨_,hr⟩
   | dead=>exact .inl ⟨_,hr⟩
   | tup _=>exact .inl ⟨_,hr⟩
   | rp _ _ _=>exact .inl ⟨_,hr⟩
   | ptr _ _ _=>exact .inl ⟨_,hr⟩
   | view _ _ _=>exact .inl ⟨_,hr⟩
   | hole _ _=>exact .inl ⟨_,hr⟩
   | part _ _ _ _ _=>exact .inl ⟨_,hr⟩
   | odd _ _ _ _=>exact .inl ⟨_,hr⟩
   | same _ _=>exact .inl ⟨_,hr⟩
  rcases hroot with ⟨log,hroot⟩ | rfl
  ·obtain ⟨⟨g',cur',e',k1,k2,k3,k4⟩,hl,_,_,_⟩:=key hroot
   obtain rfl:=hI.inj g g' r _ h1 k1
   rw [h2] at k2
   injection k2 with k2
   injection k2 with k2 _ _
   subst k2
   exact ⟨_,h4,k4,hl,hdp⟩
  ·
   generalize hu:T.getD r .dead=u at hr hs hdp hp
   cases u with
   | box l0 n0 t0 x0 =>
    have hroot:(rootD [] (.box l0 n0 t0 x0)).Runs T (l,⟨n',t,x'⟩) log:=hr
    obtain ⟨⟨g',cur',e',k1,k2,k3,k4⟩,hl,_,_,_⟩:=rootD_inB hroot hs
    obtain rfl:=hI.inj g g' r _ h1 k1
    rw [h2] at k2
    injection k2 with k2
    injection k2 with k2 _ _
    subst k2
    exact ⟨_,h4,k4,hl,hdp⟩
   | d l0 n0 t0 x0=>rcases hp with hp | hp <;> simp [V.isD] at hp
   | dead=>exact hr.elim
   | tup _=>exact hr.elim
   | rp _ _ _=>exact hr.elim
   | ptr _ _ _=>exact hr.elim
   | view _ _ _=>exact hr.elim
   | hole _ _=>exact hr.elim
   | part _ _ _ _ _=>exact hr.elim
   | odd k0 n0 t0 x0 =>
    have hroot:(rootD [] (.odd k0 n0 t0 x0)).Runs T (l,⟨n',t,x'⟩) log:=hr
    exact absurd rfl (oddD_inB hroot hs).2.2
   | same _ _=>exact hr.elim
end
end Go.Proofs.YtkanidldnnfloaaGreat.P.Am
