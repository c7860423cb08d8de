/- A part of the proof: Am25, Am26, Am27, Am28, Am29, Am37, Am38. No conditions. -/
import Derived.Test.YtkanidldnnfloaaGreatPG3
import Derived.Conc.Own4
import Derived.ArgAppend
set_option linter.unusedVariables false
set_option linter.unusedSimpArgs false
namespace Go.Proofs.YtkanidldnnfloaaGreat.P.Am
def addrOf (t:Nat):V→Option (Nat×List St)
 | .ptr r p _=>some (r,p)
 | .box _ _ _ _=>some (t,[])
 | _=>none
def allM:Nat→Nat→M (List V)
 | _,0 => .ret []
 | i,n+1 => .get i fun v=>(allM (i+1) n).bind fun l => .ret (v::l)
def depsU (r:Nat) (root:V) (src:Option Nat):Nat→List V→List (Nat×V)
 | _,[]=>[]
 | i,v::l=>cond (v.on r && i != r && src != some i && !keepable root src v) ((i,.dead)::depsU r root src (i+1) l) (depsU r root src (i+1) l)
def depsOk (r:Nat) (root:V) (src:Option Nat):Nat→List V→Bool
 | _,[]=>true
 | i,v::l=>(!(v.on r && i != r && src != some i && !keepable root src v) || !v.owns) && depsOk r root src (i+1) l
def valM (C:Ctx) (vs:List Nat) (X:TypeId) (x:Operand) (t:Ty) (n r:Nat):M (t.den×Option Nat) :=
 (opnd C X x).bind fun v=>match v with
 | .d none k tv y=>if h:tv=t then
   if t.depth=0∨(n=0∧k=0) then .ret (h▸y,none)
   else match x with
    | .tmp s=>if n≠0∧(n≤k∨t.depth≤k)∧k≠0∧vs.contains s=false∧s≠r then .ret (h▸y,some s) else .fail
    | .const _=>if n≤k then .ret (h▸y,none) else .fail
    | _ => .fail
  else .fail
 | _ => .fail
def maskOf (strong:Bool):List Nat→Nat
 | []=>cond strong 1 0
 | k::l=>2 ^ (k+1) ||| maskOf strong l
def kidsM {α:Type} (strong:Bool) (r s:Nat):List Nat→M α→M α
 | [],m=>m
 | k::l,m=>cond (k == s) (kidsM strong r s l m) (.get k fun v => .chk (!cond strong (v.on r) (v.deepOn r)) (kidsM strong r s l m))
def bareM {α:Type} (strong:Bool) (r s:Nat) (kids:List Nat) (m:M α):M α :=
 if r < 100000 then kidsM strong r s kids (.ask (bareKey r (maskOf strong (s::kids))) m) else .fail
def storeM (C:Ctx) (vs:List Nat) (N:Nat) (bk:Option (List Nat)) (X:TypeId) (t:Nat) (x:Operand):M (List (Nat×V)) :=
 .get t fun v=>match addrOf t v with
 | none => .fail
 | some (r,p) => .get r fun u=>(rootD p u).bind fun z =>
  if C.ty X=some z.2.t∧(u.root != some r)=true∧r < N then
   (valM C vs X x z.2.t z.2.n r).bind fun y =>
   (modRoot p u z.2.t y.1).bind fun u' =>
   cond (!u.deep && y.2.isNone) (.ret [(r,u')])
    (match bk with
     | some ks => .chk u.boxy (bareM false r (y.2.getD r) ks (.ret ((r,u')::y.2.toList.map (fun s=>(s,V.dead)))))
     | none=>(allM 0 N).bind fun Ts => .chk (depsOk r u y.2 0 Ts) (.ret ((r,u')::(y.2.toList.map (fun s=>(s,V.dead))++depsU r u y.2 0 Ts))))
  else .fail
section
variable {P:Program} {C:Ctx} {w w' w0:World} {S S':Nat→Prop} {L L' L0:Nat→Lab} {s N:Nat} {vs:List Nat} {T T':List V} {tm tm':Array Value} {a:Act}
theorem allM_runs:{n i:Nat}→{l:List V}→{log:List Nat}→(allM i n).Runs T l log→i+n=T.length→l=T.drop i
 | 0,i,l,log,h,hl=>by
  obtain ⟨rfl,_⟩:=h
  rw [List.drop_eq_nil_of_le (by omega)]
 | n+1,i,l,log,h,hl=>by
  obtain ⟨log',rfl,h⟩:=h
  obtain ⟨l',l1,l2,rfl,h1,h2⟩:=M.runs_bind h
  obtain ⟨rfl,_⟩:=h2
  rw [allM_runs h1 (by omega)]
  have hlt:i < T.length:=by omega
  rw [List.getD_eq_getElem?_getD,List.getElem?_eq_getElem hlt]
  simp
theorem getD_setAll_mem [Glob] {ups:List (Nat×V)} {T:List V} {s:Nat} {v:V} (hs:s < T.length) (hm:s∈ups.map (·.1)) (h:∀ v',(s,v')∈ups→v'=v):(setAll T ups).getD s .dead=v:=by
 have key:∀ (ups:List (Nat×V)) (T:List V),s < T.length→(∀ v',(s,v')∈ups→v'=v)→(T.getD s .dead=v∨s∈ups.map (·.1))→(setAll T ups).getD s .dead=v:=by
  intro ups
  induction ups with
  | nil =>
   intro T _ _ h
   exact h.resolve_right (by simp)
  | cons u l ih =>
   intro T hs h hm
   show (setAll (T.set u.1 u.2) l).getD s .dead=v
   refine ih _ (by simpa using hs) (fun v' hv=>h v' (by simp [hv])) ?_
   by_cases hu:s=u.1
   ·left
    rw [getD_set,if_pos ⟨hu,by rw [← hu]; exact hs⟩]
    exact h u.2 (by rw [hu]; simp)
   ·rcases hm with hm | hm
    ·left
     rw [getD_set,if_neg (fun e=>hu e.1)]
     exact hm
    ·right
     simp only [List.map_cons,List.mem_cons] at hm
     exact hm.resolve_left hu
 exact key ups T hs h (.inr hm)
theorem maskOf_bit {strong:Bool} {z:Nat}:{l:List Nat}→z ∉ l→(maskOf strong l).testBit (z+1)=false
 | [],_=>by cases strong <;> simp [maskOf,Nat.testBit_succ]
 | k::l,h=>by
  simp only [List.mem_cons,not_or] at h
  simp only [maskOf,Nat.testBit_or,maskOf_bit h.2,Bool.or_false]
  rw [Nat.testBit_two_pow]
  simp
  omega
theorem maskOf_zero {strong:Bool}:{l:List Nat}→(maskOf strong l).testBit 0=strong
 | []=>by cases strong <;> simp [maskOf]
 | k::l=>by
  simp only [maskOf,Nat.testBit_or,maskOf_zero (l:=l)]
  rw [Nat.testBit_two_pow]
  simp
theorem kidsM_runs {α:Type} {strong:Bool} {r s:Nat} {m:M α} {x:α}:{l:List Nat}→{log:List Nat}→(kidsM strong r s l m).Runs T x log→(∀ k∈l,k≠s→cond strong ((T.getD k .dead).on r) ((T.getD k .dead).deepOn r)=false)∧∃ log',m.Runs T x log'
 | [],log,h=>⟨by simp,log,h⟩
 | k::l,log,h=>by
  simp only [kidsM] at h
  cases hk:(k == s) with
  | true =>
   rw [hk] at h
   obtain ⟨h1,h2⟩:=kidsM_runs (l:=l) h
   refine ⟨fun k' hk' hne => ?_,h2⟩
   rcases List.mem_cons.1 hk' with rfl | hk'
   ·exact absurd (by simpa using hk) hne
   ·exact h1 k' hk' hne
  | false =>
   rw [hk] at h
   obtain ⟨log',rfl,hc,h⟩:=h
   obtain ⟨h1,h2⟩:=kidsM_runs (l:=l) h
   refine ⟨fun k' hk' hne => ?_,h2⟩
   rcases List.mem_cons.1 hk' with rfl | hk'
   ·simpa using hc
   ·exact h1 k' hk' hne
theorem bareM_runs [Glob] {α:Type} {strong:Bool} {r s:Nat} {kids:List Nat} {m:M α} {x:α} {log:List Nat} (h:(bareM strong r s kids m).Runs T x log) :
  (∀ z,z≠s→cond strong ((T.getD z .dead).on r) ((T.getD z .dead).deepOn r)=false)∧∃ log',m.Runs T x log':=by
 unfold bareM at h
 split at h
 ·rename_i hr
  obtain ⟨h1,log',h⟩:=kidsM_runs h
  obtain ⟨⟨hq,_⟩,log2,rfl,h⟩:=h
  refine ⟨fun z hz => ?_,log2,h⟩
  by_cases hm:z∈kids
  ·exact h1 z hm hz
  ·have:=ask_bare hr hq z (maskOf_bit (by simp [hz,hm]))
   rwa [maskOf_zero] at this
 ·exact h.elim
theorem depsU_mem {r:Nat} {root:V} {src:Option Nat}:{i:Nat}→{l:List V}→(s:Nat)→(v:V)→((s,v)∈depsU r root src i l↔v = .dead∧i≤s∧s < i+l.length∧((l.getD (s - i) .dead).on r && s != r && src != some s && !keepable root src (l.getD (s - i) .dead))=true)
 | i,[],s,v=>by simp [depsU]; omega
 | i,v0::l,s,v=>by
  have ih:=depsU_mem (r:=r) (root:=root) (src:=src) (i:=i+1) (l:=l) s v
  have hsh:i+1≤s→(v0::l).getD (s - i) .dead=l.getD (s - (i+1)) .dead:=fun h=>by
   rw [show s - i=(s - (i+1))+1 by omega,List.getD_cons_succ]
  simp only [depsU]
  cases hc:(v0.on r && i != r && src != some i && !keepable root src v0) with
  | true =>
   simp only [cond_true,List.mem_cons,Prod.mk.injEq,ih,List.length_cons]
   constructor
   ·rintro (⟨rfl,rfl⟩ | ⟨h1,h2,h3,h4⟩)
    ·refine ⟨rfl,Nat.le_refl _,by omega,?_⟩
     rw [Nat.sub_self,List.getD_cons_zero]
     exact hc
    ·refine ⟨h1,by omega,by omega,?_⟩
     rw [hsh h2]
     exact h4
   ·rintro ⟨h1,h2,h3,h4⟩
    by_cases hs:s=i
    ·exact .inl ⟨hs,h1⟩
    ·refine .inr ⟨h1,by omega,by omega,?_⟩
     rw [← hsh (by omega)]
     exact h4
  | false =>
   simp only [cond_false,ih,List.length_cons]
   constructor
   ·rintro ⟨h1,h2,h3,h4⟩
    refine ⟨h1,by omega,by omega,?_⟩
    rw [hsh h2]
    exact h4
   ·rintro ⟨h1,h2,h3,h4⟩
    by_cases hs:s=i
    ·subst hs
     rw [Nat.sub_self,List.getD_cons_zero,hc] at h4
     cases h4
    ·refine ⟨h1,by omega,by omega,?_⟩
     rw [← hsh (by omega)]
     exact h4
theorem depsOk_spec {r:Nat} {root:V} {src:Option Nat}:{i:Nat}→{l:List V}→depsOk r root src i l=true→∀ s,s < l.length→((l.getD s .dead).on r && (i+s) != r && src != some (i+s) && !keepable root src (l.getD s .dead))=true→(l.getD s .dead).owns=false
 | _,[],_,s,hs,_=>by simp at hs
 | i,v0::l,h,s,hs,hc=>by
  simp only [depsOk,Bool.and_eq_true,Bool.or_eq_true,Bool.not_eq_true'] at h
  cases s with
  | zero =>
   simp only [List.getD_cons_zero,Nat.add_zero] at hc ⊢
   rcases h.1 with h | h
   ·rw [hc] at h; cases h
   ·exact h
  | succ s =>
   simp only [List.getD_cons_succ] at hc ⊢
   exact depsOk_spec h.2 s (by simpa using hs) (by rwa [show i+1+s=i+(s+1) by omega])
theorem deps_none {r:Nat} {root:V} {src:Option Nat}:{i:Nat}→{l:List V}→(∀ s,(l.getD s .dead).on r=true→i+s≠r→src≠some (i+s)→keepable root src (l.getD s .dead)=true)→depsU r root src i l=[]∧depsOk r root src i l=true
 | i,[],_=>⟨rfl,rfl⟩
 | i,v::l,h=>by
  obtain ⟨h1,h2⟩:=deps_none (r:=r) (root:=root) (i:=i+1) (l:=l) (fun s hs hr hn=>by
   have:=h (s+1) (by simpa using hs) (by omega) (by rw [show i+(s+1)=i+1+s by omega]; exact hn)
   simpa using this)
  have h0:(v.on r && i != r && src != some i && !keepable root src v)=false:=by
   rw [Bool.eq_false_iff]
   intro hc
   simp only [Bool.and_eq_true,Bool.not_eq_true',bne_iff_ne] at hc
   have:=h 0 (by simpa using hc.1.1.1) (by simpa using hc.1.1.2) (by simpa using hc.1.2)
   rw [List.getD_cons_zero,hc.2] at this
   cases this
  simp [depsU,depsOk,h0,h1,h2]
theorem flat_keep [Glob] (hI:Inv w0 L0 N vs T a w L) {r:Nat} (hb:(T.getD r .dead).deep=false) (hbx:∀ A,a.tmps.getD r undef = .tuple A→False) (s:Nat) (hs:(T.getD s .dead).on r=true):keepable (T.getD r .dead) none (T.getD s .dead)=true:=by
 have h:=hI.slots s
 generalize hv:T.getD s .dead=v at h hs
 have hno:(T.getD r .dead).deep=true→False:=fun h=>by rw [hb] at h; cases h
 have hroot:∀ {q},v.root=some q→q=r:=fun h=>by simpa [V.on,h] using hs
 cases v with
 | ptr r' p t=>rfl
 | d l n t x=>exact (hno (h.1 r (by simpa [V.on,V.root] using hs))).elim
 | box l n t x=>exact (hno (h.1 r (by simpa [V.on,V.root] using hs))).elim
 | rp l t x=>exact (hno (h.1 r (by simpa [V.on,V.root] using hs))).elim
 | view r' p t=>have:=hroot rfl; subst this; exact (hno h.1).elim
 | part r' i n t x =>
  have:=hroot rfl
  subst this
  obtain ⟨_,A,_,_,h1,_⟩:=h
  exact (hbx A h1).elim
 | hole v p =>
  have:=hroot (q:=r) (by simpa [V.on,V.root] using hs)
  have h0:v.root=none:=h.1
  have h1:v.root=some r:=by simpa [V.on,V.root] using hs
  rw [h0] at h1
  cases h1
 | odd _ _ _ _=>simp [V.on,V.root] at hs
 | same r' t =>
  have:=hroot rfl
  subst this
  obtain ⟨_,_,_,_,h2⟩:=h
  rw [h2] at hb
  cases hb
 | dead=>simp [V.on,V.root] at hs
 | tup l=>simp [V.on,V.root] at hs
theorem Own.void {n m:Nat} {t:Ty} {x:t.den} {q q':List Nat} {o o' s':Nat} {cs:List Value} (hm:m≤n) (h:Own w (fun _ => .free) (fun _=>False) s n t x q o cs):Own w' L' S' s' m t x q' o' cs :=
 Own.moveLow hm (fun k hk=>hk.elim) (fun k d rest _ hk=>by cases hk) h
theorem SL_free {k:Nat}:¬ SL (fun _=>Lab.free) none k:=by
 rintro (h | ⟨_,_,h,_⟩) <;> cases h
theorem run_store_cells [Glob] {X:TypeId} {t:Ty} (h:TyOk P C X t) {g o:Nat} {cur:Array Value} {e:TypeId} {c:Value} {cs:List Value} (hh:w.heap[g]? = some (.cells cur e (0,0))) (hf:Form t cs c) (h1:∀ v∈cs,v.oneCell'=true)
  (hl:cs.length=t.sz) (hb:o+t.sz≤cur.size):(Instr.storeAt X (.pointer (some ⟨g,o,none⟩)) c).run P w = .ok () (w.setRow g (putCells cur o cs)):=by
 have hc:=Form.cells hf h1
 have hsz:c.cells.size=t.sz:=by rw [← Array.length_toList,hc,hl]
 have hst:=run_storeCells_at P g o e cs 0 cur w hh (by simp; omega) h1
 simp only [Nat.add_zero] at hst
 simp [Instr.storeAt,Instr.sureAddr,storeVar,h.run_sizeOf,hsz,hc,hst,putCells]
theorem step_store [Glob] (hI:Inv w0 L0 N vs T a w L) (hC:CtxOk P C) {o:Oper} {X:TypeId} {t:Nat} {x:Operand} {ups:List (Nat×V)} {log:List Nat} (ho:o.op = .store X (.tmp t) x) (hdst:o.dst=none)
  {bk:Option (List Nat)} (h:(storeM C vs N bk X t x).Runs T ups log):Step P o w0 L0 N vs (setAll T ups) a w:=by
 obtain ⟨log0,rfl,h⟩:=h
 have hst:=hI.slots t
 have haddr:∀ r p,addrOf t (T.getD t .dead)=some (r,p)→∃ g,a.eval (.tmp t) = .pointer (some ⟨g,(node [] 0 p).2,none⟩)∧L g = .own r (node [] 0 p).1:=by
  intro r p he
  generalize T.getD t .dead=v at he hst
  cases v with
  | ptr r2 p2 t2 =>
   simp only [addrOf,Option.some.injEq,Prod.mk.injEq] at he
   obtain ⟨rfl,rfl⟩:=he
   exact hst
  | box l n t2 x2 =>
   simp only [addrOf,Option.some.injEq,Prod.mk.injEq] at he
   obtain ⟨rfl,rfl⟩:=he
   obtain ⟨_,g,cur,e,h1,h2,_⟩:=hst
   exact ⟨g,h1,h2⟩
  | dead=>cases he
  | tup _=>cases he
  | d _ _ _ _=>cases he
  | rp _ _ _=>cases he
  | view _ _ _=>cases he
  | hole _ _=>cases he
  | part _ _ _ _ _=>cases he
  | odd _ _ _ _=>cases he
  | same _ _=>cases he
 dsimp only at h
 split at h
 ·exact h.elim
 ·rename_i r p he
  obtain ⟨g,hev,hg⟩:=haddr r p he
  obtain ⟨log1,rfl,h⟩:=h
  obtain ⟨⟨l,n',t',x'⟩,l1,l2,rfl,hz,h⟩:=M.runs_bind h
  dsimp only at h
  split at h
  ·rename_i hc
   obtain ⟨hX,hself,hrN⟩:=hc
   obtain ⟨⟨y,src⟩,l3,l4,rfl,hv,h⟩:=M.runs_bind h
   obtain ⟨u',l5,l6,rfl,hm,h⟩:=M.runs_bind h
   have hups:ups=(r,u')::(src.toList.map (fun s=>(s,V.dead))++depsU r (T.getD r .dead) src 0 T)∧depsOk r (T.getD r .dead) src 0 T=true:=by
    cases hfl:(!(T.getD r .dead).deep && src.isNone) with
    | false =>
     rw [hfl] at h
     dsimp only [cond_false] at h
     split at h
     ·rename_i ks
      obtain ⟨hbox,h⟩:=h
      obtain ⟨hbare,_,h⟩:=bareM_runs h
      obtain ⟨rfl,_⟩:=h
      obtain ⟨e1,e2⟩:=deps_none (r:=r) (root:=T.getD r .dead) (src:=src) (i:=0) (l:=T) (fun s hs hr hn=>by
       rw [Nat.zero_add] at hr hn
       have hd:(T.getD s .dead).deepOn r=false:=by
        cases hsrc:src with
        | none =>
         rw [hsrc] at hbare
         exact hbare s hr
        | some s0 =>
         rw [hsrc] at hbare hn
         exact hbare s (fun e=>hn (by rw [e]; rfl))
       unfold V.deepOn at hd
       rw [hs,Bool.true_and] at hd
       have hnd:(T.getD r .dead).isD=false:=by
        generalize T.getD r .dead=u at hbox
        cases u <;> simp [V.boxy,V.isD] at hbox ⊢
       generalize T.getD s .dead=v at hd
       cases v with
       | ptr r2 p2 t2 =>
        simp only [keepable,hnd,Bool.not_false,Bool.and_true,Bool.or_eq_true]
        exact .inr (by simpa using hd)
       | _=>simp at hd)
      rw [e1,e2,List.append_nil]
      exact ⟨rfl,rfl⟩
     ·obtain ⟨Ts,l7,l8,rfl,hall,h⟩:=M.runs_bind h
      obtain ⟨hdok,rfl,_⟩:=h
      have hTs:Ts=T:=by rw [allM_runs hall (by rw [Nat.zero_add,hI.len])]; rfl
      subst hTs
      exact ⟨rfl,hdok⟩
    | true =>
     rw [hfl] at h
     obtain ⟨rfl,_⟩:=h
     simp only [Bool.and_eq_true,Bool.not_eq_true',Option.isNone_iff_eq_none] at hfl
     obtain ⟨hdeep,rfl⟩:=hfl
     have hbx:∀ A,a.tmps.getD r undef = .tuple A→False:=by
      intro A hA
      have hsr:=hI.slots r
      rw [hA] at hsr
      generalize T.getD r .dead=u at hsr hz hdeep
      cases u with
      | box l2 n t x=>obtain ⟨_,_,_,_,h1,_⟩:=hsr; cases h1
      | d l2 n t x =>
       simp only [rootD] at hz
       split at hz
       ·obtain ⟨z,m1,m2,rfl,z1,z2⟩:=M.runs_bind hz
        cases n with
        | zero=>cases t <;> simp only [getP] at z1 <;> exact z1.elim
        | succ n =>
         cases t with
         | slice e t=>simp [V.deep,Ty.depth] at hdeep
         | _=>simp only [getP] at z1; exact z1.elim
       ·exact hz.elim
      | dead=>exact hz.elim
      | tup _=>exact hz.elim
      | rp _ _ _=>exact hz.elim
      | ptr _ _ _=>exact hz.elim
      | view _ _ _=>exact hz.elim
      | hole _ _=>exact hz.elim
      | part _ _ _ _ _=>exact hz.elim
      | odd _ _ _ _=>simp [V.deep] at hdeep
      | same _ _=>exact hz.elim
     obtain ⟨e1,e2⟩:=deps_none (r:=r) (root:=T.getD r .dead) (src:=none) (i:=0) (l:=T) (fun s hs _ _=>flat_keep hI hdeep hbx s hs)
     rw [e1,e2]
     exact ⟨rfl,rfl⟩
   obtain ⟨rfl,hdok⟩:=hups
   generalize hTs:T=Ts at *
   obtain ⟨hb,hlend,_,howns,hisd⟩:=rootD_inB hz (hI.slots r)
   obtain ⟨g',cur,e,k1,k2,k3,k4⟩:=hb
   obtain rfl:=hI.inj g g' r _ hg k1
   have hval:∃ cs,Form t' cs (a.eval x)∧(∀ v∈cs,v.oneCell'=true)∧cs.length=t'.sz∧(∀ s,src=some s→s≠r∧s ∉ vs∧∃ k y,n'≠0∧k≠0∧t'.depth≠0∧Ts.getD s .dead = .d none k t' y) ∧
     (∀ (L':Nat→Lab) (w':World) (u:V) q o',(∀ k,L k = .stable→L' k = .stable∧w'.heap[k]? = w.heap[k]?) →
      (∀ s k z i,src=some s→L k = .own s (i::z)→i < t'.sz→w'.heap[k]? = w.heap[k]? ∧ (z.length < n'→L' k = .own r (q++(o'+i)::z))∧(n'≤z.length→L' k = .stable)) →
      Own w' L' (SL L' u.root) r n' t' y q o' cs):=by
    obtain ⟨v,m1,m2,rfl,hv1,hv2⟩:=M.runs_bind hv
    split at hv2
    ·rename_i k tv y0
     split at hv2
     ·rename_i htv
      subst htv
      have hrep:∃ s0,SRep L Ts a.tmps s0 (.d none k tv y0) w (a.eval x)∧(∀ s,x = .tmp s→s0=s∧Ts.getD s .dead = .d none k tv y0)∧((∀ s,x ≠ .tmp s)→∀ L T tm s w,SRep L T tm s (.d none k tv y0) w (a.eval x)):=by
       rcases opnd_rep hI hv1 with ⟨s,rfl,hv,hs⟩ | ⟨_,hs⟩
       ·exact ⟨s,hs,fun s' he=>by cases he; exact ⟨rfl,hv.symm⟩,fun h=>absurd rfl (h s)⟩
       ·cases x with
        | tmp s =>
         obtain ⟨_,_,hv,_⟩:=hv1
         refine ⟨s,?_,fun s' he=>by cases he; exact ⟨rfl,hv.symm⟩,fun h=>absurd rfl (h s)⟩
         rw [hv]
         exact hI.slots s
        | const c=>exact ⟨0,hs _ _ _ _ _,fun s' he=>(by cases he),fun _=>hs⟩
        | func c=>exact ⟨0,hs _ _ _ _ _,fun s' he=>(by cases he),fun _=>hs⟩
        | global c=>exact hv1.elim
      obtain ⟨s0,⟨_,cs,hf,how⟩,hx,hx2⟩:=hrep
      have hstab:∀ {L':Nat→Lab} {w':World} {u:V},(∀ k,L k = .stable→L' k = .stable∧w'.heap[k]? = w.heap[k]?)→∀ k,SL L none k→SL L' u.root k∧w'.heap[k]? = w.heap[k]? := by
       intro L' w' u H k hk
       rcases hk with hk | ⟨_,_,hk,_⟩
       ·exact ⟨.inl (H k hk).1,(H k hk).2⟩
       ·cases hk
      refine ⟨cs,hf,Own.one how,Own.len how,?_⟩
      split at hv2
      ·rename_i hd
       obtain ⟨hv2,_⟩:=hv2
       cases hv2
       refine ⟨fun s hs=>(by cases hs),fun L' w' u q o' H1 _ => ?_⟩
       rcases hd with hd | ⟨rfl,rfl⟩
       ·exact Own.flat hd how
       ·exact Own.of_rd (Rd.move (hstab H1) (Own.rd0 how))
      ·rename_i hd
       cases x with
       | tmp s =>
        dsimp only at hv2
        split at hv2
        ·rename_i hcc
         obtain ⟨hv2,_⟩:=hv2
         cases hv2
         obtain ⟨c1,c2,ck,c3,c4⟩:=hcc
         obtain ⟨rfl,hT⟩:=hx s rfl
         refine ⟨fun s' hs => ?_,fun L' w' u q o' H1 H2 => ?_⟩
         ·injection hs with hs
          subst hs
          exact ⟨c4,fun hm=>(by rw [List.contains_iff_mem.2 hm] at c3; cases c3),k,_,c1,ck,fun h=>hd (.inl h),hT⟩
         ·obtain ⟨k9,c9,how9⟩:=Own.atLeast c2 how
          refine Own.moveLow c9 (hstab H1) (fun k d rest hdd hk => ?_) how9
          have hk':L k = .own s0 (d::rest):=by simpa using hk
          have:=H2 s0 k rest d rfl hk' hdd
          exact ⟨this.1,this.2.1,fun h => .inl (this.2.2 h)⟩
        ·exact hv2.elim
       | const c =>
        dsimp only at hv2
        split at hv2
        ·rename_i hnk
         obtain ⟨hv2,_⟩:=hv2
         cases hv2
         refine ⟨fun s hs=>(by cases hs),fun L' w' u q o' H1 _ => ?_⟩
         obtain ⟨_,cs',hf',how'⟩:=hx2 (by simp) (fun _ => .free) [] #[] 0 w
         have hcs:cs'=cs:=by
          have e1:=Form.cells hf' (Own.one how')
          have e2:=Form.cells hf (Own.one how)
          exact e1.symm.trans e2
         subst hcs
         refine Own.moveLow hnk (fun k hk=>absurd hk SL_free) (fun k d rest _ hk=>by cases hk) how'
        ·exact hv2.elim
       | func f=>exact hv2.elim
       | global g=>exact hv2.elim
     ·exact hv2.elim
    ·exact hv2.elim
   obtain ⟨cs,hf,hone,hlen,hsrc,hown⟩:=hval
   have hrun:(execOp a.eval o).run P w = .ok .skip (w.setRow g (putCells cur (node [] 0 p).2 cs)):=by
    simp [execOp,ho,hev,run_store_cells (hC X t' hX) k2 hf hone hlen k3]
   have hsr:src≠some r:=fun e=>(hsrc r e).1 rfl
   have hlenT:(setAll Ts ((r,u')::(src.toList.map (fun s=>(s,V.dead))++depsU r (Ts.getD r .dead) src 0 Ts))).length=N:=by rw [length_setAll,hI.len]
   have hsN:∀ s,src=some s→s < N:=by
    intro s hs
    obtain ⟨_,_,k,y',_,_,_,hT⟩:=hsrc s hs
    rcases Nat.lt_or_ge s N with h | h
    ·exact h
    ·rw [getD_out (by rw [hI.len]; exact h)] at hT; cases hT
   have hkeys:∀ s v,(s,v)∈((r,u')::(src.toList.map (fun s=>(s,V.dead))++depsU r (Ts.getD r .dead) src 0 Ts))→(s=r∧v=u')∨(src=some s∧v = .dead)∨(v = .dead∧((Ts.getD s .dead).on r && s != r && src != some s && !keepable (Ts.getD r .dead) src (Ts.getD s .dead))=true):=by
    intro s v hm
    rcases List.mem_cons.1 hm with hm | hm
    ·injection hm with h1 h2
     exact .inl ⟨h1,h2⟩
    ·rcases List.mem_append.1 hm with hm | hm
     ·obtain ⟨s',hs',he⟩:=List.mem_map.1 hm
      injection he with h1 h2
      subst h1
      exact .inr (.inl ⟨by simpa using hs',h2.symm⟩)
     ·obtain ⟨h1,_,_,h2⟩:=(depsU_mem s v).1 hm
      exact .inr (.inr ⟨h1,by simpa using h2⟩)
   intro K Q hK
   unfold Oper.wp
   rw [hrun,Oper.upon_skip,hdst]
   refine hK a _ _ (Inv.store (m:=n') (src:=src) hI rfl hz hm (by simpa using hself) hg k2 k3 hlen ?_ hlenT ?_ ?_ ?_ ?_)
   ·intro s hs
    obtain ⟨h1,h2,k,y',h3,h4,h5,h6⟩:=hsrc s hs
    refine ⟨h1,h2,?_,by rw [h6]; rfl⟩
    refine getD_setAll_mem (by rw [hI.len]; exact hsN s hs) ?_ (fun v hm => ?_)
    ·simp [hs]
    ·rcases hkeys s v hm with ⟨h,_⟩ | ⟨_,h⟩ | ⟨h,_⟩
     ·exact absurd h h1
     ·exact h
     ·exact h
   ·refine getD_setAll_mem (by rw [hI.len]; exact hrN) (by simp) (fun v hm => ?_)
    rcases hkeys r v hm with ⟨_,h⟩ | ⟨h,_⟩ | ⟨_,h⟩
    ·exact h
    ·exact absurd h hsr
    ·simp at h
   ·intro s hs hs2 hon
    have hslt:s < N:=by
     rcases Nat.lt_or_ge s N with h | h
     ·exact h
     ·rw [getD_out (by rw [hI.len]; exact h)] at hon; simp [V.on,V.root] at hon
    cases hk:keepable (Ts.getD r .dead) src (Ts.getD s .dead) with
    | true =>
     refine .inr ⟨getD_setAll _ _ _ (fun hm => ?_),Or.inl rfl⟩
     obtain ⟨u,hu,he⟩:=List.mem_map.1 hm
     rcases hkeys s u.2 (by rw [← he]; exact hu) with ⟨h,_⟩ | ⟨h,_⟩ | ⟨_,h⟩
     ·exact hs h
     ·exact hs2 h
     ·rw [hk] at h; simp at h
    | false =>
     have hc:((Ts.getD s .dead).on r && s != r && src != some s && !keepable (Ts.getD r .dead) src (Ts.getD s .dead))=true:=by
      rw [hon,hk]
      simp only [Bool.and_eq_true,bne_iff_ne,Bool.not_false,and_true,true_and]
      exact ⟨hs,hs2⟩
     refine .inl ⟨getD_setAll_mem (by rw [hI.len]; exact hslt) ?_ (fun v hm => ?_),?_⟩
     ·rw [List.mem_map]
      exact ⟨(s,.dead),by
       refine List.mem_cons_of_mem _ (List.mem_append_right _ ((depsU_mem s .dead).2 ⟨rfl,Nat.zero_le _,?_,?_⟩))
       ·rw [Nat.zero_add,hI.len]; exact hslt
       ·simpa using hc,rfl⟩
     ·rcases hkeys s v hm with ⟨h,_⟩ | ⟨h,_⟩ | ⟨h,_⟩
      ·exact absurd h hs
      ·exact absurd h hs2
      ·exact h
     ·exact depsOk_spec hdok s (by rw [hI.len]; exact hslt) (by simpa using hc)
   ·intro s hs hs2 hon
    refine getD_setAll _ _ _ (fun hm => ?_)
    obtain ⟨u,hu,he⟩:=List.mem_map.1 hm
    rcases hkeys s u.2 (by rw [← he]; exact hu) with ⟨h,_⟩ | ⟨h,_⟩ | ⟨_,h⟩
    ·exact hs h
    ·exact hs2 h
    ·rw [hon] at h; simp at h
   ·refine hown _ _ _ _ _ (fun k hk=>⟨newLab_stable hI hk,setRow_other w g k _ (by rintro rfl; rw [hg] at hk; cases hk)⟩) (fun s k z i hs hk hi => ?_)
    have hne:=(hsrc s hs).1
    have hlab:newLab (stF r (node [] 0 p).1 (node [] 0 p).2 t'.sz n' src) w L (fun _ => .free) k=if z.length < n' then .own r ((node [] 0 p).1++((node [] 0 p).2+i)::z) else .stable:=by
     rw [newLab_old hI (by rw [hk]; simp),hk]
     simp only [relab,stF]
     rw [if_neg hne,if_pos hs,if_pos hi]
    refine ⟨setRow_other w g k _ (by rintro rfl; rw [hg] at hk; injection hk with hk _; exact hne hk.symm),fun h=>by rw [hlab,if_pos h],fun h=>by rw [hlab,if_neg (by omega)]⟩
  ·exact h.elim
end
end Go.Proofs.YtkanidldnnfloaaGreat.P.Am
set_option linter.unusedVariables false
set_option linter.unusedSimpArgs false
namespace Go.Proofs.YtkanidldnnfloaaGreat.P.Am
def M.onT {α:Type} (T:List V):M α→M α
 | .ret a => .ret a
 | .fail => .fail
 | .get s k=>(k (T.getD s .dead)).onT T
 | .bnd t m k => .bnd t m fun x=>(k x).onT T
 | .chk b k => .chk b (k.onT T)
 | .ask q k => .chk (askOk q T && decide (tagK≤q)) (k.onT T)
 | .ite b x y => .ite b (x.onT T) (y.onT T)
theorem M.onT_runs {α:Type} {T T':List V}:{m:M α}→{a:α}→{log:List Nat}→(m.onT T').Runs T a log→∃ log',m.Runs T' a log'
 | .ret _,_,_,h=>⟨[],h.1,rfl⟩
 | .fail,_,_,h=>h.elim
 | .get s k,a,log,h=>by
  obtain ⟨log',h⟩:=M.onT_runs (m:=k _) h
  exact ⟨s::log',log',rfl,h⟩
 | .bnd t m k,a,log,h=>by
  obtain ⟨x,hm,h⟩:=h
  obtain ⟨log',h⟩:=M.onT_runs (m:=k x) h
  exact ⟨log',x,hm,h⟩
 | .chk c k,a,log,h=>by
  obtain ⟨hc,h⟩:=h
  obtain ⟨log',h⟩:=M.onT_runs (m:=k) h
  exact ⟨log',hc,h⟩
 | .ask q k,a,log,h=>by
  obtain ⟨hc,h⟩:=h
  obtain ⟨log',h⟩:=M.onT_runs (m:=k) h
  simp only [Bool.and_eq_true,decide_eq_true_eq] at hc
  exact ⟨q::log',hc,log',rfl,h⟩
 | .ite c x y,a,log,h=>by
  rcases h with ⟨hc,h⟩ | ⟨hc,h⟩
  ·obtain ⟨log',h⟩:=M.onT_runs (m:=x) h
   exact ⟨log',.inl ⟨hc,h⟩⟩
  ·obtain ⟨log',h⟩:=M.onT_runs (m:=y) h
   exact ⟨log',.inr ⟨hc,h⟩⟩
def mvM (C:Ctx) (vs:List Nat) (d:Nat) (X:TypeId) (x:Operand):M (List (Nat×V)) :=
 match x with
 | .tmp t => .get t fun v =>
   cond (v.owns && !vs.contains t && v.root.isNone && (match v with | .hole _ _=>false | _=>true)) (.ret [(t,.dead),(d,v)])
    ((copyOf t v).bind fun v' => .chk (okOn vs v') (.ret [(d,v')]))
 | x=>(opnd C X x).bind fun v' => .chk (okOn vs v') (.ret [(d,v')])
def killD (d:Nat):Nat→List V→List (Nat×V)
 | _,[]=>[]
 | i,v::l=>cond (i == d || v.on d) ((i,.dead)::killD d (i+1) l) (killD d (i+1) l)
def killDOk (d:Nat):Nat→List V→Bool
 | _,[]=>true
 | i,v::l=>(i == d || !(v.on d && v.owns)) && killDOk d (i+1) l
def assignM (C:Ctx) (vs:List Nat) (N d:Nat) (X:TypeId) (x:Operand):M (List (Nat×V)) :=
 .get d fun vd => .chk (decide (d < N)) (cond vd.owns
  ((allM 0 N).bind fun Ts => .chk (killDOk d 0 Ts) (((mvM C vs d X x).onT (setAll Ts (killD d 0 Ts))).bind fun ups => .ret (killD d 0 Ts++ups)))
  (mvM C vs d X x))
section
variable {P:Program} {C:Ctx} {w w' w0:World} {S S':Nat→Prop} {L L' L0:Nat→Lab} {s N:Nat} {vs:List Nat} {T T':List V} {tm tm':Array Value} {a:Act}
def isMove (o:Oper) (x:Operand):Prop:=o.op = .move x∨o.op = .assign x
theorem run_isMove {o:Oper} {x:Operand} (h:isMove o x):(execOp a.eval o).run P w = .ok (.value (a.eval x)) w:=by
 rcases h with h | h <;> simp [execOp,h]
theorem noOn_of [Glob] (hI:Inv w0 L0 N vs T a w L) {t:Nat} (h:t ∉ vs):noOn t t T=true:=by
 unfold noOn
 rw [List.all_eq_true]
 intro b hb
 obtain ⟨i,hi⟩:=List.mem_iff_getElem?.1 hb
 simp only [List.getElem?_mapIdx,Option.map_eq_some_iff] at hi
 obtain ⟨v,hv,rfl⟩:=hi
 have hgv:T.getD i .dead=v:=by simp [List.getD_eq_getElem?_getD,hv]
 simp only [id_eq,Bool.or_eq_true,bne_iff_ne]
 right
 intro hr
 exact h (hI.roots i t (by rw [hgv]; simp [V.on,hr]))
theorem step_mv [Glob] (hI:Inv w0 L0 N vs T a w L) {o:Oper} {x:Operand} {d:Nat} {ups:List (Nat×V)} {log:List Nat} (ho:isMove o x) (hdst:o.dst=some d) (hd:d < N) (hid:(T.getD d .dead).idle=true)
  (h:(mvM C vs d o.type x).Runs T ups log):Step P o w0 L0 N vs (setAll T ups) a w:=by
 have hcopy:∀ {v':V} {log:List Nat},(moveM C o.type x).Runs T v' log→okOn vs v'=true→Step P o w0 L0 N vs (setAll T [(d,v')]) a w:=by
  intro v' log h hok K Q hK
  have:=move_any (P:=P) (d:=d) hI (run_isMove ho) hid h (okOn_mem hok)
  exact PureRes.inv hI hd hid hdst this hK
 have hother:(∀ t,x ≠ .tmp t)→((opnd C o.type x).bind fun v'=>M.chk (okOn vs v') (.ret [(d,v')])).Runs T ups log→Step P o w0 L0 N vs (setAll T ups) a w:=by
  intro hx h
  obtain ⟨v',l1,l2,rfl,h1,h2⟩:=M.runs_bind h
  obtain ⟨hok,rfl,_⟩:=h2
  refine hcopy (log:=l1) ?_ hok
  cases x with
  | tmp t=>exact absurd rfl (hx t)
  | const c=>exact h1
  | func c=>exact h1
  | global c=>exact h1
 cases x with
 | const c=>exact hother (by simp) h
 | func c=>exact hother (by simp) h
 | global c=>exact hother (by simp) h
 | tmp t =>
  obtain ⟨log',rfl,h⟩:=h
  dsimp only at h
  cases hc:((T.getD t .dead).owns && !vs.contains t && (T.getD t .dead).root.isNone && (match T.getD t .dead with | .hole _ _=>false | _=>true)) with
  | true =>
   rw [hc] at h
   obtain ⟨rfl,_⟩:=h
   simp only [Bool.and_eq_true,Bool.not_eq_true'] at hc
   obtain ⟨⟨⟨h1,h2⟩,h3⟩,h4⟩:=hc
   have htv:t ∉ vs:=fun hm=>by rw [List.contains_iff_mem.2 hm] at h2; cases h2
   have hroot:(T.getD t .dead).root=none:=by simpa using h3
   obtain ⟨L',hI'⟩:=Inv.moveTo hI (t:=t) (d:=d) rfl h1 (fun u p e=>by rw [e] at h4; cases h4) (fun r i n t x e=>by rw [e] at hroot; cases hroot) hd hid (noOn_of hI htv) (by rw [hroot]; simp) (by rw [hroot]; simp)
   exact Step.value hdst (run_isMove ho) hI'
  | false =>
   rw [hc] at h
   obtain ⟨v',l1,l2,rfl,h1,h2⟩:=M.runs_bind h
   obtain ⟨hok,rfl,_⟩:=h2
   exact hcopy (log:=t::l1) ⟨l1,rfl,h1⟩ hok
theorem killD_mem {d:Nat}:{i:Nat}→{l:List V}→(s:Nat)→(v:V)→((s,v)∈killD d i l↔v = .dead∧i≤s∧s < i+l.length∧(s=d∨(l.getD (s - i) .dead).on d=true))
 | i,[],s,v=>by simp [killD]; omega
 | i,v0::l,s,v=>by
  have ih:=killD_mem (d:=d) (i:=i+1) (l:=l) s v
  have hsh:i+1≤s→(v0::l).getD (s - i) .dead=l.getD (s - (i+1)) .dead:=fun h=>by
   rw [show s - i=(s - (i+1))+1 by omega,List.getD_cons_succ]
  simp only [killD]
  cases hc:(i == d || v0.on d) with
  | true =>
   simp only [cond_true,List.mem_cons,Prod.mk.injEq,ih,List.length_cons]
   constructor
   ·rintro (⟨rfl,rfl⟩ | ⟨h1,h2,h3,h4⟩)
    ·refine ⟨rfl,Nat.le_refl _,by omega,?_⟩
     rw [Nat.sub_self,List.getD_cons_zero]
     simpa using hc
    ·refine ⟨h1,by omega,by omega,?_⟩
     rw [hsh h2]
     exact h4
   ·rintro ⟨h1,h2,h3,h4⟩
    by_cases hs:s=i
    ·exact .inl ⟨hs,h1⟩
    ·refine .inr ⟨h1,by omega,by omega,?_⟩
     rw [← hsh (by omega)]
     exact h4
  | false =>
   simp only [cond_false,ih,List.length_cons]
   constructor
   ·rintro ⟨h1,h2,h3,h4⟩
    refine ⟨h1,by omega,by omega,?_⟩
    rw [hsh h2]
    exact h4
   ·rintro ⟨h1,h2,h3,h4⟩
    by_cases hs:s=i
    ·subst hs
     rw [Nat.sub_self,List.getD_cons_zero] at h4
     simp only [Bool.or_eq_false_iff,beq_eq_false_iff_ne] at hc
     rcases h4 with h4 | h4
     ·exact absurd h4 hc.1
     ·rw [hc.2] at h4; cases h4
    ·refine ⟨h1,by omega,by omega,?_⟩
     rw [← hsh (by omega)]
     exact h4
theorem killDOk_spec {d:Nat}:{i:Nat}→{l:List V}→killDOk d i l=true→∀ s,i+s≠d→(l.getD s .dead).on d=true→(l.getD s .dead).owns=false
 | _,[],_,s,_,h=>by simp [V.on,V.root] at h
 | i,v0::l,h,s,hs,hc=>by
  simp only [killDOk,Bool.and_eq_true,Bool.or_eq_true,Bool.not_eq_true',beq_iff_eq] at h
  cases s with
  | zero =>
   simp only [List.getD_cons_zero] at hc ⊢
   have:=h.1.resolve_left (by simpa using hs)
   rw [hc,Bool.true_and] at this
   exact this
  | succ s =>
   simp only [List.getD_cons_succ] at hc ⊢
   exact killDOk_spec h.2 s (by omega) hc
theorem killD_get [Glob] (hl:T.length=N) {d:Nat} (hd:d < N) (s:Nat):(setAll T (killD d 0 T)).getD s .dead=if (s == d || (T.getD s .dead).on d)=true then .dead else T.getD s .dead:=by
 split
 ·rename_i hc
  by_cases hs:s < N
  ·refine getD_setAll_mem (by rw [hl]; exact hs) (List.mem_map.2 ⟨(s,.dead),(killD_mem s .dead).2 ⟨rfl,Nat.zero_le _,by rw [Nat.zero_add,hl]; exact hs,?_⟩,rfl⟩) (fun v hm=>((killD_mem s v).1 hm).1)
   simpa using hc
  ·exact getD_out (by rw [length_setAll,hl]; omega)
 ·rename_i hc
  refine getD_setAll _ _ _ (fun hm=>hc ?_)
  obtain ⟨u,hu,he⟩:=List.mem_map.1 hm
  have:=((killD_mem s u.2).1 (by rw [← he]; exact hu)).2.2.2
  simpa using this
theorem step_assign [Glob] (hI:Inv w0 L0 N vs T a w L) {o:Oper} {x:Operand} {d:Nat} {ups:List (Nat×V)} {log:List Nat} (ho:isMove o x) (hdst:o.dst=some d)
  (h:(assignM C vs N d o.type x).Runs T ups log):Step P o w0 L0 N vs (setAll T ups) a w:=by
 obtain ⟨log0,rfl,hd,h⟩:=h
 have hd:d < N:=by simpa using hd
 cases hown:(T.getD d .dead).owns with
 | false =>
  rw [hown] at h
  exact step_mv hI ho hdst hd (by rw [V.idle,hown]; rfl) h
 | true =>
  rw [hown] at h
  obtain ⟨Ts,l1,l2,rfl,hall,hk,h⟩:=M.runs_bind h
  have hTs:Ts=T:=by rw [allM_runs hall (by rw [Nat.zero_add,hI.len])]; rfl
  subst hTs
  obtain ⟨ups2,l3,l4,rfl,h1,h2⟩:=M.runs_bind h
  obtain ⟨rfl,_⟩:=h2
  obtain ⟨log',h1⟩:=M.onT_runs h1
  have hI1:=Inv.kill hI (T':=setAll Ts (killD d 0 Ts)) (fun s=>s == d || (Ts.getD s .dead).on d) (by rw [length_setAll,hI.len]) (fun s=>killD_get hI.len hd s) (fun s r hs ho1 ho2=>by
   simp only [Bool.or_eq_false_iff,beq_eq_false_iff_ne] at hs ⊢
   refine ⟨fun e => ?_,?_⟩
   ·subst e; rw [hs.2] at ho1; cases ho1
   ·cases hr:(Ts.getD r .dead).on d with
    | false=>rfl
    | true =>
     by_cases hrd:r=d
     ·subst hrd; rw [hs.2] at ho1; cases ho1
     ·rw [killDOk_spec hk r (by simpa using hrd) hr] at ho2; cases ho2)
  rw [setAll_append]
  refine step_mv hI1 ho hdst hd ?_ h1
  rw [killD_get hI.len hd,if_pos (by simp)]
  rfl
end
end Go.Proofs.YtkanidldnnfloaaGreat.P.Am
set_option linter.unusedVariables false
set_option linter.unusedSimpArgs false
namespace Go.Proofs.YtkanidldnnfloaaGreat.P.Am
inductive Mode where
 | ro
 | mut (n:Nat)
 | ptr (n:Nat)
 | eat (n:Nat)
@[simp] def Mode.back:Mode→Bool
 | .ro=>false
 | .mut _=>true
 | .ptr _=>true
 | .eat _=>false
def Mode.dep:Mode→Nat
 | .ro=>0
 | .mut n=>n
 | .ptr n=>n
 | .eat n=>n
def Mode.owned (t:Ty):Mode→Bool
 | .ro=>false
 | .mut n=>n != 0 && t.depth != 0
 | .ptr _=>true
 | .eat n=>n != 0 && t.depth != 0
def pTy:List (Ty×Mode)→Ty
 | [] => .unit
 | p::l => .pair p.1 (pTy l)
def mTy:List (Ty×Mode)→Ty
 | [] => .unit
 | (t,.mut _)::l => .pair t (mTy l)
 | (t,.ptr _)::l => .pair t (mTy l)
 | (_,.ro)::l=>mTy l
 | (_,.eat _)::l=>mTy l
def rTy:List (Ty×Nat)→Ty
 | [] => .unit
 | p::l => .pair p.1 (rTy l)
structure Fn where
 ps:List (Ty×Mode)
 rs:List (Ty×Nat)
 sem:(pTy ps).den→Option (Ty.pair (rTy rs) (mTy ps)).den
def BoxAt (w:World) (L:Nat→Lab) (S:Nat→Prop) (s n:Nat) (t:Ty) (x:t.den) (c:Value):Prop :=
 ∃ g cur e,c = .pointer (some ⟨g,0,none⟩)∧L g = .own s []∧w.heap[g]? = some (.cells cur e (0,0))∧cur.size=t.sz∧Own w L S s n t x [] 0 cur.toList
def ArgsRep (w:World) (L0:Nat→Lab):Nat→(ps:List (Ty×Mode))→(pTy ps).den→List Value→Prop
 | _,[],_,cs=>cs=[]
 | i,(t,.ptr n)::ps,x,cs=>∃ c cs',cs=c::cs'∧BoxAt w L0 (fun k=>L0 k = .stable) i n t x.1 c∧ArgsRep w L0 (i+1) ps x.2 cs'
 | i,(t,.mut n)::ps,x,cs=>∃ c cs' cells,cs=c::cs'∧Form t cells c∧Own w L0 (fun k=>L0 k = .stable) i n t x.1 [] 0 cells∧ArgsRep w L0 (i+1) ps x.2 cs'
 | i,(t,.eat n)::ps,x,cs=>∃ c cs' cells,cs=c::cs'∧Form t cells c∧Own w L0 (fun k=>L0 k = .stable) i n t x.1 [] 0 cells∧ArgsRep w L0 (i+1) ps x.2 cs'
 | i,(t,.ro)::ps,x,cs=>∃ c cs' cells,cs=c::cs'∧Form t cells c∧Own w L0 (fun k=>L0 k = .stable) i 0 t x.1 [] 0 cells∧ArgsRep w L0 (i+1) ps x.2 cs'
def MutRep (w:World) (L0:Nat→Lab):Nat→(ps:List (Ty×Mode))→(mTy ps).den→List Value→Prop
 | _,[],_,cs=>cs=[]
 | i,(t,.mut n)::ps,x,cs=>∃ c cs' cells,cs=c::cs'∧Form t cells c∧Own w L0 (fun k=>L0 k = .stable) i n t x.1 [] 0 cells∧MutRep w L0 (i+1) ps x.2 cs'
 | i,(t,.ptr n)::ps,x,cs=>∃ c cs',cs=c::cs'∧BoxAt w L0 (fun k=>L0 k = .stable) i n t x.1 c∧MutRep w L0 (i+1) ps x.2 cs'
 | i,(_,.ro)::ps,x,cs=>∃ c cs',cs=c::cs'∧MutRep w L0 (i+1) ps x cs'
 | i,(_,.eat _)::ps,x,cs=>∃ c cs',cs=c::cs'∧MutRep w L0 (i+1) ps x cs'
def ResRep (w:World) (L0:Nat→Lab) (m:Nat):Nat→(rs:List (Ty×Nat))→(rTy rs).den→List Value→Prop
 | _,[],_,cs=>cs=[]
 | o,(t,n)::rs,x,cs=>∃ c cs' cells,cs=c::cs'∧Form t cells c∧Own w L0 (fun k=>L0 k = .stable) m n t x.1 [] o cells∧ResRep w L0 m (o+t.sz) rs x.2 cs'
def ResTop (w:World) (L0:Nat→Lab) (m:Nat):(rs:List (Ty×Nat))→(rTy rs).den→List Value→Prop
 | [(t,n)],x,cs=>(n < 1000∧ResRep w L0 m 0 [(t,n)] x cs)∨(1000≤n∧∃ c,cs=[c]∧BoxAt w L0 (fun k=>L0 k = .stable) m (n - 1000) t x.1 c)
 | rs,x,cs=>ResRep w L0 m 0 rs x cs
def lowR:List (Ty×Nat)→Bool
 | [(_,n)]=>decide (n < 1000)
 | _=>true
theorem ResTop.low {w:World} {L0:Nat→Lab} {m:Nat}:{rs:List (Ty×Nat)}→{x:(rTy rs).den}→{cs:List Value}→lowR rs=true→(ResTop w L0 m rs x cs↔ResRep w L0 m 0 rs x cs)
 | [(t,n)],x,cs,h=>by
  have h:n < 1000:=of_decide_eq_true h
  constructor
  ·rintro (⟨_,h1⟩ | ⟨h1,_⟩)
   ·exact h1
   ·omega
  ·exact fun h1 => .inl ⟨h,h1⟩
 | [],_,_,_=>Iff.rfl
 | _::_::_,_,_,_=>Iff.rfl
def resVal:List Value→Value
 | [v]=>v
 | l => .tuple l.toArray
structure Legit [Glob] (w:World) (L0:Nat→Lab) (ps:List (Ty×Mode)):Prop where
 free:∀ k,w.heap.size≤k→L0 k = .free
 inj:∀ k k' s q,L0 k = .own s q→L0 k' = .own s q→k=k'
 owner:∀ k s q,L0 k = .own s q→∃ t m,ps[s]? = some (t,m)∧m.owned t=true
 glob:Glob.ok w L0
theorem Legit.write [Glob] {w:World} {L0:Nat→Lab} {ps:List (Ty×Mode)} (h:Legit w L0 ps) {k s:Nat} {q:List Nat} (hk:L0 k = .own s q):∃ t m,ps[s]? = some (t,m)∧(m.back=true∨∃ n,m = .eat n):=by
 obtain ⟨t,m,h1,h2⟩:=h.owner k s q hk
 refine ⟨t,m,h1,?_⟩
 match m,h2 with
 | .mut n,_=>exact .inl rfl
 | .ptr n,_=>exact .inl rfl
 | .eat n,_=>exact .inr ⟨n,rfl⟩
structure Left (w w':World) (L0 L':Nat→Lab) (ps:List (Ty×Mode)) (rs:List (Ty×Nat)):Prop where
 os:w'.os=w.os
 tape:w'.tape=w.tape
 output:w'.output=w.output
 size:w.heap.size≤w'.heap.size
 drawn:w.drawn≤w'.drawn
 keep:∀ k,k < w.heap.size→(L0 k = .stable∨L0 k = .other)→L' k=L0 k∧w'.heap[k]? = w.heap[k]?
 free:∀ k,w'.heap.size≤k→L' k = .free
 inj:∀ k k' s q,L' k = .own s q→L' k' = .own s q→k=k'
 owner:∀ k s q,L' k = .own s q→(s=ps.length∧∃ t n,(t,n)∈rs∧((n≠0∧t.depth≠0)∨1000≤n))∨∃ t m,ps[s]? = some (t,m)∧m.back=true
def FnOk [Glob] (P:Program) (f:FuncId) (F:Fn):Prop :=
 (∃ fn, P.funcs[f]? = some fn ∧ (fn.name == "runtime.NumGoroutine") = false ∧ fn.body.isNone = false) ∧
 ∀ x r,F.sem x=some r→∀ (w:World) (L0:Nat→Lab) (args:Array Value),Legit w L0 F.ps→ArgsRep w L0 0 F.ps x args.toList →
  Calls P f args w (fun e w'=>∃ cs L',e = .returned (resVal cs)∧Left w w' L0 L' F.ps F.rs∧ResTop w' L' F.ps.length F.rs r.1 cs∧MutRep w' L' 0 F.ps r.2 args.toList)
def nilArg:(t:Ty)→Option t.den
 | .slice _ _=>some []
 | _=>none
def argM (C:Ctx) (t:Ty) (x:Operand):M (t.den×List Nat) :=
 match x with
 | .tmp s => .get s fun v=>(readD s v).bind fun z=>if h:z.2.1=t then .ret (h▸z.2.2,if t.depth=0 then [] else z.1.toList) else .fail
 | .const (.slice none 0 0)=>match nilArg t with
  | some y => .ret (y,[])
  | none => .fail
 | .const c=>(constM C 0 c).bind fun v=>match v with
  | .d none _ t' y=>if h:t'=t then .ret (h▸y,[]) else .fail
  | _ => .fail
 | .func f=>if h:Ty.raw 1=t then .ret (h▸(Value.func (.func f) #[] #[]:(Ty.raw 1).den),[]) else .fail
 | _ => .fail
def mutM (t:Ty) (n:Nat) (x:Operand):M (t.den×Nat) :=
 match x with
 | .tmp s => .get s fun v=>match v with
  | .view r [] _ => .get r fun u=>match u with
   | .d none n' t' y=>if h:t'=t then (if n'=n∧t.depth≤n∧t.depth≠0 then .ret (h▸y,r) else .fail) else .fail
   | _ => .fail
  | .d none n' t' y=>if h:t'=t then (if n'=n∧t.depth≤n∧t.depth≠0 then .ret (h▸y,s) else .fail) else .fail
  | _ => .fail
 | _ => .fail
structure Args (ps:List (Ty×Mode)) where
 x:(pTy ps).den
 ls:List Nat
 mu:List (Nat×Nat)
def argsM (C:Ctx):Nat→(ps:List (Ty×Mode))→List Operand→M (Args ps)
 | _,[],[] => .ret ⟨(),[],[]⟩
 | i,(t,.ro)::ps,x::xs=>(argM C t x).bind fun y=>(argsM C (i+1) ps xs).bind fun r => .ret ⟨(y.1,r.x),y.2++r.ls,r.mu⟩
 | i,(t,.mut n)::ps,x::xs=>(mutM t n x).bind fun y=>(argsM C (i+1) ps xs).bind fun r => .ret ⟨(y.1,r.x),r.ls,(y.2,i)::r.mu⟩
 | _,_,_ => .fail
section
variable {P:Program} {C:Ctx} {w w' w0:World} {S S':Nat→Prop} {L L' L0:Nat→Lab} {s N:Nat} {vs:List Nat} {T T':List V} {tm tm':Array Value} {a:Act}
theorem Own.full:{n:Nat}→{t:Ty}→{x:t.den}→{q:List Nat}→{o:Nat}→{cs:List Value}→t.depth≤n→Own w L S s n t x q o cs→Own w L S' s n t x q o cs
 | _,.int _,_,_,_,_,_,h=>by simpa only [Own] using h
 | _,.bool,_,_,_,_,_,h=>by simpa only [Own] using h
 | _,.str,_,_,_,_,_,h=>by simpa only [Own] using h
 | _,.raw _,_,_,_,_,_,h=>by simpa only [Own] using h
 | _,.unit,_,_,_,_,_,h=>by simpa only [Own] using h
 | _,.pair a b,_,_,_,_,hd,h=>by
  simp only [Own,Ty.depth] at h hd ⊢
  obtain ⟨c0,c1,rfl,h0,h1⟩:=h
  exact ⟨c0,c1,rfl,Own.full (by omega) h0,Own.full (by omega) h1⟩
 | _,.agg t,_,_,_,_,hd,h=>by simp only [Own,Ty.depth] at h hd ⊢; exact Own.full (t:=t) hd h
 | 0,.slice _ _,_,_,_,_,hd,h=>by simp [Ty.depth] at hd
 | n+1,.slice e t,xs,_,_,_,hd,h=>by
  simp only [Own,Ty.depth] at h hd ⊢
  rcases h with h | ⟨g,cap,cur,h1,h2,h3,h4,h5,h6,h7⟩
  ·exact .inl h
  ·exact .inr ⟨g,cap,cur,h1,h2,h3,h4,h5,h6,fun j hj=>Own.full (by omega) (h7 j hj)⟩
def toCallee (mu:Option (Nat×Nat)) (ls:List Nat):Lab→Lab
 | .own s q=>match mu with
  | some (r,i)=>if s=r then .own i q else if ls.contains s then .stable else .other
  | none=>if ls.contains s then .stable else .other
 | x=>x
def fromCallee (mu:Option (Nat×Nat)) (m d:Nat):Lab→Lab
 | .own i q=>if i=m then .own d q else match mu with
  | some (r,_) => .own r q
  | none => .other
 | x=>x
def backLab (mu:Option (Nat×Nat)) (m d:Nat) (L L':Nat→Lab):Nat→Lab:=fun k=>match L k with
 | .free=>fromCallee mu m d (L' k)
 | .own s q=>if mu.map (·.1)=some s then fromCallee mu m d (L' k) else .own s q
 | x=>x
theorem toCallee_own {mu:Option (Nat×Nat)} {ls:List Nat} {l:Lab} {i:Nat} {q:List Nat} (h:toCallee mu ls l = .own i q):∃ r,mu=some (r,i)∧l = .own r q:=by
 cases l with
 | own s q' =>
  unfold toCallee at h
  cases mu with
  | none=>dsimp only at h; split at h <;> cases h
  | some p =>
   obtain ⟨r,i'⟩:=p
   dsimp only at h
   split at h
   ·rename_i hs
    injection h with h1 h2
    exact ⟨r,by rw [h1],by rw [hs,h2]⟩
   ·split at h <;> cases h
 | stable=>cases h
 | free=>cases h
 | other=>cases h
theorem argM_rep [Glob] (hI:Inv w0 L0 N vs T a w L) {t:Ty} {x:Operand} {y:t.den} {ls:List Nat} {log:List Nat} (h:(argM C t x).Runs T (y,ls) log) :
  ∃ cells,Form t cells (a.eval x)∧(∀ r∈ls,(T.getD r .dead).deep=true)∧∀ (S:Nat→Prop),(∀ k,L k = .stable→S k)→(∀ k r q,r∈ls→L k = .own r q→S k)→Rd w S t y cells:=by
 unfold argM at h
 split at h
 ·rename_i s
  obtain ⟨log',rfl,h⟩:=h
  obtain ⟨⟨l,t',y'⟩,l1,l2,rfl,h1,h2⟩:=M.runs_bind h
  dsimp only at h2
  split at h2
  ·rename_i ht
   subst ht
   obtain ⟨h2,_⟩:=h2
   injection h2 with h2 h3
   subst h2 h3
   obtain ⟨cells,hf,hrd,hdp⟩:=readD_rd hI h1 (hI.slots s) (fun _=>rfl)
   refine ⟨cells,hf,fun r hr => ?_,fun S H1 H2 => ?_⟩
   ·split at hr
    ·simp at hr
    ·exact hdp r (by simpa using hr)
   ·by_cases hd:t'.depth=0
    ·have:=Own.of_rd (L:=L) (s:=0) (q:=[]) (o:=0) hrd
     exact Own.rd0 (Own.flat (L':=L) (S':=S) (s':=0) (q':=[]) (o':=0) (n':=0) hd this)
    ·rw [if_neg hd] at H2
     refine Rd.move (fun k hk=>⟨?_,rfl⟩) hrd
     rcases hk with hk | ⟨r,q,hl,hk⟩
     ·exact H1 k hk
     ·exact H2 k r q (by simp [hl]) hk
  ·exact h2.elim
 ·split at h
  ·rename_i y' hn
   obtain ⟨h,_⟩:=h
   injection h with h1 h2
   subst h1 h2
   unfold nilArg at hn
   split at hn
   ·injection hn with hn
    subst hn
    exact ⟨[.slice none 0 0],rfl,by simp,fun S _ _=>by
     simp only [Rd]
     refine ⟨none,0,rfl,Nat.le_refl _,fun _ => ?_,fun h=>absurd rfl h⟩
     first | exact ⟨rfl,rfl⟩ | simp⟩
   ·cases hn
  ·exact h.elim
 ·rename_i c _
  obtain ⟨v,l1,l2,rfl,h1,h2⟩:=M.runs_bind h
  split at h2
  ·rename_i n t' y'
   split at h2
   ·rename_i ht
    subst ht
    obtain ⟨h2,_⟩:=h2
    injection h2 with h2 h3
    subst h2 h3
    obtain ⟨⟨_,cells,hf,ho⟩,_⟩:=constM_rep (L:=fun _ => .free) (T:=T) (tm:=a.tmps) (s:=0) (w:=w) h1
    refine ⟨cells,hf,by simp,fun S _ _ => ?_⟩
    exact Own.rd0 (Own.moveLow (L':=L) (S':=S) (s':=0) (q2:=[]) (o2:=0) (Nat.zero_le _) (fun k hk=>absurd hk SL_free) (fun k d rest _ hk=>by cases hk) ho)
   ·exact h2.elim
  ·exact h2.elim
 ·rename_i f
  split at h
  ·rename_i ht
   subst ht
   obtain ⟨h,_⟩:=h
   injection h with h1 h2
   subst h1 h2
   refine ⟨[.func (.func f) #[] #[]],rfl,by simp,fun S _ _ => ?_⟩
   first | exact ⟨rfl,rfl⟩ | simp [Rd,Value.plain1]
  ·exact h.elim
 ·exact h.elim
theorem mutM_rep [Glob] (hI:Inv w0 L0 N vs T a w L) {t:Ty} {n:Nat} {x:Operand} {y:t.den} {r:Nat} {log:List Nat} (h:(mutM t n x).Runs T (y,r) log) :
  T.getD r .dead = .d none n t y∧t.depth≤n∧t.depth≠0∧a.eval x=a.tmps.getD r undef:=by
 unfold mutM at h
 split at h
 ·rename_i s
  obtain ⟨log',rfl,h⟩:=h
  have hs:=hI.slots s
  generalize hv:T.getD s .dead=v at h hs
  dsimp only at h
  split at h
  ·rename_i r' t2
   obtain ⟨log2,rfl,h⟩:=h
   dsimp only at h
   split at h
   ·rename_i n' t' y' hu
    split at h
    ·rename_i ht
     subst ht
     split at h
     ·rename_i hc
      obtain ⟨rfl,hn,hd⟩:=hc
      obtain ⟨h,_⟩:=h
      injection h with h1 h2
      subst h1 h2
      refine ⟨hu,hn,hd,?_⟩
      obtain ⟨_,h1⟩:=hs
      rcases h1 with ⟨_,h2,_⟩ | ⟨_,_,_,h2,_⟩
      ·exact h2
      ·rw [hu] at h2; simp [V.isD] at h2
     ·exact h.elim
    ·exact h.elim
   ·exact h.elim
  ·rename_i n' t' y'
   split at h
   ·rename_i ht
    subst ht
    split at h
    ·rename_i hc
     obtain ⟨rfl,hn,hd⟩:=hc
     obtain ⟨h,_⟩:=h
     injection h with h1 h2
     subst h1 h2
     exact ⟨hv,hn,hd,rfl⟩
    ·exact h.elim
   ·exact h.elim
  ·exact h.elim
 ·exact h.elim
theorem argsM_rep [Glob] (hI:Inv w0 L0 N vs T a w L):{ps:List (Ty×Mode)}→{i:Nat}→{xs:List Operand}→{A:Args ps}→{log:List Nat}→(argsM C i ps xs).Runs T A log →
  (∀ r∈A.ls,(T.getD r .dead).deep=true)∧(∀ r j,(r,j)∈A.mu→i≤j∧∃ t n y,ps[j - i]? = some (t,.mut n)∧t.depth≤n∧t.depth≠0∧T.getD r .dead = .d none n t y∧(xs.map a.eval)[j - i]? = some (a.tmps.getD r undef)) ∧
  (∀ j t n,ps[j]? = some (t,.mut n)→∃ r,(r,i+j)∈A.mu) ∧
  ∀ L1:Nat→Lab,(∀ k,L k = .stable→L1 k = .stable)→(∀ k r q,r∈A.ls→L k = .own r q→L1 k = .stable)→(∀ k r j q,(r,j)∈A.mu→L k = .own r q→L1 k = .own j q)→ArgsRep w L1 i ps A.x (xs.map a.eval)
 | [],i,[],A,log,h=>by
  obtain ⟨rfl,_⟩:=h
  exact ⟨by simp,by simp,by simp,fun _ _ _ _=>rfl⟩
 | (t,.ro)::ps,i,x::xs,A,log,h=>by
  simp only [argsM] at h
  obtain ⟨⟨y,ls⟩,l1,l2,rfl,h1,h⟩:=M.runs_bind h
  obtain ⟨A',l3,l4,rfl,h2,h⟩:=M.runs_bind h
  obtain ⟨rfl,_⟩:=h
  obtain ⟨cells,k1,k2,k3⟩:=argM_rep hI h1
  obtain ⟨j1,j2,j4,j3⟩:=argsM_rep hI h2
  refine ⟨fun r hr => ?_,fun r j hm => ?_,fun j t' n hj => ?_,fun L1 H1 H2 H3 => ?_⟩
  ·rcases List.mem_append.1 hr with hr | hr
   ·exact k2 r hr
   ·exact j1 r hr
  ·obtain ⟨hi,t',n',y',e1,e2,e3,e4,e5⟩:=j2 r j hm
   have:j - i=(j - (i+1))+1:=by omega
   refine ⟨by omega,t',n',y',by rw [this]; simpa using e1,e2,e3,e4,by rw [this]; simpa using e5⟩
  ·cases j with
   | zero=>simp at hj
   | succ j =>
    obtain ⟨r,hr⟩:=j4 j t' n (by simpa using hj)
    exact ⟨r,by rw [show i+(j+1)=i+1+j by omega]; exact hr⟩
  ·exact ⟨a.eval x,_,cells,rfl,k1,Own.of_rd (k3 _ H1 (fun k r q hr hk=>H2 k r q (List.mem_append_left _ hr) hk)),j3 L1 H1 (fun k r q hr hk=>H2 k r q (List.mem_append_right _ hr) hk) H3⟩
 | (t,.mut n)::ps,i,x::xs,A,log,h=>by
  simp only [argsM] at h
  obtain ⟨⟨y,r0⟩,l1,l2,rfl,h1,h⟩:=M.runs_bind h
  obtain ⟨A',l3,l4,rfl,h2,h⟩:=M.runs_bind h
  obtain ⟨rfl,_⟩:=h
  obtain ⟨k1,k2,k3,k4⟩:=mutM_rep hI h1
  obtain ⟨j1,j2,j4,j3⟩:=argsM_rep hI h2
  refine ⟨j1,fun r j hm => ?_,fun j t' n' hj => ?_,fun L1 H1 H2 H3 => ?_⟩
  ·rcases List.mem_cons.1 hm with hm | hm
   ·injection hm with e1 e2
    subst e1 e2
    exact ⟨Nat.le_refl _,t,n,y,by simp,k2,k3,k1,by simp [k4]⟩
   ·obtain ⟨hi,t',n',y',e1,e2,e3,e4,e5⟩:=j2 r j hm
    have:j - i=(j - (i+1))+1:=by omega
    refine ⟨by omega,t',n',y',by rw [this]; simpa using e1,e2,e3,e4,by rw [this]; simpa using e5⟩
  ·cases j with
   | zero=>exact ⟨r0,by simp⟩
   | succ j =>
    obtain ⟨r,hr⟩:=j4 j t' n' (by simpa using hj)
    exact ⟨r,by rw [show i+(j+1)=i+1+j by omega]; exact List.mem_cons_of_mem _ hr⟩
  ·have hs:=hI.slots r0
   rw [k1] at hs
   obtain ⟨_,cells,hf,ho⟩:=hs
   refine ⟨a.eval x,_,cells,rfl,by rw [k4]; exact hf,?_,j3 L1 H1 H2 (fun k r j q hm hk=>H3 k r j q (List.mem_cons_of_mem _ hm) hk)⟩
   refine Own.move (fun k hk=>⟨?_,rfl⟩) (fun k d rest _ hk=>⟨H3 k r0 i _ (by simp) hk,rfl⟩) ho
   rcases hk with hk | ⟨_,_,hk,_⟩
   ·exact H1 k hk
   ·cases hk
 | [],_,_::_,_,_,h=>h.elim
 | (_,.ro)::_,_,[],_,_,h=>h.elim
 | (_,.mut _)::_,_,[],_,_,h=>h.elim
 | (_,.ptr _)::_,_,[],_,_,h=>h.elim
 | (_,.ptr _)::_,_,_::_,_,_,h=>h.elim
 | (_,.eat _)::_,_,[],_,_,h=>h.elim
 | (_,.eat _)::_,_,_::_,_,_,h=>h.elim
theorem argsM_noptr {C:Ctx}:{ps:List (Ty×Mode)}→{i:Nat}→{xs:List Operand}→{A:Args ps}→{log:List Nat}→(argsM C i ps xs).Runs T A log→∀ (j:Nat) (t:Ty) (n:Nat),ps[j]? ≠ some (t,.ptr n)
 | [],_,_,_,_,_,j,t,n=>by simp
 | (t0,.ro)::ps,i,x::xs,A,log,h,j,t,n=>by
  simp only [argsM] at h
  obtain ⟨_,_,_,_,_,h⟩:=M.runs_bind h
  obtain ⟨_,_,_,_,h2,_⟩:=M.runs_bind h
  cases j with
  | zero=>simp
  | succ j=>simpa using argsM_noptr h2 j t n
 | (t0,.mut n0)::ps,i,x::xs,A,log,h,j,t,n=>by
  simp only [argsM] at h
  obtain ⟨_,_,_,_,_,h⟩:=M.runs_bind h
  obtain ⟨_,_,_,_,h2,_⟩:=M.runs_bind h
  cases j with
  | zero=>simp
  | succ j=>simpa using argsM_noptr h2 j t n
 | (_,.ro)::_,_,[],_,_,h,_,_,_=>h.elim
 | (_,.mut _)::_,_,[],_,_,h,_,_,_=>h.elim
 | (_,.ptr _)::_,_,[],_,_,h,_,_,_=>h.elim
 | (_,.ptr _)::_,_,_::_,_,_,h,_,_,_=>h.elim
 | (_,.eat _)::_,_,[],_,_,h,_,_,_=>h.elim
 | (_,.eat _)::_,_,_::_,_,_,h,_,_,_=>h.elim
theorem argsM_mode [Glob] {C:Ctx} {ps:List (Ty×Mode)} {i:Nat} {xs:List Operand} {A:Args ps} {log:List Nat} (h:(argsM C i ps xs).Runs T A log) {j:Nat} {t:Ty} {m:Mode} (hj:ps[j]? = some (t,m)) (hm:m.back=true):∃ n,m = .mut n:=by
 match m,hj,hm with
 | .ro,_,hm=>cases hm
 | .eat _,_,hm=>cases hm
 | .mut n,_,_=>exact ⟨n,rfl⟩
 | .ptr n,hj,_=>exact absurd hj (argsM_noptr h j t n)
end
end Go.Proofs.YtkanidldnnfloaaGreat.P.Am
set_option linter.unusedVariables false
set_option linter.unusedSimpArgs false
namespace Go.Proofs.YtkanidldnnfloaaGreat.P.Am
section
variable {P:Program} {C:Ctx} {w w' w0:World} {S S':Nat→Prop} {L L' L0:Nat→Lab} {s N:Nat} {vs:List Nat} {T T':List V} {tm tm':Array Value} {a:Act}
theorem fromCallee_own {mu:Option (Nat×Nat)} {m d:Nat} {l:Lab} {s:Nat} {q:List Nat} (h:fromCallee mu m d l = .own s q):∃ i,l = .own i q∧((i=m∧s=d)∨(i≠m∧∃ j,mu=some (s,j))):=by
 cases l with
 | own i q' =>
  unfold fromCallee at h
  dsimp only at h
  split at h
  ·rename_i hi
   injection h with h1 h2
   exact ⟨i,by rw [h2],.inl ⟨hi,h1.symm⟩⟩
  ·rename_i hi
   split at h
   ·injection h with h1 h2
    subst h1
    exact ⟨i,by rw [h2],.inr ⟨hi,_,rfl⟩⟩
   ·cases h
 | stable=>cases h
 | free=>cases h
 | other=>cases h
def InPlay (mu:Option (Nat×Nat)) (l:Lab):Prop:=l = .free∨∃ s q,l = .own s q∧mu.map (·.1)=some s
theorem backLab_in {mu:Option (Nat×Nat)} {m d:Nat} {k:Nat} (h:InPlay mu (L k)):backLab mu m d L L' k=fromCallee mu m d (L' k):=by
 unfold backLab
 rcases h with h | ⟨s,q,h,hm⟩
 ·rw [h]
 ·rw [h]
  simp [hm]
theorem backLab_out {mu:Option (Nat×Nat)} {m d:Nat} {k:Nat} (h:¬ InPlay mu (L k)):backLab mu m d L L' k=L k:=by
 unfold backLab
 cases hl:L k with
 | own s q =>
  dsimp only
  rw [if_neg]
  intro hm
  exact h (.inr ⟨s,q,hl,hm⟩)
 | stable=>rfl
 | other=>rfl
 | free=>exact absurd (.inl hl) h
theorem toCallee_out {mu:Option (Nat×Nat)} {ls:List Nat} {l:Lab} (h:¬ InPlay mu l):toCallee mu ls l = .stable∨toCallee mu ls l = .other:=by
 cases l with
 | own s q =>
  unfold toCallee
  cases mu with
  | none=>dsimp only; split <;> simp
  | some p =>
   obtain ⟨r,i⟩:=p
   dsimp only
   rw [if_neg (fun e=>h (.inr ⟨s,q,rfl,by simp [e]⟩))]
   split <;> simp
 | stable=>exact .inl rfl
 | other=>exact .inr rfl
 | free=>exact absurd (.inl rfl) h
theorem Inv.calledG [Glob] (hI:Inv w0 L0 N vs T a w L) {d m:Nat} (hd:d < N) (hid:(T.getD d .dead).idle=true) {mu:Option (Nat×Nat)} {ls:List Nat} {ps:List (Ty×Mode)} {rs:List (Ty×Nat)} (hm:m=ps.length)
  (hmi:∀ r i,mu=some (r,i)→i < m) (hleft:Left w w' (fun k=>toCallee mu ls (L k)) L' ps rs) (hlenT:T'.length=N)
  (hpl:∀ j t md,ps[j]? = some (t,md)→md.back=true→mu.map (·.2)=some j)
  {c:Value}
  (hTr:∀ r i,mu=some (r,i)→(T.getD r .dead).owns=true∧((∀ (j:Nat) (t:Ty) (md:Mode),ps[j]? = some (t,md)→md.back=false)∨(T'.getD r .dead).owns=true)∧(T'.getD r .dead).root=none∧SRep (backLab mu m d L L') T' (a.put (some d) c).tmps r (T'.getD r .dead) w' (a.tmps.getD r undef))
  (hT:∀ s r i,mu=some (r,i)→s≠d→s≠r→(T.getD s .dead).on r=true→(T'.getD s .dead = .dead∧(T.getD s .dead).owns=false) ∨
   (T'.getD s .dead=T.getD s .dead∧(T.getD s .dead).owns=false∧SRep (backLab mu m d L L') T' (a.put (some d) c).tmps s (T.getD s .dead) w' (a.tmps.getD s undef)))
  (hT2:∀ s,s≠d→(∀ r i,mu=some (r,i)→s≠r∧(T.getD s .dead).on r=false)→T'.getD s .dead=T.getD s .dead)
  {V0:V} (hTd:T'.getD d .dead=V0) (hVon:∀ r,V0.on r=true→r∈vs) (hVown:∀ k q,L' k = .own m q→V0.owns=true)
  (hls:∀ r i,mu=some (r,i)→r ∉ ls)
  (hVrep:∀ tm',SRep (backLab mu m d L L') T' tm' d V0 w' c):Inv w0 L0 N vs T' (a.put (some d) c) w' (backLab mu m d L L'):=by
 have hrd:∀ r i,mu=some (r,i)→r≠d:=by
  intro r i h
  exact idle_ne hid (hTr r i h).1
 have hnd:∀ k q,L k ≠ .own d q:=fun k q h=>by
  have:=hI.owner k d q h
  rw [V.not_owns hid] at this
  cases this
 have hstay:∀ k,¬ InPlay mu (L k)→(backLab mu m d L L' k=L k∧w'.heap[k]? = w.heap[k]?):=by
  intro k h
  have hlt:k < w.heap.size:=hI.lt (fun e=>h (.inl e))
  exact ⟨backLab_out h,(hleft.keep k hlt (toCallee_out h)).2⟩
 let X:Nat→Prop:=fun s=>s=d∨∃ r i,mu=some (r,i)∧(s=r∨(T.getD s .dead).on r=true)
 have hnoX:∀ s,¬ X s→s≠d∧(∀ r i,mu=some (r,i)→s≠r∧(T.getD s .dead).on r=false):=by
  intro s hs
  have hs:=not_or.1 hs
  refine ⟨hs.1,fun r i hr=>⟨fun e=>hs.2 ⟨r,i,hr,.inl e⟩,?_⟩⟩
  cases ho:(T.getD s .dead).on r with
  | false=>rfl
  | true=>exact absurd ⟨r,i,hr,.inr ho⟩ hs.2
 refine Inv.upd X hI (by simp [Act.put,hI.size]) hlenT hI.dfr ?_ ?_ ?_ ?_ ?_ ?_ ?_ ?_ ?_
 ·refine ⟨hleft.os.trans hI.fr.os,hleft.tape.trans hI.fr.tape,hleft.output.trans hI.fr.output,Nat.le_trans hI.fr.size hleft.size,Nat.le_trans hI.fr.drawn hleft.drawn,fun k hk h0 => ?_,hI.fr.glob⟩
  have h1:=hI.fr.keep k hk h0
  have hni:¬ InPlay mu (L k):=by
   rintro (h | ⟨s,q,h,_⟩) <;> rw [h1.1] at h <;> rcases h0 with h0 | h0 <;> rw [h0] at h <;> cases h
  have:=hstay k hni
  exact ⟨this.1.trans h1.1,this.2.trans h1.2⟩
 ·intro k hk
  have hf:=hI.free k (Nat.le_trans hleft.size hk)
  rw [backLab_in (.inl hf),hleft.free k hk]
  rfl
 ·intro k k' s q h h'
  by_cases hp:InPlay mu (L k)
  ·rw [backLab_in hp] at h
   obtain ⟨i,e1,e2⟩:=fromCallee_own h
   by_cases hp':InPlay mu (L k')
   ·rw [backLab_in hp'] at h'
    obtain ⟨i',e1',e2'⟩:=fromCallee_own h'
    have:i=i':=by
     rcases e2 with ⟨rfl,rfl⟩ | ⟨h1,j,h2⟩
     ·rcases e2' with ⟨h3,_⟩ | ⟨_,j,h4⟩
      ·exact h3.symm
      ·exact absurd rfl (hrd _ _ h4)
     ·rcases e2' with ⟨rfl,rfl⟩ | ⟨h3,j',h4⟩
      ·exact absurd rfl (hrd _ _ h2)
      ·
       rcases hleft.owner k i q e1 with ⟨h5,_⟩ | ⟨t,n,h5,h5'⟩
       ·exact absurd (h5.trans hm.symm) h1
       ·rcases hleft.owner k' i' q e1' with ⟨h6,_⟩ | ⟨t',n',h6,h6'⟩
        ·exact absurd (h6.trans hm.symm) h3
        ·have e5:=hpl i t n h5 h5'
         have e6:=hpl i' t' n' h6 h6'
         rw [e5] at e6
         exact Option.some.inj e6
    subst this
    exact hleft.inj k k' i q e1 e1'
   ·rw [backLab_out hp'] at h'
    rcases e2 with ⟨_,rfl⟩ | ⟨_,j,h2⟩
    ·exact absurd h' (hnd k' q)
    ·exact absurd (.inr ⟨s,q,h',by simp [h2]⟩) hp'
  ·rw [backLab_out hp] at h
   by_cases hp':InPlay mu (L k')
   ·rw [backLab_in hp'] at h'
    obtain ⟨i,e1,e2⟩:=fromCallee_own h'
    rcases e2 with ⟨_,rfl⟩ | ⟨_,j,h2⟩
    ·exact absurd h (hnd k q)
    ·exact absurd (.inr ⟨s,q,h,by simp [h2]⟩) hp
   ·rw [backLab_out hp'] at h'
    exact hI.inj k k' s q h h'
 ·intro k s q h
  by_cases hp:InPlay mu (L k)
  ·rw [backLab_in hp] at h
   obtain ⟨i,e1,e2⟩:=fromCallee_own h
   rcases e2 with ⟨rfl,rfl⟩ | ⟨him,j,h2⟩
   ·rw [hTd]; exact hVown k q e1
   ·rcases (hTr s j h2).2.1 with hno | hyes
    ·rcases hleft.owner k i q e1 with ⟨h5,_⟩ | ⟨t,md,h5,h6⟩
     ·exact absurd (h5.trans hm.symm) him
     ·rw [hno i t md h5] at h6; cases h6
    ·exact hyes
  ·rw [backLab_out hp] at h
   have ho:=hI.owner k s q h
   have hsd:s≠d:=idle_ne hid ho
   by_cases hx:X s
   ·rcases hx with h | ⟨r,i,hr,h | h⟩
    ·exact absurd h hsd
    ·exact absurd (.inr ⟨s,q,by assumption,by simp [hr,h]⟩) hp
    ·by_cases hsr:s=r
     ·exact absurd (.inr ⟨s,q,by assumption,by simp [hr,hsr]⟩) hp
     ·rcases hT s r i hr hsd hsr h with ⟨_,h⟩ | ⟨_,h,_⟩
      ·rw [h] at ho; cases ho
      ·rw [h] at ho; cases ho
   ·obtain ⟨_,h2⟩:=hnoX s hx
    rw [hT2 s hsd h2]
    exact ho
 ·intro s hs k hk
  obtain ⟨h1,h2⟩:=hnoX s hs
  refine hstay k ?_
  rintro (hp | ⟨s',q',hp,hmu⟩)
  ·rcases hk with hk | ⟨r,q,hk,_⟩ <;> rw [hp] at hk <;> cases hk
  ·obtain ⟨⟨r,i⟩,hr,hr2⟩:=Option.map_eq_some_iff.1 hmu
   dsimp only at hr2
   subst hr2
   rcases hk with hk | ⟨r',q,hk,hk2⟩
   ·rw [hp] at hk; cases hk
   ·rw [hp] at hk
    injection hk with hk _
    subst hk
    rcases hk2 with rfl | hk2
    ·exact (h2 _ _ hr).1 rfl
    ·rw [(h2 _ _ hr).2] at hk2; cases hk2
 ·intro s hs
  obtain ⟨h1,h2⟩:=hnoX s hs
  refine ⟨hT2 s h1 h2,?_⟩
  show (a.tmps.setIfInBounds d c).getD s undef=_
  rw [getD_setA,if_neg (fun e=>h1 e.1)]
 ·intro s r h
  by_cases hsd:s=d
  ·subst hsd; rw [hTd] at h; exact hVon r h
  ·by_cases hx:X s
   ·rcases hx with h1 | ⟨r1,i,hr,h1⟩
    ·exact absurd h1 hsd
    ·by_cases hsr:s=r1
     ·subst hsr
      have h0:=(hTr s i hr).2.2.1
      unfold V.on at h
      rw [h0] at h
      cases h
     ·have ho:=h1.resolve_left hsr
      rcases hT s r1 i hr hsd hsr ho with ⟨h2,_⟩ | ⟨h2,_⟩
      ·rw [h2] at h; simp [V.on,V.root] at h
      ·rw [h2] at h; exact hI.roots s r h
   ·obtain ⟨_,h2⟩:=hnoX s hx
    rw [hT2 s hsd h2] at h
    exact hI.roots s r h
 ·intro s r hs hon ho
  obtain ⟨h1,h2⟩:=hnoX s hs
  have hrd':r≠d:=idle_ne hid ho
  have:T'.getD r .dead=T.getD r .dead:=by
   by_cases hx:X r
   ·rcases hx with h | ⟨r1,i,hr,h | h⟩
    ·exact absurd h hrd'
    ·subst h
     rw [(h2 r i hr).2] at hon; cases hon
    ·by_cases hsr:r=r1
     ·subst hsr; rw [(h2 r i hr).2] at hon; cases hon
     ·rcases hT r r1 i hr hrd' hsr h with ⟨_,h⟩ | ⟨h,_⟩
      ·rw [h] at ho; cases ho
      ·exact h
   ·obtain ⟨_,h3⟩:=hnoX r hx
    exact hT2 r hrd' h3
  refine ⟨this,?_⟩
  show (a.tmps.setIfInBounds d c).getD r undef=_
  rw [getD_setA,if_neg (fun e=>hrd' e.1)]
 ·intro s hX
  by_cases hsd:s=d
  ·subst hsd
   rw [hTd]
   show SRep _ _ _ _ _ _ ((a.tmps.setIfInBounds s c).getD s undef)
   rw [getD_setA,if_pos ⟨rfl,by rw [hI.size]; exact hd⟩]
   exact hVrep _
  ·obtain ⟨r,i,hr,hX⟩:=hX.resolve_left hsd
   have hput:∀ s',s'≠d→(a.put (some d) c).tmps.getD s' undef=a.tmps.getD s' undef:=fun s' h=>put_other (by simpa using Ne.symm h)
   rw [hput s hsd]
   by_cases hsr:s=r
   ·subst hsr
    exact (hTr s i hr).2.2.2
   ·have ho:=hX.resolve_left hsr
    rcases hT s r i hr hsd hsr ho with ⟨h,_⟩ | ⟨h,_,h'⟩
    ·rw [h]; trivial
    ·rw [h]; exact h'
theorem Inv.called [Glob] (hI:Inv w0 L0 N vs T a w L) {d m:Nat} (hd:d < N) (hid:(T.getD d .dead).idle=true) {mu:Option (Nat×Nat)} {ls:List Nat} {ps:List (Ty×Mode)} {rs:List (Ty×Nat)} (hm:m=ps.length)
  (hmi:∀ r i,mu=some (r,i)→i < m) (hleft:Left w w' (fun k=>toCallee mu ls (L k)) L' ps rs) (hlenT:T'.length=N)
  (hpl:∀ j t md,ps[j]? = some (t,md)→md.back=true→mu.map (·.2)=some j)
  (hTr:∀ r i,mu=some (r,i)→∃ t n y y2 cells,T.getD r .dead = .d none n t y∧t.depth≤n∧t.depth≠0∧T'.getD r .dead = .d none n t y2∧Form t cells (a.tmps.getD r undef)∧Own w' L' (fun k=>L' k = .stable) i n t y2 [] 0 cells)
  (hT:∀ s r i,mu=some (r,i)→s≠d→s≠r→(T.getD s .dead).on r=true→(T'.getD s .dead = .dead∧(T.getD s .dead).owns=false)∨(T'.getD s .dead=T.getD s .dead∧∃ t,T.getD s .dead = .view r [] t))
  (hT2:∀ s,s≠d→(∀ r i,mu=some (r,i)→s≠r∧(T.getD s .dead).on r=false)→T'.getD s .dead=T.getD s .dead)
  {V0:V} {c:Value} (hTd:T'.getD d .dead=V0) (hVon:∀ r,V0.on r=true→r∈vs) (hVown:∀ k q,L' k = .own m q→V0.owns=true)
  (hls:∀ r i,mu=some (r,i)→r ∉ ls)
  (hVrep:∀ tm',SRep (backLab mu m d L L') T' tm' d V0 w' c):Inv w0 L0 N vs T' (a.put (some d) c) w' (backLab mu m d L L'):=by
 have hrd:∀ r i,mu=some (r,i)→r≠d:=by
  intro r i h
  obtain ⟨t,n,y,y2,cells,h1,h2,h3,_⟩:=hTr r i h
  refine idle_ne hid ?_
  rw [h1]
  simp only [V.owns,Bool.and_eq_true,bne_iff_ne]; omega
 have hput:∀ s',s'≠d→(a.put (some d) c).tmps.getD s' undef=a.tmps.getD s' undef:=fun s' h=>put_other (by simpa using Ne.symm h)
 refine Inv.calledG hI hd hid hm hmi hleft hlenT hpl (fun r i hr => ?_) (fun s r i hr hsd hsr ho => ?_) hT2 hTd hVon hVown hls hVrep
 ·obtain ⟨t,n,y,y2,cells,h3,h4,h5,h6,h7,h8⟩:=hTr r i hr
  refine ⟨by rw [h3]; simp only [V.owns,Bool.and_eq_true,bne_iff_ne]; omega,.inr (by rw [h6]; simp only [V.owns,Bool.and_eq_true,bne_iff_ne]; omega),by rw [h6]; rfl,?_⟩
  rw [h6]
  refine ⟨by simp,cells,h7,?_⟩
  have hii:i≠m:=by have:=hmi r i hr; omega
  refine Own.move (S:=fun _=>False) (fun k hk=>hk.elim) (fun k dd rest _ hk=>⟨?_,rfl⟩) (Own.full h4 h8)
  have hp:InPlay mu (L k):=by
   apply Classical.byContradiction
   intro hp
   have hlt:k < w.heap.size:=hI.lt (fun e=>hp (.inl e))
   have h9:=(hleft.keep k hlt (toCallee_out hp)).1
   rw [hk] at h9
   rcases toCallee_out (ls:=ls) hp with h | h <;> rw [h] at h9 <;> cases h9
  rw [backLab_in hp,hk]
  simp [fromCallee,hii,hr]
 ·obtain ⟨t,n,y,y2,cells,h3,h4,h5,h6,h7,h8⟩:=hTr r i hr
  rcases hT s r i hr hsd hsr ho with h | ⟨h,t',h'⟩
  ·exact .inl h
  ·refine .inr ⟨h,by rw [h']; rfl,?_⟩
   rw [h']
   have hs:=hI.slots s
   rw [h'] at hs
   obtain ⟨_,h1⟩:=hs
   rcases h1 with ⟨_,h2,l1,n1,x1,h9,h10⟩ | ⟨_,_,_,h2,_⟩
   ·rw [h3] at h9
    cases h9
    refine ⟨by rw [h6]; simp only [V.deep,Bool.and_eq_true,bne_iff_ne]; omega,.inl ⟨rfl,?_,none,n,y2,h6,by simp only [V.owns,Bool.and_eq_true,bne_iff_ne]; omega⟩⟩
    rw [hput r (hrd r i hr)]; exact h2
   ·rw [h3] at h2; simp [V.isD] at h2
end
end Go.Proofs.YtkanidldnnfloaaGreat.P.Am
set_option linter.unusedVariables false
set_option linter.unusedSimpArgs false
namespace Go.Proofs.YtkanidldnnfloaaGreat.P.Am
def tupC:(rs:List (Ty×Nat))→(rTy rs).den→List (Nat×Option (Nat×(t:Ty)×t.den))
 | [],_=>[]
 | (t,n)::rs,x=>(t.sz,some (n,⟨t,x.1⟩))::tupC rs x.2
def resV (vs ls:List Nat):(rs:List (Ty×Nat))→(rTy rs).den→Option V
 | [(t,n)],x=>if 1000≤n then (match ls with
  | []=>some (.box none (n - 1000) t x.1)
  | _::_=>none) else if t.depth≤n then some (.d none n t x.1) else match ls with
  | []=>some (.d none n t x.1)
  | l::ls'=>cond (ls'.all (· == l) && vs.contains l) (some (.d (some l) n t x.1)) none
 | rs,x=>cond (ls.isEmpty || rs.all (fun p=>decide (p.1.depth≤p.2))) (some (.tup (tupC rs x))) none
def mutV:(ps:List (Ty×Mode))→(mTy ps).den→Option V
 | [],_=>none
 | (t,.mut n)::_,x=>some (.d none n t x.1)
 | (_,.ptr _)::_,_=>none
 | (_,.eat _)::_,_=>none
 | (_,.ro)::ps,x=>mutV ps x
abbrev Tab:=FuncId→Option Fn
def callM (C:Ctx) (tab:Tab) (vs:List Nat) (N d:Nat) (f:FuncId) (args:List Operand):M (List (Nat×V)) :=
 match tab f with
 | none => .fail
 | some F=>(argsM C 0 F.ps args).bind fun A=>match A.mu with
  | [] => .bnd (.pair (rTy F.rs) (mTy F.ps)) (F.sem A.x) fun r=>match resV vs A.ls F.rs r.1 with
   | some v => .ret [(d,v)]
   | none => .fail
  | [(r0,_)]=>cond (A.ls.contains r0 || !decide (r0 < N)) .fail (.get r0 fun u => .bnd (.pair (rTy F.rs) (mTy F.ps)) (F.sem A.x) fun r=>match resV vs A.ls F.rs r.1,mutV F.ps r.2 with
   | some v,some u'=>(allM 0 N).bind fun Ts => .chk (depsOk r0 u (some r0) 0 Ts) (.ret (((r0,u')::depsU r0 u (some r0) 0 Ts)++[(d,v)]))
   | _,_ => .fail)
  | _ => .fail
def TabOk [Glob] (P:Program) (tab:Tab):Prop:=∀ f F,tab f=some F→FnOk P f F
section
variable {P:Program} {C:Ctx} {w w' w0:World} {S S':Nat→Prop} {L L' L0:Nat→Lab} {s N:Nat} {vs:List Nat} {T T':List V} {tm tm':Array Value} {a:Act}
theorem mutV_rep:{ps:List (Ty×Mode)}→{i:Nat}→{x:(mTy ps).den}→{cs:List Value}→{v:V}→MutRep w L0 i ps x cs→mutV ps x=some v →
  ∃ j t n y c cells,ps[j]? = some (t,.mut n)∧v = .d none n t y∧cs[j]? = some c∧Form t cells c∧Own w L0 (fun k=>L0 k = .stable) (i+j) n t y [] 0 cells
 | [],_,_,_,_,_,hv=>by cases hv
 | (t,.mut n)::ps,i,x,cs,v,h,hv=>by
  simp only [MutRep] at h
  obtain ⟨c,cs',cells,rfl,h1,h2,_⟩:=h
  simp only [mutV,Option.some.injEq] at hv
  exact ⟨0,t,n,x.1,c,cells,rfl,hv.symm,rfl,h1,h2⟩
 | (t,.ptr n)::ps,i,x,cs,v,h,hv=>by cases hv
 | (t,.eat n)::ps,i,x,cs,v,h,hv=>by cases hv
 | (t,.ro)::ps,i,x,cs,v,h,hv=>by
  simp only [MutRep] at h
  obtain ⟨c,cs',rfl,h⟩:=h
  simp only [mutV] at hv
  obtain ⟨j,t',n,y,c',cells,h1,h2,h3,h4,h5⟩:=mutV_rep h hv
  exact ⟨j+1,t',n,y,c',cells,by simpa using h1,h2,by simpa using h3,h4,by rw [show i+(j+1)=i+1+j by omega]; exact h5⟩
theorem back_own [Glob] {mu:Option (Nat×Nat)} {ls:List Nat} {ps:List (Ty×Mode)} {rs:List (Ty×Nat)} {m d:Nat} (hI:Inv w0 L0 N vs T a w L) (hleft:Left w w' (fun k=>toCallee mu ls (L k)) L' ps rs)
  {l:Option Nat} {n:Nat} {t:Ty} {x:t.den} {q:List Nat} {o:Nat} {cs:List Value} (hl:t.depth≤n∨∀ r∈ls,l=some r)
  (h:Own w' L' (fun k=>L' k = .stable) m n t x q o cs):Own w' (backLab mu m d L L') (SL (backLab mu m d L L') l) d n t x q o cs:=by
 have hown:∀ k q',L' k = .own m q'→backLab mu m d L L' k = .own d q':=by
  intro k q' hk
  have hp:InPlay mu (L k):=by
   apply Classical.byContradiction
   intro hp
   have hlt:k < w.heap.size:=hI.lt (fun e=>hp (.inl e))
   have h9:=(hleft.keep k hlt (toCallee_out hp)).1
   rw [hk] at h9
   rcases toCallee_out (ls:=ls) hp with h | h <;> rw [h] at h9 <;> cases h9
  rw [backLab_in hp,hk]
  simp [fromCallee]
 rcases hl with hl | hl
 ·exact Own.move (S:=fun _=>False) (fun k hk=>hk.elim) (fun k dd rest _ hk=>⟨hown k _ hk,rfl⟩) (Own.full hl h)
 ·refine Own.move (fun k hk=>⟨?_,rfl⟩) (fun k dd rest _ hk=>⟨hown k _ hk,rfl⟩) h
  by_cases hp:InPlay mu (L k)
  ·left; rw [backLab_in hp,hk]; rfl
  ·have hlt:k < w.heap.size:=hI.lt (fun e=>hp (.inl e))
   have h9:=(hleft.keep k hlt (toCallee_out hp)).1
   rw [hk] at h9
   unfold SL
   rw [backLab_out hp]
   cases hlk:L k with
   | stable=>exact .inl rfl
   | own s q' =>
    right
    rw [hlk] at h9
    unfold toCallee at h9
    refine ⟨s,q',hl s ?_,rfl⟩
    cases mu with
    | none =>
     dsimp only at h9
     split at h9
     ·rename_i hc; simpa using hc
     ·cases h9
    | some p =>
     obtain ⟨r,i⟩:=p
     dsimp only at h9
     split at h9
     ·cases h9
     ·split at h9
      ·rename_i hc; simpa using hc
      ·cases h9
   | other=>rw [hlk] at h9; cases h9
   | free=>exact absurd (.inl hlk) hp
theorem tupC_rep [Glob] {mu:Option (Nat×Nat)} {ls:List Nat} {ps:List (Ty×Mode)} {rs0:List (Ty×Nat)} {m d:Nat} (hI:Inv w0 L0 N vs T a w L) (hleft:Left w w' (fun k=>toCallee mu ls (L k)) L' ps rs0) :
  {rs:List (Ty×Nat)}→{o:Nat}→{x:(rTy rs).den}→{cs:List Value}→(ls=[]∨∀ p∈rs,p.1.depth≤p.2)→ResRep w' L' m o rs x cs→TRep w' (backLab mu m d L L') d o (tupC rs x) cs
 | [],_,_,_,_,h=>h
 | (t,n)::rs,o,x,cs,hl,h=>by
  simp only [ResRep] at h
  obtain ⟨c,cs',cells,rfl,h1,h2,h3⟩:=h
  refine ⟨c,cs',rfl,fun n' t' x' hc => ?_,tupC_rep hI hleft (hl.imp id fun h p hp=>h p (by simp [hp])) h3⟩
  simp only [Option.some.injEq,Prod.mk.injEq] at hc
  obtain ⟨rfl,hc⟩:=hc
  cases hc
  refine ⟨rfl,cells,h1,back_own hI hleft ?_ h2⟩
  rcases hl with rfl | hl
  ·exact .inr (by simp)
  ·exact .inl (hl (t,n) (by simp))
theorem tupC_owns {t:Ty} {n:Nat}:{rs:List (Ty×Nat)}→{x:(rTy rs).den}→(t,n)∈rs→n≠0→t.depth≠0→(tupC rs x).any (fun c=>compOwns c.2)=true
 | [],_,h,_,_=>by cases h
 | (t',n')::rs,x,h,hn,hd=>by
  simp only [tupC,List.any_cons,Bool.or_eq_true]
  rcases List.mem_cons.1 h with h | h
  ·injection h with h1 h2
   subst h1 h2
   left
   simp [compOwns,hn,hd]
  ·exact .inr (tupC_owns h hn hd)
theorem tupC_repr [Glob] {mu:Option (Nat×Nat)} {ls:List Nat} {ps:List (Ty×Mode)} {rs0:List (Ty×Nat)} {m d:Nat} {tm':Array Value} (hI:Inv w0 L0 N vs T a w L) (hleft:Left w w' (fun k=>toCallee mu ls (L k)) L' ps rs0)
  {rs:List (Ty×Nat)} {x:(rTy rs).den} {cs:List Value} (hne:∀ p,rs≠[p]) (hl:ls=[]∨∀ p∈rs,p.1.depth≤p.2) (h:ResRep w' L' m 0 rs x cs):SRep (backLab mu m d L L') T' tm' d (.tup (tupC rs x)) w' (resVal cs):=by
 refine ⟨cs.toArray,?_,by simpa using tupC_rep hI hleft hl h⟩
 match rs,x,cs,h with
 | [],_,cs,h =>
  obtain rfl:cs=[]:=h
  rfl
 | [p],_,_,_=>exact absurd rfl (hne p)
 | p::p'::rs,x,cs,h =>
  obtain ⟨c,cs',cells,rfl,_,_,h3⟩:=h
  obtain ⟨c',cs'',cells',rfl,_⟩:=h3
  rfl
theorem resV_rep [Glob] {mu:Option (Nat×Nat)} {ls:List Nat} {ps:List (Ty×Mode)} {rs:List (Ty×Nat)} {m d:Nat} (hI:Inv w0 L0 N vs T a w L) (hleft:Left w w' (fun k=>toCallee mu ls (L k)) L' ps rs)
  (hm:m=ps.length) (hdl:∀ r∈ls,(T'.getD r .dead).deep=true) {x:(rTy rs).den} {cs:List Value} {v:V} (h:ResTop w' L' m rs x cs) (hv:resV vs ls rs x=some v) :
  (∀ r,v.on r=true→r∈vs)∧(∀ k q,L' k = .own m q→v.owns=true)∧∀ tm',SRep (backLab mu m d L L') T' tm' d v w' (resVal cs):=by
 have howner:∀ k q,L' k = .own m q→∃ t n,(t,n)∈rs∧((n≠0∧t.depth≠0)∨1000≤n):=by
  intro k q hk
  rcases hleft.owner k m q hk with ⟨_,h⟩ | ⟨t,n,h,_⟩
  ·exact h
  ·rw [hm] at h; simp at h
 have hmany:lowR rs=true→(∀ p,rs≠[p])→cond (ls.isEmpty || rs.all (fun p=>decide (p.1.depth≤p.2))) (some (V.tup (tupC rs x))) none=some v →
   (∀ r,v.on r=true→r∈vs)∧(∀ k q,L' k = .own m q→v.owns=true)∧∀ tm',SRep (backLab mu m d L L') T' tm' d v w' (resVal cs):=by
  intro hlow hne hv
  have h:=(ResTop.low hlow).1 h
  cases hc:(ls.isEmpty || rs.all (fun p=>decide (p.1.depth≤p.2))) with
  | false=>rw [hc] at hv; cases hv
  | true =>
   rw [hc] at hv
   injection hv with hv
   subst hv
   refine ⟨fun r h=>by simp [V.on,V.root] at h,fun k q hk => ?_,fun tm'=>tupC_repr hI hleft hne ?_ h⟩
   ·exact rfl
   ·simp only [Bool.or_eq_true,List.isEmpty_iff,List.all_eq_true,decide_eq_true_eq] at hc
    exact hc
 match rs,x,h,hv,hmany,howner with
 | [],x,h,hv,hmany,howner=>exact hmany rfl (by simp) hv
 | p::p'::rs,x,h,hv,hmany,howner=>exact hmany rfl (by simp) hv
 | [(t,n)],x,h,hv,hmany,howner =>
  by_cases hn1000:1000≤n
  ·simp only [resV,if_pos hn1000] at hv
   cases ls with
   | cons _ _=>cases hv
   | nil =>
    injection hv with hv
    subst hv
    rcases h with ⟨h,_⟩ | ⟨_,c,rfl,g,cur,e,rfl,h1,h2,h3,h4⟩
    ·omega
    ·refine ⟨fun r h=>by simp [V.on,V.root] at h,fun _ _ _=>rfl,fun tm'=>⟨by simp,g,cur,e,rfl,?_,h2,h3,back_own hI hleft (.inr (by simp)) h4⟩⟩
     have hp:InPlay mu (L g):=by
      apply Classical.byContradiction
      intro hp
      have hlt:g < w.heap.size:=hI.lt (fun e=>hp (.inl e))
      have h9:=(hleft.keep g hlt (toCallee_out hp)).1
      rw [h1] at h9
      rcases toCallee_out (ls:=[]) hp with h | h <;> rw [h] at h9 <;> cases h9
     rw [backLab_in hp,h1]
     simp [fromCallee]
  have h:=((or_iff_left (b:=_) (fun hh=>hn1000 hh.1)).1 h).2
  simp only [ResRep] at h
  obtain ⟨c,cs',cells,rfl,h1,h2,rfl⟩:=h
  have howns:∀ l,∀ k q,L' k = .own m q→(V.d l n t x.1).owns=true:=by
   intro l k q hk
   obtain ⟨t',n',g1,g2⟩:=howner k q hk
   simp only [List.mem_singleton,Prod.mk.injEq] at g1
   obtain ⟨rfl,rfl⟩:=g1
   simp only [V.owns,Bool.and_eq_true,bne_iff_ne]
   exact g2.resolve_right hn1000
  simp only [resV,if_neg hn1000] at hv
  split at hv
  ·rename_i hd
   injection hv with hv
   subst hv
   exact ⟨fun r h=>by simp [V.on,V.root] at h,howns none,fun tm'=>⟨by simp,cells,h1,back_own hI hleft (.inl hd) h2⟩⟩
  ·cases ls with
   | nil =>
    injection hv with hv
    subst hv
    exact ⟨fun r h=>by simp [V.on,V.root] at h,howns none,fun tm'=>⟨by simp,cells,h1,back_own hI hleft (.inr (by simp)) h2⟩⟩
   | cons l ls' =>
    dsimp only at hv
    cases hc:(ls'.all (· == l) && vs.contains l) with
    | false=>rw [hc] at hv; cases hv
    | true =>
     rw [hc] at hv
     injection hv with hv
     subst hv
     simp only [Bool.and_eq_true,List.all_eq_true,beq_iff_eq] at hc
     refine ⟨fun r h => ?_,howns _,fun tm'=>⟨fun r hr => ?_,cells,h1,back_own hI hleft (.inr fun r hr => ?_) h2⟩⟩
     ·have:l=r:=by simpa [V.on,V.root] using h
      rw [← this]
      simpa using hc.2
     ·injection hr with hr
      exact hdl r (by rw [hr]; simp)
     ·rcases List.mem_cons.1 hr with rfl | hr
      ·rfl
      ·rw [hc.1 r hr]
theorem step_call [Glob] (hI:Inv w0 L0 N vs T a w L) {tab:Tab} (htab:TabOk P tab) {o:Oper} {f:FuncId} {args:Array Operand} {ats:Array TypeId} {d:Nat} {ups:List (Nat×V)} {log:List Nat}
  (ho:o.op = .call { callee := .value (.func f),args,argTypes:=ats }) (hdst:o.dst=some d) (hd:d < N) (hid:(T.getD d .dead).idle=true)
  (h:(callM C tab vs N d f args.toList).Runs T ups log):Step P o w0 L0 N vs (setAll T ups) a w:=by
 unfold callM at h
 split at h
 ·exact h.elim
 ·rename_i F hF
  obtain ⟨⟨fn,hfn,hname,hbody⟩,hok⟩:=htab f F hF
  have hb:=M.runs_bind h
  clear h
  obtain ⟨A,l1,l2,rfl,h1,h⟩:=hb
  obtain ⟨hls,hmu,hmall,hargs⟩:=argsM_rep hI h1
  have hrun:=Go.Conc.run_call_body (P:=P) (a:=a) (w:=w) ho hfn hname hbody
  have hlsd:∀ r∈A.ls,r≠d:=fun r hr=>idle_ne hid (V.owns_of_deep (hls r hr))
  have fin:∀ (mu:Option (Nat×Nat)),A.mu=mu.toList→(∀ r i,mu=some (r,i)→r ∉ A.ls)→∀ r,F.sem A.x=some r →
    (∀ w' cs L',Left w w' (fun k=>toCallee mu A.ls (L k)) L' F.ps F.rs→ResTop w' L' F.ps.length F.rs r.1 cs→MutRep w' L' 0 F.ps r.2 (args.toList.map a.eval)→Inv w0 L0 N vs (setAll T ups) (a.put (some d) (resVal cs)) w' (backLab mu F.ps.length d L L')) →
    Step P o w0 L0 N vs (setAll T ups) a w:=by
   intro mu hmu2 hmls r hsem hinv K Q hK
   unfold Oper.wp
   rw [hrun,Oper.upon_enter]
   have hmem:∀ r i,mu=some (r,i)→(r,i)∈A.mu:=fun r i h=>by rw [hmu2,h]; simp
   have hlegit:Legit w (fun k=>toCallee mu A.ls (L k)) F.ps:=by
    refine ⟨fun k hk=>by rw [hI.free k hk]; rfl,fun k k' s q h h' => ?_,fun k s q h => ?_,Glob.keep hI.fr.glob fun k hk h0=>⟨?_,(hI.fr.keep k hk h0).2⟩⟩
    ·obtain ⟨r1,e1,e2⟩:=toCallee_own h
     obtain ⟨r2,e3,e4⟩:=toCallee_own h'
     rw [e1] at e3
     injection e3 with e3
     injection e3 with e3 _
     subst e3
     exact hI.inj k k' _ _ e2 e4
    ·obtain ⟨r1,e1,e2⟩:=toCallee_own h
     obtain ⟨_,t,n,y,h2,h3,h4,_⟩:=hmu r1 s (hmem r1 s e1)
     exact ⟨t,.mut n,by simpa using h2,by simp only [Mode.owned,Bool.and_eq_true,bne_iff_ne]; omega⟩
    ·rw [(hI.fr.keep k hk h0).1]
     rcases h0 with h0 | h0 <;> rw [h0] <;> simp [toCallee]
   have hrep:=hargs (fun k=>toCallee mu A.ls (L k)) (fun k hk=>by rw [hk]; rfl) (fun k r q hr hk=>by
    rw [hk]
    unfold toCallee
    cases mu with
    | none=>dsimp only; rw [if_pos (by simpa using hr)]
    | some p =>
     obtain ⟨r0,i⟩:=p
     dsimp only
     rw [if_neg (fun e:r=r0=>hmls r0 i rfl (by rw [← e]; exact hr)),if_pos (by simpa using hr)]) (fun k r j q hm hk=>by
    rw [hk]
    rw [hmu2] at hm
    cases mu with
    | none=>simp at hm
    | some p =>
     obtain ⟨r0,i⟩:=p
     simp only [Option.toList_some,List.mem_singleton,Prod.mk.injEq] at hm
     obtain ⟨rfl,rfl⟩:=hm
     simp [toCallee])
   refine Calls.mono (hok A.x r hsem w _ (args.map a.eval) hlegit (by simpa using hrep)) ?_
   rintro e w' ⟨cs,L',rfl,hleft,hres,hmr⟩
   dsimp only
   rw [hdst]
   exact hK _ _ _ (hinv w' cs L' hleft hres (by simpa using hmr))
  rcases hmu0:A.mu with _ | ⟨⟨r0,i⟩,_ | ⟨p2,rest⟩⟩
  ·
   rw [hmu0] at h
   obtain ⟨r,hsem,h⟩:=h
   dsimp only at h
   split at h
   ·rename_i v hv
    obtain ⟨rfl,_⟩:=h
    refine fin none (by simpa using hmu0) (by simp) r hsem (fun w' cs L' hleft hres hmr => ?_)
    have hnm:∀ (j:Nat) (t:Ty) (m:Mode),F.ps[j]? = some (t,m)→m.back=true→False:=by
     intro j t m hj hm
     obtain ⟨n,rfl⟩:=argsM_mode h1 hj hm
     obtain ⟨r',hr'⟩:=hmall j t n hj
     rw [hmu0] at hr'
     simp at hr'
    have hTd:(setAll T [(d,v)]).getD d .dead=v:=by
     show (T.set d v).getD d .dead=v
     rw [getD_set,if_pos ⟨rfl,by rw [hI.len]; exact hd⟩]
    have hTo:∀ s,s≠d→(setAll T [(d,v)]).getD s .dead=T.getD s .dead:=by
     intro s hs
     show (T.set d v).getD s .dead=_
     rw [getD_set,if_neg (fun e=>hs e.1)]
    obtain ⟨k1,k2,k3⟩:=resV_rep (T':=setAll T [(d,v)]) (d:=d) hI hleft rfl (fun r hr=>by rw [hTo r (hlsd r hr)]; exact hls r hr) hres hv
    exact Inv.called hI hd hid rfl (fun r i h=>by cases h) hleft (by rw [length_setAll,hI.len]) (fun j t n hj hm=>(hnm j t n hj hm).elim) (fun r i h=>by cases h) (fun s r i h=>by cases h) (fun s hs _=>hTo s hs) hTd k1 k2 (fun r i h=>by cases h) k3
   ·exact h.elim
  ·
   rw [hmu0] at h
   dsimp only at h
   cases hc:(A.ls.contains r0 || !decide (r0 < N)) with
   | true=>rw [hc] at h; exact h.elim
   | false =>
    rw [hc] at h
    obtain ⟨log',rfl,h⟩:=h
    obtain ⟨r,hsem,h⟩:=h
    dsimp only at h
    simp only [Bool.or_eq_false_iff,Bool.not_eq_false',decide_eq_true_eq] at hc
    obtain ⟨hc1,hrN⟩:=hc
    have hrls:r0 ∉ A.ls:=fun hm=>by rw [List.contains_iff_mem.2 hm] at hc1; cases hc1
    split at h
    ·rename_i v u' hv hu'
     obtain ⟨Ts,l3,l4,rfl,hall,hdok,hups⟩:=M.runs_bind h
     obtain ⟨rfl,_⟩:=hups
     have hTs:Ts=T:=by rw [allM_runs hall (by rw [Nat.zero_add,hI.len])]; rfl
     subst hTs
     obtain ⟨_,t,n,y,h2,h3,h4,h5,h6⟩:=hmu r0 i (by rw [hmu0]; simp)
     simp only [Nat.sub_zero] at h2 h6
     have hil:i < F.ps.length:=(List.getElem?_eq_some_iff.1 h2).1
     have hr0d:r0≠d:=idle_ne hid (by rw [h5]; simp only [V.owns,Bool.and_eq_true,bne_iff_ne]; omega)
     have hpl:∀ (j:Nat) (t:Ty) (n:Nat),F.ps[j]? = some (t,Mode.mut n)→j=i:=by
      intro j t n hj
      obtain ⟨r',hr'⟩:=hmall j t n hj
      rw [hmu0] at hr'
      simp only [List.mem_singleton,Prod.mk.injEq] at hr'
      omega
     refine fin (some (r0,i)) (by simpa using hmu0) (fun r' i' h=>by injection h with h; injection h with h _; subst h; exact hrls) r hsem (fun w' cs L' hleft hres hmr => ?_)
     have hT':setAll Ts (((r0,u')::depsU r0 (Ts.getD r0 .dead) (some r0) 0 Ts)++[(d,v)])=(setAll Ts ((r0,u')::depsU r0 (Ts.getD r0 .dead) (some r0) 0 Ts)).set d v:=by
      rw [setAll_append]; rfl
     have hlen1:(setAll Ts ((r0,u')::depsU r0 (Ts.getD r0 .dead) (some r0) 0 Ts)).length=N:=by rw [length_setAll,hI.len]
     have hTd:(setAll Ts (((r0,u')::depsU r0 (Ts.getD r0 .dead) (some r0) 0 Ts)++[(d,v)])).getD d .dead=v:=by
      rw [hT',getD_set,if_pos ⟨rfl,by rw [hlen1]; exact hd⟩]
     have hTo:∀ s,s≠d→(setAll Ts (((r0,u')::depsU r0 (Ts.getD r0 .dead) (some r0) 0 Ts)++[(d,v)])).getD s .dead=(setAll Ts ((r0,u')::depsU r0 (Ts.getD r0 .dead) (some r0) 0 Ts)).getD s .dead:=by
      intro s hs
      rw [hT',getD_set,if_neg (fun e=>hs e.1)]
     have hkeys:∀ s v,(s,v)∈((r0,u')::depsU r0 (Ts.getD r0 .dead) (some r0) 0 Ts)→(s=r0∧v=u')∨(v = .dead∧s≠r0∧((Ts.getD s .dead).on r0 && s != r0 && some r0 != some s && !keepable (Ts.getD r0 .dead) (some r0) (Ts.getD s .dead))=true):=by
      intro s v hm
      rcases List.mem_cons.1 hm with hm | hm
      ·injection hm with h1 h2
       exact .inl ⟨h1,h2⟩
      ·obtain ⟨h1,_,_,h2⟩:=(depsU_mem s v).1 hm
       simp only [Nat.sub_zero] at h2
       refine .inr ⟨h1,?_,h2⟩
       rintro rfl
       simp at h2
     have hTr:(setAll Ts ((r0,u')::depsU r0 (Ts.getD r0 .dead) (some r0) 0 Ts)).getD r0 .dead=u':=by
      refine getD_setAll_mem (by rw [hI.len]; exact hrN) (by simp) (fun v hm => ?_)
      rcases hkeys r0 v hm with ⟨_,h⟩ | ⟨_,h,_⟩
      ·exact h
      ·exact absurd rfl h
     have hTs2:∀ s,s≠r0→(Ts.getD s .dead).on r0=true→((setAll Ts ((r0,u')::depsU r0 (Ts.getD r0 .dead) (some r0) 0 Ts)).getD s .dead = .dead∧(Ts.getD s .dead).owns=false) ∨
       ((setAll Ts ((r0,u')::depsU r0 (Ts.getD r0 .dead) (some r0) 0 Ts)).getD s .dead=Ts.getD s .dead∧∃ t,Ts.getD s .dead = .view r0 [] t):=by
      intro s hs hon
      have hslt:s < N:=by
       rcases Nat.lt_or_ge s N with h | h
       ·exact h
       ·rw [getD_out (by rw [hI.len]; exact h)] at hon; simp [V.on,V.root] at hon
      cases hk:keepable (Ts.getD r0 .dead) (some r0) (Ts.getD s .dead) with
      | true =>
       refine .inr ⟨getD_setAll _ _ _ (fun hm => ?_),?_⟩
       ·obtain ⟨u,hu,he⟩:=List.mem_map.1 hm
        rcases hkeys s u.2 (by rw [← he]; exact hu) with ⟨h,_⟩ | ⟨_,_,h⟩
        ·exact hs h
        ·rw [hk] at h; simp at h
       ·generalize hvv:Ts.getD s .dead=vv at hk hon
        cases vv with
        | view r2 p2 t2 =>
         have:r2=r0:=by simpa [V.on,V.root] using hon
         subst this
         cases p2 with
         | nil=>exact ⟨t2,rfl⟩
         | cons _ _=>simp [keepable] at hk
        | ptr _ _ _ =>
         rw [h5] at hk
         simp [keepable,V.isD] at hk
        | dead=>simp [keepable] at hk
        | tup _=>simp [keepable] at hk
        | d _ _ _ _=>simp [keepable] at hk
        | box _ _ _ _=>simp [keepable] at hk
        | rp _ _ _=>simp [keepable] at hk
        | hole _ _=>simp [keepable] at hk
        | part _ _ _ _ _=>simp [keepable] at hk
        | odd _ _ _ _=>simp [keepable] at hk
        | same _ _=>simp [keepable] at hk
      | false =>
       have hc:((Ts.getD s .dead).on r0 && s != r0 && some r0 != some s && !keepable (Ts.getD r0 .dead) (some r0) (Ts.getD s .dead))=true:=by
        rw [hon,hk]
        simp only [Bool.and_eq_true,bne_iff_ne,Bool.not_false,and_true,true_and]
        exact ⟨hs,fun e=>hs (Option.some.inj e).symm⟩
       refine .inl ⟨getD_setAll_mem (by rw [hI.len]; exact hslt) ?_ (fun v hm => ?_),?_⟩
       ·rw [List.mem_map]
        exact ⟨(s,.dead),List.mem_cons_of_mem _ ((depsU_mem s .dead).2 ⟨rfl,Nat.zero_le _,by rw [Nat.zero_add,hI.len]; exact hslt,by simpa using hc⟩),rfl⟩
       ·rcases hkeys s v hm with ⟨h,_⟩ | ⟨h,_⟩
        ·exact absurd h hs
        ·exact h
       ·exact depsOk_spec hdok s (by rw [hI.len]; exact hslt) (by simpa using hc)
     have hTn:∀ s,s≠r0→(Ts.getD s .dead).on r0=false→(setAll Ts ((r0,u')::depsU r0 (Ts.getD r0 .dead) (some r0) 0 Ts)).getD s .dead=Ts.getD s .dead:=by
      intro s hs hon
      refine getD_setAll _ _ _ (fun hm => ?_)
      obtain ⟨u,hu,he⟩:=List.mem_map.1 hm
      rcases hkeys s u.2 (by rw [← he]; exact hu) with ⟨h,_⟩ | ⟨_,_,h⟩
      ·exact hs h
      ·rw [hon] at h; simp at h
     have hlsame:∀ r∈A.ls,((setAll Ts (((r0,u')::depsU r0 (Ts.getD r0 .dead) (some r0) 0 Ts)++[(d,v)])).getD r .dead).deep=true:=by
      intro r hr
      have hrr:r≠r0:=fun e=>hrls (e▸hr)
      have ho:=V.owns_of_deep (hls r hr)
      rw [hTo r (hlsd r hr)]
      cases hon:(Ts.getD r .dead).on r0 with
      | false=>rw [hTn r hrr hon]; exact hls r hr
      | true =>
       rcases hTs2 r hrr hon with ⟨_,h⟩ | ⟨h,_⟩
       ·rw [h] at ho; cases ho
       ·rw [h]; exact hls r hr
     obtain ⟨j,t',n',y',c',cells,m1,m2,m3,m4,m5⟩:=mutV_rep hmr hu'
     have hji:=hpl j t' n' m1
     subst hji
     rw [h2] at m1
     injection m1 with m1
     injection m1 with m1 m1'
     injection m1' with m1'
     subst m1 m1'
     rw [h6] at m3
     injection m3 with m3
     subst m3
     rw [Nat.zero_add] at m5
     obtain ⟨k1,k2,k3⟩:=resV_rep (T':=setAll Ts (((r0,u')::depsU r0 (Ts.getD r0 .dead) (some r0) 0 Ts)++[(d,v)])) (d:=d) hI hleft rfl hlsame hres hv
     refine Inv.called hI hd hid rfl (fun r i h=>by injection h with h; injection h with _ h; subst h; exact hil) hleft (by rw [length_setAll,hI.len]) (fun j' t n hj hm=>by obtain ⟨n,rfl⟩:=argsM_mode h1 hj hm; rw [hpl j' t n hj]; rfl) ?_ ?_ ?_ hTd k1 k2 (fun r i h=>by injection h with h; injection h with h _; subst h; exact hrls) k3
     ·intro r i h
      injection h with h
      injection h with h h'
      subst h h'
      exact ⟨t,n,y,y',cells,h5,h3,h4,by rw [hTo r0 hr0d,hTr,m2],m4,m5⟩
     ·intro s r i h hsd hsr hon
      injection h with h
      injection h with h h'
      subst h h'
      rw [hTo s hsd]
      exact hTs2 s hsr hon
     ·intro s hsd hs
      obtain ⟨e1,e2⟩:=hs r0 j rfl
      rw [hTo s hsd]
      exact hTn s e1 e2
    ·exact h.elim
  ·rw [hmu0] at h
   exact h.elim
end
end Go.Proofs.YtkanidldnnfloaaGreat.P.Am
set_option linter.unusedVariables false
set_option linter.unusedSimpArgs false
namespace Go.Proofs.YtkanidldnnfloaaGreat.P.Am
structure Bas (t:Ty) where
 xs:List t.den
 n:Nat
 s:Option Nat
def baseM (vs:List Nat) (e:TypeId) (t:Ty) (x:Operand):M (Bas t) :=
 match x with
 | .tmp s => .get s fun v=>match v with
  | .d none (n+1) t' y=>if h:t' = .slice e t then (if vs.contains s=true then .fail else .ret ⟨(h▸y:(Ty.slice e t).den),n,some s⟩) else .fail
  | _ => .fail
 | .const (.slice none 0 0) => .ret ⟨[],t.depth,none⟩
 | _ => .fail
structure Srcs (t:Ty) where
 ys:List t.den
 n:Option Nat
 s:Option Nat
def srcM (vs:List Nat) (e:TypeId) (t:Ty) (x:Operand):M (Srcs t) :=
 match x with
 | .tmp s => .get s fun v =>
   if t.depth=0 then (readD s v).bind fun z=>if h:z.2.1 = .slice e t then .ret ⟨(h▸z.2.2:(Ty.slice e t).den),none,none⟩ else .fail
   else match v with
   | .d none 0 t' y=>if h:t' = .slice e t then .ret ⟨(h▸y:(Ty.slice e t).den),some 0,none⟩ else .fail
   | .d none (n+1) t' y=>if h:t' = .slice e t then (if vs.contains s=true then .fail else .ret ⟨(h▸y:(Ty.slice e t).den),some n,some s⟩) else .fail
   | _ => .fail
 | .const (.slice none 0 0) => .ret ⟨[],none,none⟩
 | _ => .fail
def appDep (b:Nat):Option Nat→Nat
 | none=>b
 | some k=>min b k
def appUps (C:Ctx) (vs:List Nat) (d:Nat) (X X2:TypeId) (s x:Operand):M (List (Nat×V)) :=
 match C.ty X with
 | some (.slice e t)=>match C.ty X2 with
  | some (.slice _ _)=>(baseM vs e t s).bind fun b=>(srcM vs e t x).bind fun c =>
    if t.sz≠0∧C.bytes e≠0∧(c.s.isNone || c.s != b.s)=true then
     .chk (decide ((b.xs.length+c.ys.length)*C.bytes e≤140737488355328))
      (.ret ((b.s.toList++c.s.toList).map (fun s=>(s,V.dead))++[(d,.d none (appDep b.n c.n+1) (.slice e t) (b.xs++c.ys))]))
    else .fail
  | _ => .fail
 | _ => .fail
def appF (d so:Nat) (sx:Option Nat) (kept:Bool) (b1 b2 m:Nat):Nat→List Nat→Lab:=fun s z =>
 if s=so then match z with
  | [y]=>if y=0∧kept=true then .own d [0] else .other
  | z0::y::rest=>if z0=0∧y < b1 then (if rest.length < m then .own d (0::y::rest) else .stable) else .other
  | [] => .other
 else if sx=some s then match z with
  | z0::y::rest=>if z0=0∧y < b2 then (if rest.length < m then .own d (0::(b1+y)::rest) else .stable) else .other
  | _ => .other
 else if s=d then .other else .own s z
theorem appF_key {d so:Nat} {sx:Option Nat} {kept:Bool} {b1 b2 m s:Nat} {z:List Nat} {s':Nat} {z':List Nat} (h:appF d so sx kept b1 b2 m s z = .own s' z') :
  (s=so∧z=[0]∧kept=true∧s'=d∧z'=[0])∨(s=so∧∃ y rest,z=0::y::rest∧y < b1∧s'=d∧z'=0::y::rest) ∨
  (s≠so∧sx=some s∧∃ y rest,z=0::y::rest∧y < b2∧s'=d∧z'=0::(b1+y)::rest)∨(s≠so∧sx≠some s∧s≠d∧s'=s∧z'=z):=by
 unfold appF at h
 split at h
 ·rename_i hs
  split at h
  ·split at h
   ·rename_i hc
    obtain ⟨rfl,hk⟩:=hc
    injection h with h1 h2
    exact .inl ⟨hs,rfl,hk,h1.symm,h2.symm⟩
   ·cases h
  ·split at h
   ·rename_i hc
    obtain ⟨rfl,hy⟩:=hc
    split at h
    ·injection h with h1 h2
     exact .inr (.inl ⟨hs,_,_,rfl,hy,h1.symm,h2.symm⟩)
    ·cases h
   ·cases h
  ·cases h
 ·rename_i hs
  split at h
  ·rename_i hx
   split at h
   ·split at h
    ·rename_i hc
     obtain ⟨rfl,hy⟩:=hc
     split at h
     ·injection h with h1 h2
      exact .inr (.inr (.inl ⟨hs,hx,_,_,rfl,hy,h1.symm,h2.symm⟩))
     ·cases h
    ·cases h
   ·cases h
  ·rename_i hx
   split at h
   ·cases h
   ·rename_i hd
    injection h with h1 h2
    exact .inr (.inr (.inr ⟨hs,hx,hd,h1.symm,h2.symm⟩))
theorem appF_fun [Glob] {d so:Nat} {sx:Option Nat} {kept:Bool} {b1 b2 m:Nat}:Fun (appF d so sx kept b1 b2 m) (fun s=>s=d∨s=so∨sx=some s):=by
 refine ⟨fun s z hX => ?_,fun s z s' z' hX h => ?_,fun s z s2 z2 s' z' h1 h2 => ?_,fun s z => ?_⟩
 ·have h1:=not_or.1 hX
  have h2:=not_or.1 h1.2
  simp [appF,h1.1,h2.1,h2.2]
 ·rcases appF_key h with ⟨_,_,_,rfl,_⟩ | ⟨_,_,_,_,_,rfl,_⟩ | ⟨_,_,_,_,_,_,rfl,_⟩ | ⟨h1,h2,h3,rfl,_⟩
  ·exact .inl rfl
  ·exact .inl rfl
  ·exact .inl rfl
  ·exact hX
 ·rcases appF_key h1 with ⟨rfl,rfl,_,rfl,rfl⟩ | ⟨rfl,y,rest,rfl,hy,rfl,rfl⟩ | ⟨hs,hx,y,rest,rfl,hy,rfl,rfl⟩ | ⟨hs,hx,hd,rfl,rfl⟩
  ·rcases appF_key h2 with ⟨rfl,rfl,_,_,_⟩ | ⟨_,_,_,_,_,_,h⟩ | ⟨_,_,_,_,_,_,_,h⟩ | ⟨_,_,hd,h,_⟩
   ·exact ⟨rfl,rfl⟩
   ·simp at h
   ·simp at h
   ·exact absurd h.symm hd
  ·rcases appF_key h2 with ⟨_,_,_,_,h⟩ | ⟨rfl,y',rest',rfl,_,_,h⟩ | ⟨_,_,_,_,_,_,_,h⟩ | ⟨_,_,hd,h,_⟩
   ·simp at h
   ·simp only [List.cons.injEq,true_and] at h
    obtain ⟨rfl,rfl⟩:=h
    exact ⟨rfl,rfl⟩
   ·simp only [List.cons.injEq,true_and] at h
    omega
   ·exact absurd h.symm hd
  ·rcases appF_key h2 with ⟨_,_,_,_,h⟩ | ⟨_,_,_,_,_,_,h⟩ | ⟨_,hx2,y',rest',rfl,_,_,h⟩ | ⟨_,_,hd,h,_⟩
   ·simp at h
   ·simp only [List.cons.injEq,true_and] at h
    omega
   ·simp only [List.cons.injEq,true_and] at h
    obtain ⟨h,rfl⟩:=h
    rw [hx] at hx2
    cases hx2
    exact ⟨rfl,by rw [show y=y' by omega]⟩
   ·exact absurd h.symm hd
  ·rcases appF_key h2 with ⟨_,_,_,h,_⟩ | ⟨_,_,_,_,_,h,_⟩ | ⟨_,_,_,_,_,_,h,_⟩ | ⟨_,_,_,h3,h4⟩
   ·exact absurd h hd
   ·exact absurd h hd
   ·exact absurd h hd
   ·exact ⟨h3,h4⟩
 ·unfold appF
  repeat' split
  all_goals simp
structure AppSrc (P:Program) (sz:Nat) (X:TypeId) (v:Value) (n:Nat) (news:List Value) (w:World):Prop where
 und:(∃ e,P.underlying X=some (.slice e))∨P.underlying X=some .string
 count:∀ w1:World,(Builtin.lenOf v).run P w1 = .ok n w1
 now:(Builtin.firstCells sz n v).run P w = .ok news.toArray w
 next:(Builtin.firstCells sz n v).run P w.drew = .ok news.toArray w.drew
 total:news.length=n*sz
 single:∀ u∈news,u.oneCell'=true
section
variable {P:Program}
theorem AppSrc.row {w:World} {sz:Nat} {X e:TypeId} (hX:P.underlying X=some (.slice e)) (A:Addr) (n c:Nat) {news:List Value} (h1:news.length=n*sz) (h2:∀ i u,news[i]? = some u→w.cell? (A.add i)=some u) (h3:∀ u∈news,u.oneCell'=true) :
  AppSrc P sz X (.slice (some A) n c) n news w where
 und := .inl ⟨e,hX⟩
 count:=fun _=>rfl
 now:=run_firstCells_some w sz n A n c news h1 h2
 next:=run_firstCells_some w.drew sz n A n c news h1 (by simpa using h2)
 total:=h1
 single:=h3
theorem AppSrc.none {w:World} {sz:Nat} {X e:TypeId} (hX:P.underlying X=some (.slice e)) (c:Nat):AppSrc P sz X (.slice none 0 c) 0 [] w where
 und := .inl ⟨e,hX⟩
 count:=fun _=>rfl
 now:=run_firstCells_none w sz 0 0 c
 next:=run_firstCells_none w.drew sz 0 0 c
 total:=by simp
 single:=by simp
theorem append_room {w:World} {X X2 ty e:TypeId} {i:TypeInfo} (hX:P.underlying X=some (.slice e)) (hi:P.info? e=some i) {g len cap n:Nat} {v:Value} {news:List Value} (h:AppSrc P i.size X2 v n news w) (hr:len+n≤cap)
  (h1:∀ k,k < news.length→(w.cell? ⟨g,len*i.size+k,none⟩).isSome=true) (h2:∀ k,k < news.length→w.frozen? ⟨g,len*i.size+k,none⟩=false) :
  (Builtin.append_ #[X,X2] ty #[.slice (some ⟨g,0,none⟩) len cap,v]).run P w = .ok (.slice (some ⟨g,0,none⟩) (len+n) cap) (w.setCells g (len*i.size) news):=by
 have hst:=run_storeCells_cells (P:=P) g (len*i.size) news 0 w (by simpa using h1) (by simpa using h2) h.single
 rw [Nat.add_zero] at hst
 rcases h.und with ⟨e',hk⟩ | hk <;> simp [Builtin.append_,run_underlying hX,run_underlying hk,sizeOf,typeInfo,hi,h.count,hr,h.now,Addr.add_lit,hst]
theorem append_none {w:World} {X X2 ty e:TypeId} {i:TypeInfo} (hX:P.underlying X=some (.slice e)) (hi:P.info? e=some i) {v:Value} (h:AppSrc P i.size X2 v 0 [] w) :
  (Builtin.append_ #[X,X2] ty #[.slice none 0 0,v]).run P w = .ok (.slice none 0 0) w:=by
 rcases h.und with ⟨e',hk⟩ | hk <;> simp [Builtin.append_,run_underlying hX,run_underlying hk,sizeOf,typeInfo,hi,h.count,h.now,storeCells]
theorem append_grow {w:World} {X X2 ty e:TypeId} {i:TypeInfo} {z:Value} (hX:P.underlying X=some (.slice e)) (hi:P.info? e=some i) (hz:i.zero=some z) {A:Option Addr} {len cap n:Nat} {olds news:List Value} {v:Value}
  (h0:(Builtin.firstCells i.size len (.slice A len cap)).run P w.drew = .ok olds.toArray w.drew) (h:AppSrc P i.size X2 v n news w) (hg:cap < len+n) (hm:len+n≤maxLen) (hb:(len+n)*i.bytes≤140737488355328) :
  (Builtin.append_ #[X,X2] ty #[.slice A len cap,v]).run P w = .ok (.slice (some ⟨w.heap.size,0,none⟩) (len+n) (grownCap w (len+n) cap e))
   (w.drew.alloc (.cells ((olds++news).toArray++Builtin.zeroCells z.cells (grownCap w (len+n) cap e - (len+n))) e)):=by
 have hf:=growslice_fits hg hb
 have e1:¬ (len+n≤cap):=by omega
 have e2:¬ (9223372036854775807 < ((len:Int)+(n:Int))):=by simp only [maxLen] at hm; omega
 have e3:¬ (281474976710656 < Builtin.nextslicecap (len+n) cap*i.bytes):=by omega
 rcases h.und with ⟨e',hk⟩ | hk <;>
  (simp [Builtin.append_,run_underlying hX,run_underlying hk,sizeOf,typeInfo,zeroValue,hi,hz,h.count,e1,e2,e3,Question.forced,h.next,h0,newRow,grownCap]
   congr 2
   apply Array.ext'
   simp [List.append_assoc])
end
section
variable {P:Program} {C:Ctx} {w w' w0:World} {S S':Nat→Prop} {L L' L0:Nat→Lab} {s N:Nat} {vs:List Nat} {T T':List V} {tm tm':Array Value} {a:Act}
theorem win {l l':List Value} {i j sz:Nat} (h:∀ k,k < sz→l[i+k]? = l'[j+k]?):(l.drop i).take sz=(l'.drop j).take sz:=by
 apply List.ext_getElem?
 intro k
 rw [List.getElem?_take,List.getElem?_take]
 split
 ·rw [List.getElem?_drop,List.getElem?_drop]
  exact h k (by assumption)
 ·rfl
theorem win_at {l:List Value} {i k sz:Nat} (h:k < sz):((l.drop i).take sz)[k]? = l[i+k]? := by
 rw [List.getElem?_take,if_pos h,List.getElem?_drop]
theorem gatherCells [Glob] (sz:Nat):(n:Nat)→(f:∀ j,j < n→List Value)→(∀ j h,(f j h).length=sz)→∃ news:List Value,news.length=n*sz∧∀ j h,(news.drop (j*sz)).take sz=f j h
 | 0,_,_=>⟨[],by simp,fun j h=>absurd h (by omega)⟩
 | n+1,f,hl=>by
  obtain ⟨news,h1,h2⟩:=gatherCells sz n (fun j h=>f j (by omega)) (fun j h=>hl j _)
  refine ⟨news++f n (by omega),by rw [List.length_append,h1,hl,Nat.add_mul,Nat.one_mul],fun j h => ?_⟩
  by_cases hj:j < n
  ·rw [← h2 j hj]
   refine win fun k hk => ?_
   have:(j+1)*sz≤n*sz:=Nat.mul_le_mul_right _ (by omega)
   rw [Nat.add_mul,Nat.one_mul] at this
   rw [List.getElem?_append_left (by omega)]
  ·obtain rfl:j=n:=by omega
   rw [← h1,List.drop_left,List.take_of_length_le (by rw [hl]; exact Nat.le_refl _)]
theorem cells_all [Glob] {sz n:Nat} {news:List Value} {p:Nat→Value→Prop} (hl:news.length=n*sz) (h:∀ j,j < n→∀ k u,((news.drop (j*sz)).take sz)[k]? = some u→p (j*sz+k) u):∀ i u,news[i]? = some u→p i u:=by
 intro i u hu
 have hi:i < n*sz:=by
  rw [← hl]
  exact (List.getElem?_eq_some_iff.1 hu).1
 have hsz:0 < sz:=by
  rcases Nat.eq_zero_or_pos sz with h0 | h0
  ·subst h0; simp at hi
  ·exact h0
 have h1:i / sz < n:=(Nat.div_lt_iff_lt_mul hsz).2 hi
 have h2:i / sz*sz+i % sz=i:=by rw [Nat.mul_comm]; exact Nat.div_add_mod i sz
 have:=h (i / sz) h1 (i % sz) u (by rw [win_at (Nat.mod_lt _ hsz),h2]; exact hu)
 rwa [h2] at this
theorem setCells_drawn {g:Nat}:(vs:List Value)→(o:Nat)→(w:World)→(w.setCells g o vs).drawn=w.drawn
 | [],_,_=>rfl
 | v::vs,o,w=>by rw [World.setCells,setCells_drawn vs]; rfl
theorem setCells_spec {g:Nat}:(vs:List Value)→(o:Nat)→(w:World)→(cur:Array Value)→(e:TypeId)→w.heap[g]? = some (.cells cur e (0,0))→o+vs.length≤cur.size →
  (w.setCells g o vs).os=w.os∧(w.setCells g o vs).tape=w.tape∧(w.setCells g o vs).output=w.output∧(w.setCells g o vs).heap.size=w.heap.size∧(∀ k,k≠g→(w.setCells g o vs).heap[k]? = w.heap[k]?) ∧
  ∃ cur':Array Value,(w.setCells g o vs).heap[g]? = some (.cells cur' e (0,0))∧cur'.size=cur.size∧∀ i,cur'[i]? = if o≤i∧i < o+vs.length then vs[i - o]? else cur[i]?
 | [],o,w,cur,e,h,_=>⟨rfl,rfl,rfl,rfl,fun _ _=>rfl,cur,h,rfl,fun i=>by rw [if_neg (by simp)]⟩
 | v::vs,o,w,cur,e,h,hb=>by
  simp only [List.length_cons] at hb
  have hg:(w.setCell ⟨g,o,none⟩ v).heap[g]? = some (.cells (cur.setIfInBounds o v) e (0,0)):=by
   simp [World.setCell,Array.getElem?_modify,h]
  obtain ⟨h1,h2,h3,h4,h5,cur',h6,h7,h8⟩:=setCells_spec vs (o+1) (w.setCell ⟨g,o,none⟩ v) (cur.setIfInBounds o v) e hg (by simp; omega)
  rw [World.setCells]
  refine ⟨h1,h2,h3,by rw [h4]; simp [World.setCell],fun k hk => ?_,cur',h6,by rw [h7]; simp,fun i => ?_⟩
  ·rw [h5 k hk]
   simp only [World.setCell,Array.getElem?_modify]
   rw [if_neg (Ne.symm hk)]
  ·rw [h8,Array.getElem?_setIfInBounds]
   simp only [List.length_cons]
   by_cases hi:i=o
   ·subst hi
    rw [if_neg (by omega),if_pos rfl,if_pos (by omega),if_pos (by omega)]
    simp
   ·by_cases hi2:o+1≤i∧i < o+1+vs.length
    ·rw [if_pos hi2,if_pos (by omega),show i - o=(i - (o+1))+1 by omega,List.getElem?_cons_succ]
    ·rw [if_neg hi2,if_neg (by omega),if_neg (by omega)]
end
end Go.Proofs.YtkanidldnnfloaaGreat.P.Am
set_option linter.unusedVariables false
set_option linter.unusedSimpArgs false
namespace Go.Proofs.YtkanidldnnfloaaGreat.P.Am
section
variable {P:Program} {C:Ctx} {w w' w0:World} {S S':Nat→Prop} {L L' L0:Nat→Lab} {s N:Nat} {vs:List Nat} {T T':List V} {tm tm':Array Value} {a:Act}
theorem baseM_rep [Glob] (hI:Inv w0 L0 N vs T a w L) {e:TypeId} {t:Ty} {x:Operand} {b:Bas t} {log:List Nat} (h:(baseM vs e t x).Runs T b log) (d:Nat) :
  ∃ so,((b.s=some so∧so ∉ vs∧(T.getD so .dead).owns=true∧(T.getD so .dead).root=none)∨(b.s=none∧so=d))∧Own w L (SL L none) so (b.n+1) (.slice e t) b.xs [] 0 [a.eval x]:=by
 cases x with
 | tmp s =>
  obtain ⟨log',rfl,h⟩:=h
  have hs:=hI.slots s
  dsimp only at h
  generalize hv:T.getD s .dead=v at h hs
  split at h
  ·rename_i n t' y
   split at h
   ·rename_i ht
    subst ht
    split at h
    ·exact h.elim
    ·rename_i hc
     obtain ⟨rfl,_⟩:=h
     obtain ⟨_,cs,hf,ho⟩:=hs
     refine ⟨s,.inl ⟨rfl,by simpa using hc,by rw [hv]; simp [V.owns,Ty.depth],by rw [hv]; rfl⟩,?_⟩
     have hf:cs=[a.tmps.getD s undef]:=hf
     rw [hf] at ho
     exact ho
   ·exact h.elim
  ·exact h.elim
 | const c =>
  dsimp only [baseM] at h
  split at h
  ·cases ‹Operand.const _=_›
  ·rename_i hc
   cases hc
   obtain ⟨rfl,_⟩:=h
   exact ⟨d,.inr ⟨rfl,rfl⟩,by simp only [Own]; exact .inl ⟨rfl,trivial⟩⟩
  ·exact h.elim
 | func f=>exact h.elim
 | global g=>exact h.elim
theorem srcM_rep [Glob] (hI:Inv w0 L0 N vs T a w L) {e e':TypeId} {t:Ty} {x:Operand} {c:Srcs t} {log:List Nat} (h:(srcM vs e t x).Runs T c log) {X2:TypeId} (hX2:P.underlying X2=some (.slice e')) :
  ∃ news,AppSrc P t.sz X2 (a.eval x) c.ys.length news w∧(∀ s,c.s=some s→s ∉ vs∧(T.getD s .dead).owns=true∧(T.getD s .dead).root=none) ∧
   ∀ (L':Nat→Lab) (w':World) (d o0 m:Nat),(∀ k,c.n=some k→m≤k)→(∀ k,L k = .stable→L' k = .stable∧w'.heap[k]? = w.heap[k]?) →
    (∀ s k y rest,c.s=some s→y < c.ys.length*t.sz→L k = .own s (0::y::rest)→w'.heap[k]? = w.heap[k]? ∧ (rest.length < m→L' k = .own d (0::(o0+y)::rest))∧(m≤rest.length→L' k = .stable)) →
    ∀ j (h:j < c.ys.length),Own w' L' (SL L' none) d m t (c.ys[j]) [0] (o0+j*t.sz) ((news.drop (j*t.sz)).take t.sz):=by
 have hrd:∀ {S:Nat→Prop} {ys:List t.den} {v:Value},Rd w S (.slice e t) ys [v] →
   ∃ news,AppSrc P t.sz X2 v ys.length news w∧∀ j (h:j < ys.length),Rd w S t (ys[j]) ((news.drop (j*t.sz)).take t.sz):=by
  intro S ys v hr
  simp only [Rd] at hr
  obtain ⟨A,cp,hv,h1,h2,h3⟩:=hr
  have hv:v=_:=(List.cons.inj hv).1
  subst hv
  by_cases hy:ys=[]
  ·subst hy
   refine ⟨[],?_,fun j h=>absurd h (by simp)⟩
   cases A with
   | none=>exact AppSrc.none hX2 cp
   | some A=>exact AppSrc.row hX2 A 0 cp (by simp) (fun j u h=>by simp at h) (by simp)
  ·obtain ⟨g,o,rfl,hS,h4⟩:=h3 hy
   obtain ⟨news,n1,n2⟩:=gatherCells t.sz ys.length (fun j h=>(h4 j h).choose) (fun j h=>Rd.len (h4 j h).choose_spec.1)
   refine ⟨news,AppSrc.row hX2 ⟨g,o,none⟩ ys.length cp n1 (fun j u hu => ?_) (fun u hu => ?_),fun j h=>by rw [n2 j h]; exact (h4 j h).choose_spec.1⟩
   ·rw [Addr.add_lit]
    exact cells_all (p:=fun i u=>w.cell? ⟨g,o+i,none⟩=some u) n1 (fun j hj k u hk=>by rw [n2 j hj] at hk; exact (h4 j hj).choose_spec.2 k u hk) j u hu
   ·obtain ⟨i,hi⟩:=List.mem_iff_getElem?.1 hu
    refine cells_all (p:=fun i u=>u.oneCell'=true) n1 (fun j hj k u hk => ?_) i u hi
    rw [n2 j hj] at hk
    exact Rd.one (h4 j hj).choose_spec.1 u (List.mem_of_getElem? hk)
 cases x with
 | tmp s =>
  obtain ⟨log',rfl,h⟩:=h
  have hs:=hI.slots s
  dsimp only at h
  split at h
  ·rename_i hd
   obtain ⟨⟨l,t',y⟩,l1,l2,rfl,h1,h2⟩:=M.runs_bind h
   dsimp only at h2
   split at h2
   ·rename_i ht
    subst ht
    obtain ⟨rfl,_⟩:=h2
    obtain ⟨cells,hf,hr,hdp⟩:=readD_rd hI h1 hs (fun _=>rfl)
    have hf:cells=[a.tmps.getD s undef]:=hf
    subst hf
    obtain ⟨news,k1,k2⟩:=hrd hr
    refine ⟨news,k1,by simp,fun L' w' d o0 m _ _ _ j hj => ?_⟩
    have:=k2 j hj
    have h0:=Own.of_rd (L:=L) (s:=0) (q:=[]) (o:=0) this
    exact flatAny hd h0
   ·exact h2.elim
  ·generalize hv:T.getD s .dead=v at h hs
   split at h
   ·rename_i t' y
    split at h
    ·rename_i ht
     subst ht
     obtain ⟨rfl,_⟩:=h
     obtain ⟨_,cs,hf,ho⟩:=hs
     have hf:cs=[a.tmps.getD s undef]:=hf
     subst hf
     obtain ⟨news,k1,k2⟩:=hrd (Own.rd0 ho)
     refine ⟨news,k1,by simp,fun L' w' d o0 m hm hst _ j hj => ?_⟩
     obtain rfl:m=0:=by have:=hm 0 rfl; omega
     refine Own.of_rd (Rd.move (fun k hk => ?_) (k2 j hj))
     rcases hk with hk | ⟨_,_,hk,_⟩
     ·exact ⟨.inl (hst k hk).1,(hst k hk).2⟩
     ·cases hk
    ·exact h.elim
   ·rename_i n t' y
    split at h
    ·rename_i ht
     subst ht
     split at h
     ·exact h.elim
     ·rename_i hc
      obtain ⟨rfl,_⟩:=h
      obtain ⟨_,cs,hf,ho⟩:=hs
      have hf:cs=[a.tmps.getD s undef]:=hf
      subst hf
      have hprop:s ∉ vs∧(T.getD s .dead).owns=true∧(T.getD s .dead).root=none:=⟨by simpa using hc,by rw [hv]; simp [V.owns,Ty.depth],by rw [hv]; rfl⟩
      simp only [Own] at ho
      rcases ho with ⟨hnil,rfl⟩ | ⟨g,cap,cur,hcs,hL,hg,h5,h6,h7,h8⟩
      ·have hnil:a.tmps.getD s undef=_:=(List.cons.inj hnil).1
       refine ⟨[],?_,fun s' hs'=>by cases hs'; exact hprop,fun L' w' d o0 m _ _ _ j hj=>absurd hj (by simp)⟩
       show AppSrc P t.sz X2 (a.tmps.getD s undef) 0 [] w
       rw [hnil]
       exact AppSrc.none hX2 0
      ·have hcs:a.tmps.getD s undef=_:=(List.cons.inj hcs).1
       have hlen:(List.length y)*t.sz≤cur.size:=by rw [h7]; exact Nat.mul_le_mul_right _ h5
       refine ⟨cur.toList.take (y.length*t.sz),?_,fun s' hs'=>by cases hs'; exact hprop,fun L' w' d o0 m hm hst hlab j hj => ?_⟩
       ·show AppSrc P t.sz X2 (a.tmps.getD s undef) y.length _ w
        rw [hcs]
        have hl:(cur.toList.take (y.length*t.sz)).length=y.length*t.sz:=by rw [List.length_take]; simp; omega
        refine AppSrc.row hX2 ⟨g,0,none⟩ _ cap hl (fun j u hu => ?_) (fun u hu => ?_)
        ·rw [List.getElem?_take] at hu
         split at hu
         ·rw [show (⟨g,0,none⟩:Addr).add j=⟨g,j,none⟩ by rw [Addr.add_lit,Nat.zero_add]]
          simp only [World.cell?,hg]
          simpa using hu
         ·cases hu
        ·obtain ⟨i,hi⟩:=List.mem_iff_getElem?.1 hu
         refine cells_all (p:=fun i u=>u.oneCell'=true) hl (fun j hj k u hk => ?_) i u hi
         have hw:((cur.toList.take (y.length*t.sz)).drop (j*t.sz)).take t.sz=(cur.toList.drop (j*t.sz)).take t.sz:=win fun k hk=>by
          have:(j+1)*t.sz≤y.length*t.sz:=Nat.mul_le_mul_right _ (by omega)
          rw [Nat.add_mul,Nat.one_mul] at this
          rw [List.getElem?_take,if_pos (by omega)]
         rw [hw] at hk
         exact Own.one (h8 j hj) u (List.mem_of_getElem? hk)
       ·have hw:((cur.toList.take (y.length*t.sz)).drop (j*t.sz)).take t.sz=(cur.toList.drop (j*t.sz)).take t.sz:=win fun k hk=>by
         have:(j+1)*t.sz≤y.length*t.sz:=Nat.mul_le_mul_right _ (by have:j < List.length y:=hj; omega)
         rw [Nat.add_mul,Nat.one_mul] at this
         rw [List.getElem?_take,if_pos (by omega)]
        rw [hw]
        refine Own.moveLow (hm n rfl) (fun k hk => ?_) (fun k i rest hi hk => ?_) (h8 j hj)
        ·rcases hk with hk | ⟨_,_,hk,_⟩
         ·exact ⟨.inl (hst k hk).1,(hst k hk).2⟩
         ·cases hk
        ·have hk':L k = .own s (0::(j*t.sz+i)::rest):=by simpa using hk
         have hlt:j*t.sz+i < y.length*t.sz:=by
          have:(j+1)*t.sz≤y.length*t.sz:=Nat.mul_le_mul_right _ (by have:j < List.length y:=hj; omega)
          rw [Nat.add_mul,Nat.one_mul] at this
          omega
         have:=hlab s k (j*t.sz+i) rest rfl hlt hk'
         refine ⟨this.1,fun h => ?_,fun h => .inl (this.2.2 h)⟩
         rw [this.2.1 h]
         simp [Nat.add_assoc]
    ·exact h.elim
   ·exact h.elim
 | const cv =>
  dsimp only [srcM] at h
  split at h
  ·cases ‹Operand.const _=_›
  ·rename_i hc
   cases hc
   obtain ⟨rfl,_⟩:=h
   exact ⟨[],AppSrc.none hX2 0,by simp,fun L' w' d o0 m _ _ _ j hj=>absurd hj (by simp)⟩
  ·exact h.elim
 | func f=>exact h.elim
 | global g=>exact h.elim
 where
 flatAny:{w w':World}→{L L':Nat→Lab}→{S S':Nat→Prop}→{s s' n n':Nat}→{t:Ty}→{x:t.den}→{q q':List Nat}→{o o':Nat}→{cs:List Value}→t.depth=0→Own w L S s n t x q o cs→Own w' L' S' s' n' t x q' o' cs:=fun h1 h2=>Own.flat h1 h2
theorem Inv.app [Glob] (hI:Inv w0 L0 N vs T a w L) {d so:Nat} {sb sx:Option Nat} {kept:Bool} {b1 b2 m:Nat} {nl:Nat→Lab} {v:V} {c:Value} (hd:d < N) (hid:(T.getD d .dead).idle=true)
  (hso:(sb=some so∧so ∉ vs∧(T.getD so .dead).owns=true)∨(sb=none∧so=d)) (hsx:∀ s,sx=some s→s ∉ vs∧(T.getD s .dead).owns=true)
  (hw:Wd w w' L nl (fun s=>s=d∨s=so∨sx=some s)) (hnl:∀ k s q,w.heap.size≤k→nl k = .own s q→s=d∧q=[0]∧k=w.heap.size∧kept=false)
  (hv:v.root=none) (hvo:v.owns=true)
  (hr:∀ T' tm',SRep (newLab (appF d so sx kept b1 b2 m) w L nl) T' tm' d v w' c) :
  Inv w0 L0 N vs (setAll T ((sb.toList++sx.toList).map (fun s=>(s,V.dead))++[(d,v)])) (a.put (some d) c) w' (newLab (appF d so sx kept b1 b2 m) w L nl):=by
 have hno:(T.getD d .dead).owns=false:=V.not_owns hid
 have hdm:d ∉ sb.toList++sx.toList:=fun h=>by
  have:(T.getD d .dead).owns=true:=by
   rcases List.mem_append.1 h with h | h
   ·rcases hso with ⟨rfl,_,ho⟩ | ⟨rfl,_⟩
    ·simp only [Option.toList_some,List.mem_singleton] at h
     rw [h]; exact ho
    ·simp at h
   ·cases sx with
    | none=>simp at h
    | some x =>
     simp only [Option.toList_some,List.mem_singleton] at h
     rw [h]; exact (hsx x rfl).2
  rw [hno] at this
  cases this
 have hX:∀ s,(s=d∨s=so∨sx=some s)↔(s=d∨s∈sb.toList++sx.toList):=by
  intro s
  constructor
  ·rintro (h | h | h)
   ·exact .inl h
   ·rcases hso with ⟨rfl,_⟩ | ⟨_,h2⟩
    ·exact .inr (by simp [h])
    ·exact .inl (h.trans h2)
   ·exact .inr (by simp [h])
  ·rintro (h | h)
   ·exact .inl h
   ·rcases List.mem_append.1 h with h | h
    ·rcases hso with ⟨rfl,_⟩ | ⟨rfl,_⟩
     ·simp only [Option.toList_some,List.mem_singleton] at h
      exact .inr (.inl h)
     ·simp at h
    ·cases sx with
     | none=>simp at h
     | some x =>
      simp only [Option.toList_some,List.mem_singleton] at h
      exact .inr (.inr (by rw [h]))
 have hT:setAll T ((sb.toList++sx.toList).map (fun s=>(s,V.dead))++[(d,v)])=(setAll T ((sb.toList++sx.toList).map fun s=>(s,V.dead))).set d v:=by
  rw [setAll_append]; rfl
 have hlen:(setAll T ((sb.toList++sx.toList).map fun s=>(s,V.dead))).length=N:=by rw [length_setAll,hI.len]
 have hTd:(setAll T ((sb.toList++sx.toList).map (fun s=>(s,V.dead))++[(d,v)])).getD d .dead=v:=by
  rw [hT,getD_set,if_pos ⟨rfl,by rw [hlen]; exact hd⟩]
 have hTs:∀ s,s∈sb.toList++sx.toList→(setAll T ((sb.toList++sx.toList).map (fun s=>(s,V.dead))++[(d,v)])).getD s .dead = .dead:=by
  intro s hs
  rw [hT,getD_set,if_neg (fun e=>hdm (by rw [← e.1]; exact hs))]
  exact getD_deads _ _ _ hs
 refine Inv.updF (X:=fun s=>s=d∨s=so∨sx=some s) hI appF_fun hw ?_ (by simp [Act.put,hI.size]) (by rw [hT,List.length_set,hlen]) hI.dfr ?_ ?_ ?_ ?_ ?_
 ·intro k k' s q hk h h'
  obtain ⟨rfl,rfl,rfl,hkept⟩:=hnl k s q hk h
  unfold newLab at h'
  split at h'
  ·exfalso
   obtain ⟨s0,q0,e0,f0⟩:=relab_own h'
   rcases appF_key f0 with ⟨_,_,hk2,_⟩ | ⟨_,_,_,_,_,_,h8⟩ | ⟨_,_,_,_,_,_,_,h8⟩ | ⟨_,_,hd2,h8,_⟩
   ·rw [hkept] at hk2; cases hk2
   ·simp at h8
   ·simp at h8
   ·exact hd2 h8.symm
  ·exact (hnl k' s _ (by omega) h').2.2.1.symm
 ·intro k s q hs h
  by_cases hsd:s=d
  ·subst hsd; rw [hTd]; exact hvo
  ·exfalso
   unfold newLab at h
   split at h
   ·obtain ⟨s0,q0,e0,f0⟩:=relab_own h
    rcases appF_key f0 with ⟨_,_,_,h7,_⟩ | ⟨_,_,_,_,_,h7,_⟩ | ⟨_,_,_,_,_,_,h7,_⟩ | ⟨h5,h6,_,h7,_⟩
    ·exact hsd h7
    ·exact hsd h7
    ·exact hsd h7
    ·subst h7
     rcases hs with h | h | h
     ·exact hsd h
     ·exact h5 h
     ·exact h6 h
   ·exact hsd (hnl k s q (by omega) h).1
 ·intro s r hs hon hr'
  rcases hr' with rfl | rfl | hx
  ·exact hno
  ·rcases hso with ⟨_,h,_⟩ | ⟨_,rfl⟩
   ·exact absurd (hI.roots s _ hon) h
   ·exact hno
  ·exact absurd (hI.roots s r hon) (hsx r hx).1
 ·intro s hs
  have hs':=not_or.1 (fun h=>hs ((hX s).2 h))
  rw [hT,getD_set,if_neg (fun e=>hs'.1 e.1),getD_setAll _ _ _ (by simpa [List.map_map] using hs'.2)]
  refine ⟨rfl,?_⟩
  show (a.tmps.setIfInBounds d c).getD s undef=_
  rw [getD_setA,if_neg (fun e=>hs'.1 e.1)]
 ·intro s r hs hon
  rcases (hX s).1 hs with rfl | hs
  ·rw [hTd] at hon
   simp [V.on,hv] at hon
  ·rw [hTs s hs] at hon
   simp [V.on,V.root] at hon
 ·intro s hs
  rcases (hX s).1 hs with rfl | hs
  ·rw [hTd]
   show SRep _ _ _ _ _ _ ((a.tmps.setIfInBounds s c).getD s undef)
   rw [getD_setA,if_pos ⟨rfl,by rw [hI.size]; exact hd⟩]
   exact hr _ _
  ·rw [hTs s hs]; trivial
theorem appDep_le {b:Nat} {n:Option Nat}:appDep b n≤b∧∀ k,n=some k→appDep b n≤k:=by
 cases n with
 | none=>exact ⟨Nat.le_refl _,by simp⟩
 | some k=>exact ⟨Nat.min_le_left _ _,fun k' h=>by cases h; exact Nat.min_le_right _ _⟩
end
end Go.Proofs.YtkanidldnnfloaaGreat.P.Am
