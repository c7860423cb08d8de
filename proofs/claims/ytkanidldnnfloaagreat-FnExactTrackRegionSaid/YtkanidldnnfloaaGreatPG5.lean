/- A part of the proof: Am39, Am40, Am41, Am42, Am43, Am44, Am45, Am46, Am47. No conditions. -/
import Derived.Test.YtkanidldnnfloaaGreatPG4
set_option linter.unusedVariables false
set_option linter.unusedSimpArgs false
namespace Go.Proofs.YtkanidldnnfloaaGreat.P.Am
section
variable {P:Program} {C:Ctx} {w w' w0:World} {S S':Nat→Prop} {L L' L0:Nat→Lab} {s N:Nat} {vs:List Nat} {T T':List V} {tm tm':Array Value} {a:Act}
theorem step_append [Glob] (hI:Inv w0 L0 N vs T a w L) (hC:CtxOk P C) {o:Oper} {X X2:TypeId} {sO xO:Operand} {d:Nat} {ups:List (Nat×V)} {log:List Nat}
  (ho:o.op = .call { callee := .builtin .append,args := #[sO,xO],argTypes := #[X,X2] }) (hdst:o.dst=some d) (hd:d < N) (hid:(T.getD d .dead).idle=true)
  (h:(appUps C vs d X X2 sO xO).Runs T ups log):Step P o w0 L0 N vs (setAll T ups) a w:=by
 unfold appUps at h
 split at h
 ·rename_i e t hX
  split at h
  ·rename_i e2 t2 hX2
   obtain ⟨b,l1,l2,rfl,h1,h⟩:=M.runs_bind h
   obtain ⟨c,l3,l4,rfl,h2,h⟩:=M.runs_bind h
   split at h
   ·rename_i hcnd
    obtain ⟨hsz,hby,hss⟩:=hcnd
    obtain ⟨hg,rfl,_⟩:=h
    have hg:=of_decide_eq_true hg
    obtain ⟨hu,he⟩:=(hC X _ hX).und
    obtain ⟨hu2,he2⟩:=(hC X2 _ hX2).und
    obtain ⟨i,z,i1,i2,i3,i4,i5⟩:=(hC e t he).info
    have hone:∀ v∈t.zcells,v.oneCell'=true:=Own.one (Own.zero (w:=w) (L:=L) (S:=fun _=>True) (s:=0) (n:=0) (t:=t) (q:=[]) (o:=0))
    have hcz:=Form.cells i5 hone
    have hzs:z.cells.size=t.sz:=by rw [← Array.length_toList,hcz,Ty.zcells_len]
    obtain ⟨so,hso,hbo⟩:=baseM_rep hI h1 d
    obtain ⟨news,hsrc,hsx,hown⟩:=srcM_rep hI h2 hu2
    have hnl:=hsrc.total
    have hmax:b.xs.length+c.ys.length≤140737488355328:=Nat.le_trans (Nat.le_mul_of_pos_right _ (by omega)) hg
    have hml:b.xs.length+c.ys.length≤maxLen:=by simp only [maxLen]; omega
    have hso':(b.s=some so∧so ∉ vs∧(T.getD so .dead).owns=true)∨(b.s=none∧so=d):=hso.imp (fun h=>⟨h.1,h.2.1,h.2.2.1⟩) id
    have hne:∀ s,c.s=some s→s≠so:=by
     intro s hs
     rcases hso with ⟨hb,_⟩ | ⟨hb,rfl⟩
     ·rintro rfl
      rw [hs,hb] at hss
      simp at hss
     ·exact idle_ne hid (hsx s hs).2.1
    have fin:∀ (kept:Bool) (nl:Nat→Lab) (w':World) (g cap':Nat) (cur':Array Value) (olds:List Value),
      (Builtin.append_ #[X,X2] o.type #[a.eval sO,a.eval xO]).run P w = .ok (.slice (some ⟨g,0,none⟩) (b.xs.length+c.ys.length) cap') w' →
      Wd w w' L nl (fun s=>s=d∨s=so∨c.s=some s)→(∀ k s q,w.heap.size≤k→nl k = .own s q→s=d∧q=[0]∧k=w.heap.size∧kept=false) →
      newLab (appF d so c.s kept (b.xs.length*t.sz) (c.ys.length*t.sz) (appDep b.n c.n)) w L nl g = .own d [0] →
      w'.heap[g]? = some (.cells cur' e (0,0))→b.xs.length+c.ys.length≤cap'→cap'≤maxLen→cur'.size=cap'*t.sz →
      (∀ k,L k ≠ .free→L k ≠ .own so [0]→w'.heap[k]? = w.heap[k]?) →
      (∀ i,i < b.xs.length*t.sz→cur'[i]? = olds[i]?)→(∀ i,i < c.ys.length*t.sz→cur'[b.xs.length*t.sz+i]? = news[i]?) →
      (∀ (L':Nat→Lab) (w':World) (m:Nat),m≤b.n→(∀ k,L k = .stable→L' k = .stable∧w'.heap[k]? = w.heap[k]?) →
       (∀ k y rest,y < b.xs.length*t.sz→L k = .own so (0::y::rest)→w'.heap[k]? = w.heap[k]? ∧ (rest.length < m→L' k = .own d (0::y::rest))∧(m≤rest.length→L' k = .stable)) →
       ∀ j (h:j < b.xs.length),Own w' L' (SL L' none) d m t (b.xs[j]) [0] (j*t.sz) ((olds.drop (j*t.sz)).take t.sz)) →
      Step P o w0 L0 N vs (setAll T ((b.s.toList++c.s.toList).map (fun s=>(s,V.dead))++[(d,.d none (appDep b.n c.n+1) (.slice e t) (b.xs++c.ys))])) a w:=by
     intro kept nl w' g cap' cur' olds hrun hw hnl' hLg hg' hcap hcapm hcur hold hc1 hc2 hbel
     have hexec:(execOp a.eval o).run P w = .ok (.value (.slice (some ⟨g,0,none⟩) (b.xs.length+c.ys.length) cap')) w':=by
      simp [execOp,ho,resolve,invoke,builtin,hrun]
     refine Step.value hdst hexec (Inv.app (b1:=b.xs.length*t.sz) (b2:=c.ys.length*t.sz) (m:=appDep b.n c.n) hI hd hid hso' (fun s hs=>⟨(hsx s hs).1,(hsx s hs).2.1⟩) hw hnl' rfl (by simp [V.owns,Ty.depth]) (fun T' tm' => ?_))
     refine ⟨by simp,_,rfl,?_⟩
     simp only [Own]
     refine .inr ⟨g,cap',cur',by rw [List.length_append],by simpa using hLg,hg',by rw [List.length_append]; exact hcap,hcapm,hcur,fun j hj => ?_⟩
     have hst:∀ k,L k = .stable→newLab (appF d so c.s kept (b.xs.length*t.sz) (c.ys.length*t.sz) (appDep b.n c.n)) w L nl k = .stable∧w'.heap[k]? = w.heap[k]? :=
      fun k hk=>⟨newLab_stable hI hk,hold k (by rw [hk]; simp) (by rw [hk]; simp)⟩
     by_cases hj1:j < b.xs.length
     ·rw [List.getElem_append_left hj1]
      have hwin:(cur'.toList.drop (j*t.sz)).take t.sz=(olds.drop (j*t.sz)).take t.sz:=win fun k hk=>by
       have:(j+1)*t.sz≤b.xs.length*t.sz:=Nat.mul_le_mul_right _ (by omega)
       rw [Nat.add_mul,Nat.one_mul] at this
       rw [Array.getElem?_toList]
       exact hc1 _ (by omega)
      rw [hwin]
      refine hbel _ w' _ appDep_le.1 hst (fun k y rest hy hk => ?_) j hj1
      have hlab:newLab (appF d so c.s kept (b.xs.length*t.sz) (c.ys.length*t.sz) (appDep b.n c.n)) w L nl k=if rest.length < appDep b.n c.n then .own d (0::y::rest) else .stable:=by
       rw [newLab_old hI (by rw [hk]; simp),hk]
       simp [relab,appF,hy]
      refine ⟨hold k (by rw [hk]; simp) (by rw [hk]; simp),fun h => ?_,fun h => ?_⟩
      ·rw [hlab,if_pos h]
      ·rw [hlab,if_neg (by omega)]
     ·rw [List.getElem_append_right (by omega)]
      have hj2:j - b.xs.length < c.ys.length:=by rw [List.length_append] at hj; omega
      have hjm:j*t.sz=b.xs.length*t.sz+(j - b.xs.length)*t.sz:=by rw [← Nat.add_mul]; congr 1; omega
      have hwin:(cur'.toList.drop (j*t.sz)).take t.sz=(news.drop ((j - b.xs.length)*t.sz)).take t.sz:=win fun k hk=>by
       have:(j - b.xs.length+1)*t.sz≤c.ys.length*t.sz:=Nat.mul_le_mul_right _ (by omega)
       rw [Nat.add_mul,Nat.one_mul] at this
       rw [Array.getElem?_toList,hjm,Nat.add_assoc]
       exact hc2 _ (by omega)
      rw [hwin,hjm]
      refine hown _ w' d (b.xs.length*t.sz) _ (fun k hk=>appDep_le.2 k hk) hst (fun s k y rest hs hy hk => ?_) _ hj2
      have hlab:newLab (appF d so c.s kept (b.xs.length*t.sz) (c.ys.length*t.sz) (appDep b.n c.n)) w L nl k=if rest.length < appDep b.n c.n then .own d (0::(b.xs.length*t.sz+y)::rest) else .stable:=by
       rw [newLab_old hI (by rw [hk]; simp),hk]
       simp [relab,appF,hne s hs,hs,hy]
      refine ⟨hold k (by rw [hk]; simp) (by rw [hk]; simp),fun h => ?_,fun h => ?_⟩
      ·rw [hlab,if_pos h]
      ·rw [hlab,if_neg (by omega)]
    have grow:∀ (bs:Option Addr) (sc:Nat) (olds:List Value),a.eval sO = .slice bs b.xs.length sc→sc < b.xs.length+c.ys.length→olds.length=b.xs.length*t.sz →
      (Builtin.firstCells i.size b.xs.length (.slice bs b.xs.length sc)).run P w.drew = .ok olds.toArray w.drew →
      (∀ (L':Nat→Lab) (w':World) (m:Nat),m≤b.n→(∀ k,L k = .stable→L' k = .stable∧w'.heap[k]? = w.heap[k]?) →
       (∀ k y rest,y < b.xs.length*t.sz→L k = .own so (0::y::rest)→w'.heap[k]? = w.heap[k]? ∧ (rest.length < m→L' k = .own d (0::y::rest))∧(m≤rest.length→L' k = .stable)) →
       ∀ j (h:j < b.xs.length),Own w' L' (SL L' none) d m t (b.xs[j]) [0] (j*t.sz) ((olds.drop (j*t.sz)).take t.sz)) →
      Step P o w0 L0 N vs (setAll T ((b.s.toList++c.s.toList).map (fun s=>(s,V.dead))++[(d,.d none (appDep b.n c.n+1) (.slice e t) (b.xs++c.ys))])) a w:=by
     intro bs sc olds hev hlt hol hfirst hbel
     have hrun:=append_grow (P:=P) (w:=w) (ty:=o.type) (X2:=X2) hu i1 i4 hfirst (by rw [i2]; exact hsrc) hlt hml (by rw [i3]; exact hg)
     rw [← hev] at hrun
     have hge:=grownCap_ge w (b.xs.length+c.ys.length) sc e
     have hcm:=grownCap_le_maxLen w (b.xs.length+c.ys.length) sc e hml
     have hL1:(olds++news).length=(b.xs.length+c.ys.length)*t.sz:=by rw [List.length_append,hol,hnl,Nat.add_mul]
     refine fin false (fun k=>if k=w.heap.size then .own d [0] else .free) _ w.heap.size _ _ olds hrun ?_ ?_ ?_ (heap_new w.drew _) hge hcm ?_ ?_ ?_ ?_ hbel
     ·refine ⟨rfl,rfl,rfl,by simp,Nat.le_succ _,fun k hk _=>Go.RowKit.Below.heap_alloc w.drew _ k hk,fun k hk => ?_,fun k s q hk h => ?_⟩
      ·simp at hk
       rw [if_neg (by omega)]
      ·split at h
       ·injection h with h _; exact .inl h.symm
       ·cases h
     ·intro k s q hk h
      split at h
      ·injection h with h1 h2; exact ⟨h1.symm,h2.symm,by assumption,rfl⟩
      ·cases h
     ·unfold newLab
      rw [if_neg (by omega)]
      simp
     ·rw [Array.size_append,List.size_toArray,hL1,size_zeroCells,hzs,← Nat.add_mul]
      congr 1
      omega
     ·exact fun k hk _=>Go.RowKit.Below.heap_alloc w.drew _ k (hI.lt hk)
     ·intro k hk
      rw [Array.getElem?_append_left (by simp only [List.size_toArray]; rw [List.length_append]; omega),List.getElem?_toArray,List.getElem?_append_left (by omega)]
     ·intro k hk
      rw [Array.getElem?_append_left (by simp only [List.size_toArray]; rw [List.length_append]; omega),List.getElem?_toArray,List.getElem?_append_right (by omega),hol]
      congr 1
      omega
    simp only [Own] at hbo
    rcases hbo with ⟨hnil,hxs⟩ | ⟨g,cap,cur,hcs,hL,hgc,h5,h6,h7,h8⟩
    ·have hnil:a.eval sO=_:=(List.cons.inj hnil).1
     by_cases hy:c.ys=[]
     ·have hsrc0:AppSrc P i.size X2 (a.eval xO) 0 [] w:=by
       rw [hy] at hsrc hnl
       have:news=[]:=List.eq_nil_of_length_eq_zero (by simpa using hnl)
       rw [this] at hsrc
       rw [i2]
       exact hsrc
      have hrun:=append_none (P:=P) (ty:=o.type) hu i1 hsrc0
      rw [← hnil] at hrun
      have hexec:(execOp a.eval o).run P w = .ok (.value (a.eval sO)) w:=by
       simp [execOp,ho,resolve,invoke,builtin,hrun]
      refine Step.value hdst hexec (Inv.app (kept:=false) (b1:=0) (b2:=0) (m:=0) (nl:=fun _ => .free) hI hd hid hso' (fun s hs=>⟨(hsx s hs).1,(hsx s hs).2.1⟩) (Wd.refl hI _) (fun k s q _ h=>by cases h) rfl (by simp [V.owns,Ty.depth]) (fun T' tm' => ?_))
      refine ⟨by simp,_,rfl,?_⟩
      simp only [Own]
      exact .inl ⟨by rw [hnil],by rw [hxs,hy]; rfl⟩
     ·have hpos:0 < c.ys.length:=List.length_pos_iff.2 hy
      have h0:b.xs.length=0:=by rw [hxs]; rfl
      refine grow none 0 [] (by rw [h0]; exact hnil) (by omega) (by rw [h0]; simp) ?_ (fun L' w' m _ _ _ j hj=>absurd hj (by omega))
      rw [h0]
      exact run_firstCells_none w.drew i.size 0 0 0
    ·have hcs:a.eval sO=_:=(List.cons.inj hcs).1
     have hL:L g = .own so [0]:=by simpa using hL
     have hle:b.xs.length*t.sz≤cur.size:=by rw [h7]; exact Nat.mul_le_mul_right _ h5
     have hbel:∀ (L':Nat→Lab) (w':World) (m:Nat),m≤b.n→(∀ k,L k = .stable→L' k = .stable∧w'.heap[k]? = w.heap[k]?) →
       (∀ k y rest,y < b.xs.length*t.sz→L k = .own so (0::y::rest)→w'.heap[k]? = w.heap[k]? ∧ (rest.length < m→L' k = .own d (0::y::rest))∧(m≤rest.length→L' k = .stable)) →
       ∀ j (h:j < b.xs.length),Own w' L' (SL L' none) d m t (b.xs[j]) [0] (j*t.sz) (((cur.toList.take (b.xs.length*t.sz)).drop (j*t.sz)).take t.sz):=by
      intro L' w' m hm hst hlab j hj
      have hjb:j*t.sz+t.sz≤b.xs.length*t.sz:=by
       have:(j+1)*t.sz≤b.xs.length*t.sz:=Nat.mul_le_mul_right _ (by omega)
       rwa [Nat.add_mul,Nat.one_mul] at this
      have hw:((cur.toList.take (b.xs.length*t.sz)).drop (j*t.sz)).take t.sz=(cur.toList.drop (j*t.sz)).take t.sz:=win fun k hk=>by
       rw [List.getElem?_take,if_pos (by omega)]
      rw [hw]
      refine Own.moveLow hm (fun k hk => ?_) (fun k y rest hy hk => ?_) (h8 j hj)
      ·rcases hk with hk | ⟨_,_,hk,_⟩
       ·exact ⟨.inl (hst k hk).1,(hst k hk).2⟩
       ·cases hk
      ·have hk':L k = .own so (0::(j*t.sz+y)::rest):=by simpa using hk
       have:=hlab k (j*t.sz+y) rest (by omega) hk'
       exact ⟨this.1,fun h=>by simpa using this.2.1 h,fun h => .inl (this.2.2 h)⟩
     by_cases hroom:b.xs.length+c.ys.length≤cap
     ·
      have hfit:b.xs.length*t.sz+news.length≤cur.size:=by
       rw [hnl,← Nat.add_mul,h7]
       exact Nat.mul_le_mul_right _ hroom
      obtain ⟨s1,s2,s3,s4,s5,cur',s6,s7,s8⟩:=setCells_spec news (b.xs.length*t.sz) w cur e hgc hfit
      have hcell:∀ j,j < news.length→w.cell? ⟨g,b.xs.length*i.size+j,none⟩=cur[b.xs.length*t.sz+j]? := by
       intro j hj
       simp [World.cell?,hgc,i2]
      have hrun:=append_room (P:=P) (w:=w) (ty:=o.type) (X2:=X2) (g:=g) hu i1 (by rw [i2]; exact hsrc) hroom
       (fun j hj=>by rw [hcell j hj,Array.getElem?_eq_getElem (by omega)]; rfl) (fun j hj=>by simp [World.frozen?,hgc])
      rw [← hcs,i2] at hrun
      have hnd:g < w.heap.size:=hI.lt (by rw [hL]; simp)
      refine fin true (fun _ => .free) _ g cap cur' (cur.toList.take (b.xs.length*t.sz)) hrun ?_ (fun k s q _ h=>by cases h) ?_ s6 hroom h6 (by rw [s7,h7]) ?_ ?_ ?_ hbel
      ·refine ⟨s1,s2,s3,by rw [s4]; exact Nat.le_refl _,Nat.le_of_eq (setCells_drawn _ _ _).symm,fun k hk h => ?_,fun k _=>rfl,fun k s q _ h=>by cases h⟩
       exact s5 k (fun e=>by subst e; exact h so [0] hL (.inr (.inl rfl)))
      ·rw [newLab_old hI (by rw [hL]; simp),hL]
       simp [relab,appF]
      ·intro k hk hk2
       exact s5 k (fun e=>by subst e; exact hk2 hL)
      ·intro k hk
       rw [s8,if_neg (by omega),List.getElem?_take,if_pos hk,Array.getElem?_toList]
      ·intro k hk
       rw [s8,if_pos (by omega)]
       congr 1
       omega
     ·
      have hlen:(cur.toList.take (b.xs.length*t.sz)).length=b.xs.length*t.sz:=by rw [List.length_take]; simp; omega
      refine grow (some ⟨g,0,none⟩) cap _ hcs (by omega) hlen ?_ hbel
      refine run_firstCells_some w.drew i.size b.xs.length ⟨g,0,none⟩ b.xs.length cap _ (by rw [hlen,i2]) (fun j u hu => ?_)
      rw [List.getElem?_take] at hu
      split at hu
      ·show w.cell? _=_
       rw [show (⟨g,0,none⟩:Addr).add j=⟨g,j,none⟩ by rw [Addr.add_lit,Nat.zero_add]]
       simp only [World.cell?,hgc]
       simpa using hu
      ·cases hu
   ·exact h.elim
  ·exact h.elim
 ·exact h.elim
end
end Go.Proofs.YtkanidldnnfloaaGreat.P.Am
set_option linter.unusedVariables false
set_option linter.unusedSimpArgs false
namespace Go.Proofs.YtkanidldnnfloaaGreat.P.Am
abbrev Comp:=Nat×Option (Nat×(t:Ty)×t.den)
def compV (d i:Nat):Option (Nat×(t:Ty)×t.den)→Option V
 | some (n,⟨t,x⟩)=>if n≠0∧t.depth≠0 then some (.part d i n t x) else none
 | none=>none
def partsOf (d:Nat) (h:Nat→Option Nat):Nat→Nat→List Comp→List ((Nat×Nat×Nat)×V)
 | _,_,[]=>[]
 | i,o,(sz,c)::l=>match h i,compV d i c with
  | some e,some v=>((e,o,sz),v)::partsOf d h (i+1) (o+sz) l
  | _,_=>partsOf d h (i+1) (o+sz) l
def restOf:List Comp→List Comp
 | []=>[]
 | (sz,c)::l=>(sz,if compOwns c=true then none else c)::restOf l
def idleAll {α:Type}:List Nat→M α→M α
 | [],m=>m
 | s::l,m => .get s fun v => .chk v.idle (idleAll l m)
def tupUps (vs:List Nat) (N d s:Nat) (h:Nat→Option Nat):M (List (Nat×V)) :=
 .get s fun v=>match v with
 | .tup l =>
  if nodupB (d::s::(partsOf d h 0 0 l).map (·.1.1))=true∧((partsOf d h 0 0 l).all fun p=>decide (p.1.1 < N))=true∧vs.contains s=false∧vs.contains d=true then
   idleAll (d::(partsOf d h 0 0 l).map (·.1.1)) (.ret ((s,V.dead)::((partsOf d h 0 0 l).map (fun p=>(p.1.1,p.2))++[(d,.tup (restOf l))])))
  else .fail
 | _ => .fail
def extUps (vs:List Nat) (d:Nat) (x:Operand) (i:Nat):M (List (Nat×V)) :=
 match x with
 | .tmp s => .get d fun vd=>match vd with
  | .part r j n t y=>if r=s∧j=i∧vs.contains d=false∧n≠0∧t.depth≠0 then .ret [(d,.d none n t y)] else .fail
  | _ => .chk vd.idle (.get s fun v=>match v with
   | .tup l=>match l[i]? with
    | some (_,some (n,⟨t,y⟩))=>if n=0∨t.depth=0 then .ret [(d,.d none n t y)] else .fail
    | _ => .fail
   | _ => .fail)
 | _ => .fail
def partF (s d:Nat) (ms:List (Nat×Nat×Nat)):Nat→List Nat→Lab:=fun r z =>
 if r=s then match z with
  | y::rest=>match ms.find? (fun p=>decide (p.2.1≤y) && decide (y < p.2.1+p.2.2)) with
   | some p => .own p.1 ((y - p.2.1)::rest)
   | none => .other
  | [] => .other
 else if r=d∨r∈ms.map (·.1) then .other else .own r z
theorem partF_key {s d:Nat} {ms:List (Nat×Nat×Nat)} {r:Nat} {z:List Nat} {s':Nat} {z':List Nat} (h:partF s d ms r z = .own s' z') :
  (r=s∧∃ p y rest,p∈ms∧z=y::rest∧p.2.1≤y∧y < p.2.1+p.2.2∧s'=p.1∧z'=(y - p.2.1)::rest)∨(r≠s∧r≠d∧r ∉ ms.map (·.1)∧s'=r∧z'=z):=by
 unfold partF at h
 split at h
 ·rename_i hr
  split at h
  ·rename_i y rest
   split at h
   ·rename_i p hp
    injection h with h1 h2
    have hb:=List.find?_some hp
    simp only [Bool.and_eq_true,decide_eq_true_eq] at hb
    exact .inl ⟨hr,p,y,rest,List.mem_of_find?_eq_some hp,rfl,hb.1,hb.2,h1.symm,h2.symm⟩
   ·cases h
  ·cases h
 ·rename_i hr
  split at h
  ·cases h
  ·rename_i hn
   have hn:=not_or.1 hn
   injection h with h1 h2
   exact .inr ⟨hr,hn.1,hn.2,h1.symm,h2.symm⟩
theorem partF_fun [Glob] {s d b:Nat} {ms:List (Nat×Nat×Nat)} (hs:Srt b ms) (hn:nodupB (ms.map (·.1))=true):Fun (partF s d ms) (fun r=>r=s∨r=d∨r∈ms.map (·.1)):=by
 refine ⟨fun r z hX => ?_,fun r z s' z' hX h => ?_,fun r z r2 z2 s' z' h1 h2 => ?_,fun r z => ?_⟩
 ·have h1:=not_or.1 hX
  unfold partF
  rw [if_neg h1.1,if_neg h1.2]
 ·rcases partF_key h with ⟨_,p,_,_,hp,_,_,_,rfl,_⟩ | ⟨h1,h2,h3,rfl,_⟩
  ·exact .inr (.inr (List.mem_map_of_mem hp))
  ·rcases hX with h | h | h
   ·exact absurd h h1
   ·exact absurd h h2
   ·exact absurd h h3
 ·rcases partF_key h1 with ⟨rfl,p,y,rest,hp,rfl,b1,b2,rfl,rfl⟩ | ⟨g1,g2,g3,rfl,rfl⟩
  ·rcases partF_key h2 with ⟨rfl,p',y',rest',hp',rfl,b1',b2',he,h3⟩ | ⟨_,_,g3,h3,_⟩
   ·have f1:=find_of_mem hn hp
    have f2:=find_of_mem hn hp'
    rw [he] at f1
    rw [f1] at f2
    cases f2
    simp only [List.cons.injEq] at h3
    obtain ⟨h3,rfl⟩:=h3
    exact ⟨rfl,by rw [show y=y' by omega]⟩
   ·exact absurd (h3▸List.mem_map_of_mem hp) g3
  ·rcases partF_key h2 with ⟨_,p',_,_,hp',_,_,_,h3,_⟩ | ⟨_,_,_,h3,h4⟩
   ·exact absurd (h3▸List.mem_map_of_mem hp') g3
   ·exact ⟨h3,h4⟩
 ·unfold partF
  repeat' split
  all_goals simp
theorem partF_at [Glob] {s d b:Nat} {ms:List (Nat×Nat×Nat)} (hs:Srt b ms) (hn:nodupB (ms.map (·.1))=true) {p:Nat×Nat×Nat} (hp:p∈ms) {i:Nat} (hi:i < p.2.2) {rest:List Nat} :
  partF s d ms s ((p.2.1+i)::rest) = .own p.1 (i::rest):=by
 unfold partF
 rw [if_pos rfl]
 dsimp only
 have hx:∃ q,ms.find? (fun q=>decide (q.2.1≤p.2.1+i) && decide (p.2.1+i < q.2.1+q.2.2))=some q:=by
  rw [← Option.isSome_iff_exists,List.find?_isSome]
  exact ⟨p,hp,by simp; omega⟩
 obtain ⟨q,hq⟩:=hx
 have hqm:=List.mem_of_find?_eq_some hq
 have hb:=List.find?_some hq
 simp only [Bool.and_eq_true,decide_eq_true_eq] at hb
 have hqp:q=p:=by
  apply Classical.byContradiction
  intro hne
  by_cases h1:q.1=p.1
  ·have f1:=find_of_mem hn hp
   have f2:=find_of_mem hn hqm
   rw [h1,f1] at f2
   exact hne (Option.some.inj f2).symm
  ·have:=hs.disj hn q p hqm hp h1
   omega
 subst hqp
 rw [hq]
 simp only [Lab.own.injEq,List.cons.injEq,and_true,true_and]
 omega
theorem partsOf_srt {d:Nat} {h:Nat→Option Nat}:{l:List Comp}→{i o:Nat}→Srt o ((partsOf d h i o l).map (·.1))
 | [],_,_=>trivial
 | (sz,c)::l,i,o=>by
  simp only [partsOf]
  split
  ·exact ⟨Nat.le_refl _,partsOf_srt⟩
  ·exact Srt.weak (Nat.le_add_right _ _) partsOf_srt
 where
 Srt.weak:{b b':Nat}→{ms:List (Nat×Nat×Nat)}→b≤b'→Srt b' ms→Srt b ms
 | _,_,[],_,_=>trivial
 | _,_,_::_,h,h2=>⟨Nat.le_trans h h2.1,h2.2⟩
section
variable {P:Program} {C:Ctx} {w w' w0:World} {S S':Nat→Prop} {L L' L0:Nat→Lab} {s N:Nat} {vs:List Nat} {T T':List V} {tm tm':Array Value} {a:Act}
theorem partsOf_rep {d:Nat} {h:Nat→Option Nat}:{l:List Comp}→{i o:Nat}→{vals:List Value}→TRep w L s o l vals→∀ p v,(p,v)∈partsOf d h i o l →
  ∃ j n t x u cs,v = .part d (i+j) n t x∧vals[j]? = some u∧t.sz=p.2.2∧Form t cs u∧Own w L (SL L none) s n t x [] p.2.1 cs
 | [],_,_,_,_,_,_,hm=>by simp [partsOf] at hm
 | (sz,c)::l,i,o,vals,hr,p,v,hm=>by
  obtain ⟨u,vs',rfl,h1,h2⟩:=hr
  have hrec:(p,v)∈partsOf d h (i+1) (o+sz) l→∃ j n t x u' cs,v = .part d (i+j) n t x∧(u::vs')[j]? = some u'∧t.sz=p.2.2∧Form t cs u'∧Own w L (SL L none) s n t x [] p.2.1 cs:=by
   intro hm
   obtain ⟨j,n,t,x,u',cs,e1,e2,e3,e4,e5⟩:=partsOf_rep h2 p v hm
   exact ⟨j+1,n,t,x,u',cs,by rw [e1,show i+1+j=i+(j+1) by omega],by simpa using e2,e3,e4,e5⟩
  simp only [partsOf] at hm
  split at hm
  ·rename_i e v' he hv'
   rcases List.mem_cons.1 hm with hm | hm
   ·injection hm with hp hv
    subst hp hv
    unfold compV at hv'
    split at hv'
    ·rename_i n t x
     split at hv'
     ·injection hv' with hv'
      obtain ⟨h3,cs,h4,h5⟩:=h1 n t x rfl
      exact ⟨0,n,t,x,u,cs,hv'.symm,rfl,h3,h4,h5⟩
     ·cases hv'
    ·cases hv'
   ·exact hrec hm
  ·exact hrec hm
theorem restOf_rep {s':Nat} (H:∀ k,L k = .stable→L' k = .stable∧w'.heap[k]? = w.heap[k]?):{l:List Comp}→{o:Nat}→{vals:List Value}→TRep w L s o l vals→TRep w' L' s' o (restOf l) vals
 | [],_,_,h=>h
 | (sz,c)::l,o,vals,⟨v,vs',h1,h2,h3⟩=>by
  refine ⟨v,vs',h1,fun n t x hc => ?_,restOf_rep H h3⟩
  split at hc
  ·cases hc
  ·rename_i hco
   obtain ⟨h4,cs,h5,h6⟩:=h2 n t x hc
   subst hc
   refine ⟨h4,cs,h5,?_⟩
   have hn0:¬n=0→t.depth=0:=by simpa [compOwns] using hco
   have hn:n=0∨t.depth=0:=by omega
   rcases hn with hn | hn
   ·subst hn
    refine Own.of_rd (Rd.move (fun k hk => ?_) (Own.rd0 h6))
    rcases hk with hk | ⟨_,_,hk,_⟩
    ·exact ⟨.inl (H k hk).1,(H k hk).2⟩
    ·cases hk
   ·exact Own.flat hn h6
theorem trep_get:{l:List Comp}→{o i:Nat}→{vals:List Value}→{sz n:Nat}→{t:Ty}→{x:t.den}→TRep w L s o l vals→l[i]? = some (sz,some (n,⟨t,x⟩))→∃ o' u cs,vals[i]? = some u∧Form t cs u∧Own w L (SL L none) s n t x [] o' cs
 | [],_,_,_,_,_,_,_,_,h=>by simp at h
 | (sz',c)::l,o,0,vals,sz,n,t,x,⟨v,vs',h1,h2,h3⟩,h=>by
  simp only [List.getElem?_cons_zero,Option.some.injEq,Prod.mk.injEq] at h
  obtain ⟨_,cs,h5,h6⟩:=h2 n t x h.2
  exact ⟨o,v,cs,by rw [h1]; rfl,h5,h6⟩
 | (sz',c)::l,o,i+1,vals,sz,n,t,x,⟨v,vs',h1,h2,h3⟩,h=>by
  obtain ⟨o',u,cs,e1,e2,e3⟩:=trep_get h3 (by simpa using h)
  exact ⟨o',u,cs,by rw [h1]; simpa using e1,e2,e3⟩
theorem idleAll_runs {α:Type} {m:M α} {x:α}:{l:List Nat}→{log:List Nat}→(idleAll l m).Runs T x log→(∀ s∈l,(T.getD s .dead).idle=true)∧∃ log',m.Runs T x log'
 | [],log,h=>⟨by simp,log,h⟩
 | s::l,log,h=>by
  obtain ⟨log',rfl,hc,h⟩:=h
  obtain ⟨h1,h2⟩:=idleAll_runs h
  exact ⟨fun s' hs=>by rcases List.mem_cons.1 hs with rfl | hs; exact hc; exact h1 s' hs,h2⟩
theorem getD_setAll_val [Glob] {ups:List (Nat×V)} (hn:nodupB (ups.map (·.1))=true) {s:Nat} {v:V} (hm:(s,v)∈ups) {T:List V} (hs:s < T.length):(setAll T ups).getD s .dead=v:=by
 unfold setAll
 induction ups generalizing T with
 | nil=>cases hm
 | cons u l ih =>
  simp only [List.map_cons,nodupB,Bool.and_eq_true,Bool.not_eq_true'] at hn
  simp only [List.foldl_cons]
  rcases List.mem_cons.1 hm with rfl | hm
  ·have:=getD_setAll l (T.set s v) s (fun h=>by
    have h2:=List.contains_iff_mem.2 h
    rw [hn.1] at h2; cases h2)
   unfold setAll at this
   rw [this,getD_set,if_pos ⟨rfl,hs⟩]
  ·exact ih hn.2 hm (by simpa using hs)
theorem nodupB_perm {l:List Nat}:nodupB l=true→l.Nodup:=by
 induction l with
 | nil=>intro _; exact List.nodup_nil
 | cons x l ih =>
  intro h
  simp only [nodupB,Bool.and_eq_true,Bool.not_eq_true'] at h
  refine List.nodup_cons.2 ⟨fun hm => ?_,ih h.2⟩
  rw [List.contains_iff_mem.2 hm] at h
  cases h.1
theorem nodupB_of {l:List Nat}:l.Nodup→nodupB l=true:=by
 induction l with
 | nil=>intro _; rfl
 | cons x l ih =>
  intro h
  obtain ⟨h1,h2⟩:=List.nodup_cons.1 h
  simp only [nodupB,Bool.and_eq_true,Bool.not_eq_true',ih h2,and_true]
  rw [Bool.eq_false_iff]
  intro hc
  exact h1 (List.contains_iff_mem.1 hc)
theorem step_tup [Glob] (hI:Inv w0 L0 N vs T a w L) {o:Oper} {d s:Nat} {h:Nat→Option Nat} {ups:List (Nat×V)} {log:List Nat} (ho:isMove o (.tmp s)) (hdst:o.dst=some d) (hd:d < N)
  (hr:(tupUps vs N d s h).Runs T ups log):Step P o w0 L0 N vs (setAll T ups) a w:=by
 obtain ⟨log',rfl,hr⟩:=hr
 dsimp only at hr
 have hs:=hI.slots s
 generalize hv:T.getD s .dead=v at hr hs
 split at hr
 ·rename_i l
  split at hr
  ·rename_i hc
   obtain ⟨hnd,hlt,hsv,hdv⟩:=hc
   obtain ⟨hidle,log2,hr⟩:=idleAll_runs hr
   obtain ⟨rfl,_⟩:=hr
   obtain ⟨vals,hval,hrep⟩:=hs
   generalize hps:partsOf d h 0 0 l=ps at hnd hlt hidle
   have hsrt:Srt 0 (ps.map (·.1)):=by rw [← hps]; exact partsOf_srt
   have hnodup:=nodupB_perm hnd
   have hslots:ps.map (·.1.1)=(ps.map (·.1)).map (·.1):=by rw [List.map_map]; rfl
   obtain ⟨hd1,hnd2⟩:=List.nodup_cons.1 hnodup
   obtain ⟨hs1,hnd3⟩:=List.nodup_cons.1 hnd2
   have hds:d≠s:=fun e=>hd1 (by rw [e]; simp)
   have hdp:d ∉ ps.map (·.1.1):=fun e=>hd1 (List.mem_cons_of_mem _ e)
   have hn3:nodupB ((ps.map (·.1)).map (·.1))=true:=by rw [← hslots]; exact nodupB_of hnd3
   have hsown:(T.getD s .dead).owns=true:=by rw [hv]; rfl
   have hsN:s < N:=by
    apply Classical.byContradiction
    intro hge
    rw [getD_out (by rw [hI.len]; omega)] at hv
    cases hv
   let U:List (Nat×V):=(s,V.dead)::(ps.map (fun p=>(p.1.1,p.2))++[(d,.tup (restOf l))])
   have hU:U.map (·.1)=s::(ps.map (·.1.1)++[d]):=by simp [U,List.map_map,Function.comp_def]
   have hUn:nodupB (U.map (·.1))=true:=by
    rw [hU]
    refine nodupB_of (List.nodup_cons.2 ⟨fun hm => ?_,?_⟩)
    ·rcases List.mem_append.1 hm with hm | hm
     ·exact hs1 hm
     ·exact hds (List.mem_singleton.1 hm).symm
    ·rw [List.nodup_append]
     refine ⟨hnd3,by simp,fun x hx y hy e => ?_⟩
     rw [List.mem_singleton] at hy
     subst e hy
     exact hdp hx
   have hTs:(setAll T U).getD s .dead = .dead:=getD_setAll_val hUn (by simp [U]) (by rw [hI.len]; exact hsN)
   have hTd:(setAll T U).getD d .dead = .tup (restOf l):=getD_setAll_val hUn (by simp [U]) (by rw [hI.len]; exact hd)
   have hTp:∀ p v,(p,v)∈ps→(setAll T U).getD p.1 .dead=v:=by
    intro p v hp
    refine getD_setAll_val hUn ?_ ?_
    ·refine List.mem_cons_of_mem _ (List.mem_append_left _ (List.mem_map.2 ⟨(p,v),hp,rfl⟩))
    ·rw [List.all_eq_true] at hlt
     rw [hI.len]
     simpa using hlt _ hp
   have hTo:∀ z,¬ (z=s∨z=d∨z∈(ps.map (·.1)).map (·.1))→(setAll T U).getD z .dead=T.getD z .dead:=by
    intro z hz
    refine getD_setAll _ _ _ ?_
    rw [hU,hslots]
    intro hm
    rcases List.mem_cons.1 hm with hm | hm
    ·exact hz (.inl hm)
    ·rcases List.mem_append.1 hm with hm | hm
     ·exact hz (.inr (.inr hm))
     ·exact hz (.inr (.inl (List.mem_singleton.1 hm)))
   have hpart:∀ p v,(p,v)∈ps→∃ j n t x u cs,v = .part d j n t x∧vals.toList[j]? = some u∧t.sz=p.2.2∧Form t cs u∧Own w L (SL L none) s n t x [] p.2.1 cs:=by
    intro p v hp
    rw [← hps] at hp
    obtain ⟨j,n,t,x,u,cs,e1,e2⟩:=partsOf_rep hrep p v hp
    exact ⟨0+j,n,t,x,u,cs,e1,by rw [Nat.zero_add]; exact e2⟩
   have hmem:∀ z,z∈(ps.map (·.1)).map (·.1)→∃ p v,(p,v)∈ps∧p.1=z:=by
    intro z hz
    rw [← hslots] at hz
    obtain ⟨⟨p,v⟩,hp,rfl⟩:=List.mem_map.1 hz
    exact ⟨p,v,hp,rfl⟩
   refine Step.value hdst (run_isMove ho) (Inv.updF (T':=setAll T U) (f:=partF s d (ps.map (·.1))) (X:=fun z=>z=s∨z=d∨z∈(ps.map (·.1)).map (·.1)) (nl:=fun _ => .free) hI (partF_fun hsrt hn3) (Wd.refl hI _) (fun _ _ _ _ _ h=>by cases h) (by simp [Act.put,hI.size]) (by rw [length_setAll,hI.len]) hI.dfr ?_ ?_ ?_ ?_ ?_)
   ·intro k z q hz hk
    rcases hz with rfl | rfl | hz
    ·exfalso
     unfold newLab at hk
     split at hk
     ·obtain ⟨s0,q0,e0,f0⟩:=relab_own hk
      rcases partF_key f0 with ⟨_,p,_,_,hp,_,_,_,h7,_⟩ | ⟨h1,_,_,h7,_⟩
      ·exact hs1 (by rw [hslots,h7]; exact List.mem_map_of_mem hp)
      ·exact h1 h7.symm
     ·cases hk
    ·rw [hTd]; rfl
    ·obtain ⟨p,v,hp,rfl⟩:=hmem z hz
     rw [hTp p v hp]
     obtain ⟨j,n,t,x,u,cs,rfl,_⟩:=hpart p v hp
     rfl
   ·intro z r hz hon hr
    rcases hr with rfl | hr
    ·exfalso
     have:=hI.roots z _ hon
     rw [List.contains_iff_mem.2 this] at hsv
     cases hsv
    ·refine V.not_owns (hidle r ?_)
     rcases hr with rfl | hr
     ·simp
     ·rw [hslots]; exact List.mem_cons_of_mem _ hr
   ·intro z hz
    refine ⟨hTo z hz,?_⟩
    show (a.tmps.setIfInBounds d _).getD z undef=_
    rw [getD_setA,if_neg (fun e=>hz (.inr (.inl e.1)))]
   ·intro z r hz hon
    rcases hz with rfl | rfl | hz
    ·rw [hTs] at hon; simp [V.on,V.root] at hon
    ·rw [hTd] at hon; simp [V.on,V.root] at hon
    ·obtain ⟨p,v,hp,rfl⟩:=hmem z hz
     rw [hTp p v hp] at hon
     obtain ⟨j,n,t,x,u,cs,rfl,_⟩:=hpart p v hp
     simp only [V.on,V.root,beq_iff_eq,Option.some.injEq] at hon
     subst hon
     exact List.contains_iff_mem.1 hdv
   ·intro z hz
    have hput:(a.put (some d) (a.eval (.tmp s))).tmps.getD d undef=a.tmps.getD s undef:=by
     show (a.tmps.setIfInBounds d _).getD d undef=_
     rw [getD_setA,if_pos ⟨rfl,by rw [hI.size]; exact hd⟩]
     rfl
    rcases hz with rfl | rfl | hz
    ·rw [hTs]; trivial
    ·rw [hTd,hput]
     exact ⟨vals,hval,restOf_rep (fun k hk=>⟨newLab_stable hI hk,rfl⟩) hrep⟩
    ·obtain ⟨p,v,hp,rfl⟩:=hmem z hz
     rw [hTp p v hp]
     obtain ⟨j,n,t,x,u,cs,rfl,e2,e3,e4,e5⟩:=hpart p v hp
     refine ⟨by rw [hTd]; rfl,vals,u,cs,by rw [hput]; exact hval,by simpa using e2,e4,?_⟩
     refine Own.move (fun k hk => ?_) (fun k i rest hi hk=>⟨?_,rfl⟩) e5
     ·rcases hk with hk | ⟨_,_,hk,_⟩
      ·exact ⟨.inl (newLab_stable hI hk),rfl⟩
      ·cases hk
     ·have hk':L k = .own s ((p.2.1+i)::rest):=by simpa using hk
      rw [newLab_old hI (by rw [hk']; simp),hk']
      have:=partF_at (s:=s) (d:=d) hsrt hn3 (List.mem_map_of_mem (f:=(·.1)) hp) (i:=i) (by rw [← e3]; exact hi) (rest:=rest)
      simpa [relab] using this
  ·exact hr.elim
 ·exact hr.elim
theorem step_ext [Glob] (hI:Inv w0 L0 N vs T a w L) {o:Oper} {x:Operand} {d i:Nat} {ups:List (Nat×V)} {log:List Nat} (ho:o.op = .extract x i) (hdst:o.dst=some d) (hd:d < N)
  (hr:(extUps vs d x i).Runs T ups log):Step P o w0 L0 N vs (setAll T ups) a w:=by
 cases x with
 | tmp s =>
  obtain ⟨log',rfl,hr⟩:=hr
  dsimp only at hr
  have hsd:=hI.slots d
  generalize hvd:T.getD d .dead=vd at hr hsd
  split at hr
  ·rename_i r j n t y
   split at hr
   ·rename_i hc
    obtain ⟨rfl,rfl,hdv,hn,hdep⟩:=hc
    obtain ⟨rfl,_⟩:=hr
    obtain ⟨h0,vals,u,cs,h1,h2,h3,h4⟩:=hsd
    have hrun:(execOp a.eval o).run P w = .ok (.value u) w:=by
     have:a.eval (.tmp r) = .tuple vals:=h1
     simp [execOp,ho,this,Instr.extract,h2]
    have hT:∀ z,(setAll T [(d,V.d none n t y)]).getD z .dead=if z=d∧d < T.length then V.d none n t y else T.getD z .dead:=fun z=>getD_set _ _ _ _ _
    have hdN:d < T.length:=by rw [hI.len]; exact hd
    refine Step.value hdst hrun (Inv.upd (fun z=>z=d) hI (by simp [Act.put,hI.size]) (by rw [length_setAll,hI.len]) hI.dfr hI.fr hI.free hI.inj ?_ (fun _ _ _ _=>⟨rfl,rfl⟩) ?_ ?_ ?_ ?_)
    ·intro k z q hk
     rw [hT]
     split
     ·simp [V.owns,hn,hdep]
     ·exact hI.owner k z q hk
    ·intro z hz
     refine ⟨by rw [hT,if_neg (fun e=>hz e.1)],?_⟩
     show (a.tmps.setIfInBounds d _).getD z undef=_
     rw [getD_setA,if_neg (fun e=>hz e.1)]
    ·intro z r' hon
     rw [hT] at hon
     split at hon
     ·simp [V.on,V.root] at hon
     ·exact hI.roots z r' hon
    ·intro z r' hz hon ho'
     have hrd:r'≠d:=by
      rintro rfl
      have:=hI.roots z _ hon
      rw [List.contains_iff_mem.2 this] at hdv
      cases hdv
     refine ⟨by rw [hT,if_neg (fun e=>hrd e.1)],?_⟩
     show (a.tmps.setIfInBounds d _).getD r' undef=_
     rw [getD_setA,if_neg (fun e=>hrd e.1)]
    ·intro z hz
     subst hz
     rw [hT,if_pos ⟨rfl,hdN⟩]
     have:(a.put (some z) u).tmps.getD z undef=u:=by
      show (a.tmps.setIfInBounds z _).getD z undef=_
      rw [getD_setA,if_pos ⟨rfl,by rw [hI.size]; exact hd⟩]
     rw [this]
     exact ⟨by simp,cs,h3,h4⟩
   ·exact hr.elim
  ·obtain ⟨hid,log2,rfl,hr⟩:=hr
   dsimp only at hr
   have hs:=hI.slots s
   generalize hv:T.getD s .dead=v at hr hs
   split at hr
   ·rename_i l
    split at hr
    ·rename_i sz n t y hl
     split at hr
     ·rename_i hn
      obtain ⟨rfl,_⟩:=hr
      obtain ⟨vals,h1,h2⟩:=hs
      obtain ⟨o',u,cs,e1,e2,e3⟩:=trep_get h2 hl
      have e1:vals[i]? = some u:=by simpa using e1
      have hrun:(execOp a.eval o).run P w = .ok (.value u) w:=by
       have:a.eval (.tmp s) = .tuple vals:=h1
       simp [execOp,ho,this,Instr.extract,e1]
      have hres:PureRes P o vs T a w L d (.d none n t y):=PureRes.still hI hrun (fun _=>rfl) ⟨by simp,cs,e2,Own.at0 hn e3 hn⟩
      intro K Q hK
      exact PureRes.inv hI hd (by rw [hvd]; exact hid) hdst hres hK
     ·exact hr.elim
    ·exact hr.elim
   ·exact hr.elim
 | const c=>exact hr.elim
 | func f=>exact hr.elim
 | global g=>exact hr.elim
end
end Go.Proofs.YtkanidldnnfloaaGreat.P.Am
set_option linter.unusedVariables false
set_option linter.unusedSimpArgs false
namespace Go.Proofs.YtkanidldnnfloaaGreat.P.Am
def takeE (r s:Nat) (v:V):Nat→List V→List (Nat×V)
 | _,[]=>[]
 | i,u::l=>cond (i == s) ((i,v)::takeE r s v (i+1) l) (cond (i == r || u.on r) ((i,.dead)::takeE r s v (i+1) l) (takeE r s v (i+1) l))
def takeOk (r s:Nat):Nat→List V→Bool
 | _,[]=>true
 | i,u::l=>(i == s || i == r || !(u.on r && u.owns)) && takeOk r s (i+1) l
def withTake (N:Nat):List Nat→M (List (Nat×V))→M (List (Nat×V))
 | [],m=>m
 | s::l,m => .get s fun v=>match v with
  | .view r [] _ => .get r fun u=>match u with
   | .d none n t x =>
    if n≠0∧t.depth≠0∧s < N∧s≠r then
     (allM 0 N).bind fun Ts => .chk (takeOk r s 0 Ts) (((withTake N l m).onT (setAll Ts (takeE r s (.d none n t x) 0 Ts))).bind fun ups => .ret (takeE r s (.d none n t x) 0 Ts++ups))
    else withTake N l m
   | _=>withTake N l m
  | _=>withTake N l m
section
variable {P:Program} {C:Ctx} {w w' w0:World} {S S':Nat→Prop} {L L' L0:Nat→Lab} {s N:Nat} {vs:List Nat} {T T':List V} {tm tm':Array Value} {a:Act}
theorem takeE_mem {r s:Nat} {v:V}:{i:Nat}→{l:List V}→(z:Nat)→(u:V)→((z,u)∈takeE r s v i l↔i≤z∧z < i+l.length∧((z=s∧u=v)∨(z≠s∧u = .dead∧(z=r∨(l.getD (z - i) .dead).on r=true))))
 | i,[],z,u=>by simp [takeE]; omega
 | i,u0::l,z,u=>by
  have ih:=takeE_mem (r:=r) (s:=s) (v:=v) (i:=i+1) (l:=l) z u
  have hsh:i+1≤z→(u0::l).getD (z - i) .dead=l.getD (z - (i+1)) .dead:=fun h=>by
   rw [show z - i=(z - (i+1))+1 by omega,List.getD_cons_succ]
  have hrest:(z,u)∈takeE r s v (i+1) l→i≤z∧z < i+(u0::l).length∧((z=s∧u=v)∨(z≠s∧u = .dead∧(z=r∨((u0::l).getD (z - i) .dead).on r=true))):=by
   intro h
   obtain ⟨h1,h2,h3⟩:=ih.1 h
   rw [hsh h1]
   exact ⟨by omega,by simp only [List.length_cons]; omega,h3⟩
  have hback:z≠i→i≤z∧z < i+(u0::l).length∧((z=s∧u=v)∨(z≠s∧u = .dead∧(z=r∨((u0::l).getD (z - i) .dead).on r=true)))→(z,u)∈takeE r s v (i+1) l:=by
   rintro hz ⟨h1,h2,h3⟩
   simp only [List.length_cons] at h2
   rw [hsh (by omega)] at h3
   exact ih.2 ⟨by omega,by omega,h3⟩
  simp only [takeE]
  cases hc:(i == s) with
  | true =>
   have hi:i=s:=by simpa using hc
   simp only [cond_true,List.mem_cons,Prod.mk.injEq]
   constructor
   ·rintro (⟨rfl,rfl⟩ | h)
    ·exact ⟨Nat.le_refl _,by simp,.inl ⟨hi,rfl⟩⟩
    ·exact hrest h
   ·intro h
    by_cases hz:z=i
    ·obtain ⟨_,_,h | h⟩:=h
     ·exact .inl ⟨hz,h.2⟩
     ·exact absurd (hz.trans hi) h.1
    ·exact .inr (hback hz h)
  | false =>
   have hi:i≠s:=by simpa using hc
   simp only [cond_false]
   cases hc2:(i == r || u0.on r) with
   | true =>
    simp only [cond_true,List.mem_cons,Prod.mk.injEq]
    constructor
    ·rintro (⟨rfl,rfl⟩ | h)
     ·refine ⟨Nat.le_refl _,by simp,.inr ⟨hi,rfl,?_⟩⟩
      rw [Nat.sub_self,List.getD_cons_zero]
      simpa using hc2
     ·exact hrest h
    ·intro h
     by_cases hz:z=i
     ·obtain ⟨_,_,h | h⟩:=h
      ·exact absurd (hz.symm.trans h.1) hi
      ·exact .inl ⟨hz,h.2.1⟩
     ·exact .inr (hback hz h)
   | false =>
    simp only [cond_false]
    constructor
    ·exact hrest
    ·intro h
     by_cases hz:z=i
     ·exfalso
      obtain ⟨_,_,h | h⟩:=h
      ·exact hi (hz.symm.trans h.1)
      ·simp only [Bool.or_eq_false_iff,beq_eq_false_iff_ne] at hc2
       subst hz
       rw [Nat.sub_self,List.getD_cons_zero] at h
       rcases h.2.2 with h | h
       ·exact hc2.1 h
       ·rw [hc2.2] at h; cases h
     ·exact hback hz h
theorem takeE_get [Glob] (hl:T.length=N) {r s:Nat} {v:V} (hs:s < N) (z:Nat):(setAll T (takeE r s v 0 T)).getD z .dead=if z=s then v else if z=r∨(T.getD z .dead).on r=true then .dead else T.getD z .dead:=by
 split
 ·rename_i hz
  subst hz
  exact getD_setAll_mem (by rw [hl]; exact hs) (List.mem_map.2 ⟨(z,v),(takeE_mem z v).2 ⟨Nat.zero_le _,by rw [Nat.zero_add,hl]; exact hs,.inl ⟨rfl,rfl⟩⟩,rfl⟩) (fun u hu=>by
   rcases ((takeE_mem z u).1 hu).2.2 with h | h
   ·exact h.2
   ·exact absurd rfl h.1)
 ·rename_i hz
  split
  ·rename_i hc
   by_cases hzN:z < N
   ·exact getD_setAll_mem (by rw [hl]; exact hzN) (List.mem_map.2 ⟨(z,.dead),(takeE_mem z .dead).2 ⟨Nat.zero_le _,by rw [Nat.zero_add,hl]; exact hzN,.inr ⟨hz,rfl,hc⟩⟩,rfl⟩) (fun u hu=>by
     rcases ((takeE_mem z u).1 hu).2.2 with h | h
     ·exact absurd h.1 hz
     ·exact h.2.1)
   ·exact getD_out (by rw [length_setAll,hl]; omega)
  ·rename_i hc
   refine getD_setAll _ _ _ (fun hm => ?_)
   obtain ⟨u,hu,he⟩:=List.mem_map.1 hm
   subst he
   rcases ((takeE_mem u.1 u.2).1 hu).2.2 with h | h
   ·exact hz h.1
   ·exact hc h.2.2
theorem takeOk_spec {r s:Nat}:{i:Nat}→{l:List V}→takeOk r s i l=true→∀ z,i+z≠s→i+z≠r→(l.getD z .dead).on r=true→(l.getD z .dead).owns=false
 | _,[],_,z,_,_,h=>by simp [V.on,V.root] at h
 | i,u::l,h,z,hs,hr,hc=>by
  simp only [takeOk,Bool.and_eq_true,Bool.or_eq_true,Bool.not_eq_true',beq_iff_eq] at h
  cases z with
  | zero =>
   simp only [List.getD_cons_zero] at hc ⊢
   rcases h.1 with h1 | h1
   ·rcases h1 with h1 | h1
    ·exact absurd h1 (by simpa using hs)
    ·exact absurd h1 (by simpa using hr)
   ·rw [hc,Bool.true_and] at h1
    exact h1
  | succ z =>
   simp only [List.getD_cons_succ] at hc ⊢
   exact takeOk_spec h.2 z (by omega) (by omega) hc
theorem Inv.takeIt [Glob] (hI:Inv w0 L0 N vs T a w L) {s r n:Nat} {t t':Ty} {x:t.den} (hs:T.getD s .dead = .view r [] t') (hr:T.getD r .dead = .d none n t x) (hn:n≠0) (hd:t.depth≠0) (hsN:s < N) (hsr:s≠r)
  (hok:takeOk r s 0 T=true):∃ L',Inv w0 L0 N vs (setAll T (takeE r s (.d none n t x) 0 T)) a w L':=by
 let kp:Nat→V→Bool:=fun z v=>z != s && z != r && v.on r
 have hI1:=Inv.killP hI (kp:=kp) (by
  unfold killOk
  rw [List.all_eq_true]
  intro b hb
  obtain ⟨i,hi⟩:=List.mem_iff_getElem?.1 hb
  simp only [List.getElem?_mapIdx,Option.map_eq_some_iff] at hi
  obtain ⟨v,hv,rfl⟩:=hi
  have hgv:T.getD i .dead=v:=by simp [List.getD_eq_getElem?_getD,hv]
  simp only [id_eq,Bool.or_eq_true]
  cases hroot:v.root with
  | none=>exact .inr rfl
  | some q =>
   dsimp only
   cases hk:kp q (T.getD q .dead) with
   | false=>exact .inr rfl
   | true =>
    right
    simp only [kp,Bool.and_eq_true,bne_iff_ne] at hk
    have:=takeOk_spec hok q (by simpa using hk.1.1) (by simpa using hk.1.2) hk.2
    rw [this]
    rfl)
 obtain ⟨L1,hI1⟩:=hI1
 have hg:∀ z,(killed kp T).getD z .dead=if kp z (T.getD z .dead)=true then .dead else T.getD z .dead:=getD_killed kp T
 have hs1:(killed kp T).getD s .dead = .view r [] t':=by rw [hg,if_neg (by simp [kp]),hs]
 have hr1:(killed kp T).getD r .dead = .d none n t x:=by rw [hg,if_neg (by simp [kp]),hr]
 have hno:noOn r s (killed kp T)=true:=by
  unfold noOn
  rw [List.all_eq_true]
  intro b hb
  obtain ⟨i,hi⟩:=List.mem_iff_getElem?.1 hb
  simp only [List.getElem?_mapIdx,Option.map_eq_some_iff] at hi
  obtain ⟨v,hv,rfl⟩:=hi
  have hgv:(killed kp T).getD i .dead=v:=by simp [List.getD_eq_getElem?_getD,hv]
  simp only [id_eq,Bool.or_eq_true,beq_iff_eq,bne_iff_ne]
  by_cases his:i=s
  ·exact .inl his
  ·right
   intro hroot
   rw [hg] at hgv
   split at hgv
   ·subst hgv; simp [V.root] at hroot
   ·rename_i hk
    by_cases hir:i=r
    ·subst hir
     rw [hr] at hgv
     subst hgv
     simp [V.root] at hroot
    ·apply hk
     rw [hgv]
     simp [kp,his,hir,V.on,hroot]
 have htt:t'=t:=by
  have hsl:=hI1.slots s
  rw [hs1] at hsl
  obtain ⟨hdp,hh⟩:=hsl
  rcases hh with ⟨_,_,l,n',x',h3,_⟩ | ⟨_,_,_,h,_⟩
  ·rw [hr1] at h3
   injection h3 with _ _ h3 _
   exact h3.symm
  ·rw [hr1] at h
   simp [V.isD] at h
 obtain ⟨L2,hI2⟩:=Inv.take hI1 (n:=n) (t:=t) (x:=x) (p:=[]) (log:=[]) (s:=s) (r:=r) (by rw [hs1,htt]) hsN (by rw [hr1]; exact ⟨rfl,rfl⟩) hn hd hno
 ·refine ⟨L2,?_⟩
  have hlk:(killed kp T).length=N:=hI1.len
  have:((killed kp T).set r .dead).set s (.d none n t x)=setAll T (takeE r s (.d none n t x) 0 T):=by
   refine list_ext (by rw [List.length_set,List.length_set,hlk,length_setAll,hI.len]) (fun z => ?_)
   rw [takeE_get hI.len hsN,getD_set,getD_set,hg]
   by_cases hz:z=s
   ·subst hz
    rw [if_pos ⟨rfl,by rw [List.length_set,hlk]; exact hsN⟩,if_pos rfl]
   ·rw [if_neg (fun e=>hz e.1),if_neg hz]
    by_cases hzr:z=r
    ·subst hzr
     have hzN:z < (killed kp T).length:=by
      apply Classical.byContradiction
      intro hge
      rw [getD_out (by rw [hI.len]; rw [hlk] at hge; omega)] at hr
      cases hr
     rw [if_pos ⟨rfl,hzN⟩,if_pos (.inl rfl)]
    ·rw [if_neg (fun e=>hzr e.1)]
     by_cases hon:(T.getD z .dead).on r=true
     ·have hk:kp z (T.getD z .dead)=true:=by
       show (z != s && z != r && (T.getD z .dead).on r)=true
       rw [hon]
       simp [hz,hzr]
      rw [if_pos hk,if_pos (.inr hon)]
     ·have hk:¬ kp z (T.getD z .dead)=true:=by
       show ¬ (z != s && z != r && (T.getD z .dead).on r)=true
       rw [Bool.not_eq_true] at hon
       rw [hon]
       simp
      rw [if_neg hk,if_neg (fun h=>h.elim hzr hon)]
  rw [← this]
  exact hI2
theorem withTake_runs [Glob] {w:World} {a:Act} {m:M (List (Nat×V))}:{ss:List Nat}→{T:List V}→{L:Nat→Lab}→{ups:List (Nat×V)}→{log:List Nat}→Inv w0 L0 N vs T a w L→(withTake N ss m).Runs T ups log →
  ∃ T1 L1 ups2 log2,Inv w0 L0 N vs T1 a w L1∧m.Runs T1 ups2 log2∧setAll T ups=setAll T1 ups2
 | [],T,L,ups,log,hI,h=>⟨T,L,ups,log,hI,h,rfl⟩
 | s::l,T,L,ups,log,hI,h=>by
  obtain ⟨log1,rfl,h⟩:=h
  dsimp only at h
  generalize hvs:T.getD s .dead=v at h
  split at h
  ·rename_i r t'
   obtain ⟨log2,rfl,h⟩:=h
   dsimp only at h
   generalize hur:T.getD r .dead=u at h
   split at h
   ·rename_i n t x
    split at h
    ·rename_i hc
     obtain ⟨hn,hd,hsN,hsr⟩:=hc
     obtain ⟨Ts,l1,l2,rfl,hall,hk,h⟩:=M.runs_bind h
     have hTs:Ts=T:=by rw [allM_runs hall (by rw [Nat.zero_add,hI.len])]; rfl
     subst hTs
     obtain ⟨ups2,l3,l4,rfl,h1,h2⟩:=M.runs_bind h
     obtain ⟨rfl,_⟩:=h2
     obtain ⟨log',h1⟩:=M.onT_runs h1
     obtain ⟨L',hI'⟩:=Inv.takeIt hI hvs hur hn hd hsN hsr hk
     obtain ⟨T1,L1,ups3,log3,k1,k2,k3⟩:=withTake_runs hI' h1
     exact ⟨T1,L1,ups3,log3,k1,k2,by rw [setAll_append]; exact k3⟩
    ·exact withTake_runs hI h
   ·exact withTake_runs hI h
  ·exact withTake_runs hI h
end
end Go.Proofs.YtkanidldnnfloaaGreat.P.Am
set_option linter.unusedVariables false
set_option linter.unusedSimpArgs false
namespace Go.Proofs.YtkanidldnnfloaaGreat.P.Am
def fieldBoxM (C:Ctx) (X:TypeId) (f t:Nat):M V :=
 .ask (boxKey t) (match aggOf C X with
  | some ta=>match compT f ta with
   | some (off,t1) => .ret (.ptr t [.fld f off] t1)
   | none => .fail
  | none => .fail)
section
variable {P:Program} {C:Ctx} {w w' w0:World} {S S':Nat→Prop} {L L' L0:Nat→Lab} {s N:Nat} {vs:List Nat} {T T':List V} {tm tm':Array Value} {a:Act}
theorem boxy_addr {v:V} {c:Value} (hs:SRep L T tm s v w c) (hb:v.boxy=true):∃ g,c = .pointer (some ⟨g,0,none⟩)∧L g = .own s []:=by
 cases v with
 | box l n t x =>
  obtain ⟨_,g,cur,e,h1,h2,_⟩:=hs
  exact ⟨g,h1,h2⟩
 | hole u p =>
  cases u with
  | box l n t x =>
   obtain ⟨_,_,_,_,_,_,_,h⟩:=hs
   obtain ⟨_,g,cur,e,h1,h2,_⟩:=h
   exact ⟨g,h1,h2⟩
  | _=>simp [V.boxy] at hb
 | odd k n t x =>
  unfold V.boxy at hb
  split at hb
  ·rename_i he; cases he
  ·rename_i he; cases he
  ·rename_i he
   cases he
   cases t with
   | agg t =>
    obtain ⟨g,cur,e,h1,h2,_⟩:=hs
    exact ⟨g,h1,h2⟩
   | _=>exact hs.elim
  ·cases hb
 | _=>simp [V.boxy] at hb
theorem pure_fieldBox [Glob] (hI:Inv w0 L0 N vs T a w L) (hC:CtxOk P C) {o:Oper} {X:TypeId} {t f d:Nat} {v:V} {log:List Nat} (ho:o.op = .fieldAddr X (.tmp t) f)
  (h:(fieldBoxM C X f t).Runs T v log) (hvs:∀ r,v.on r=true→r∈vs):PureRes P o vs T a w L d v:=by
 obtain ⟨⟨hq,_⟩,log',rfl,h⟩:=h
 obtain ⟨g,h1,h2⟩:=boxy_addr (hI.slots t) (ask_box hq)
 split at h
 ·rename_i ta hta
  split at h
  ·rename_i off t1 hc
   obtain ⟨rfl,_⟩:=h
   have h1':a.eval (.tmp t)=_:=h1
   refine PureRes.ptr hI (g:=g) ?_ h2 hvs
   simp [execOp,ho,h1',run_fieldAt hC hta hc,node]
  ·exact h.elim
 ·exact h.elim
def tkF (r:Nat) (q:List Nat) (o s:Nat):Nat→List Nat→Lab:=fun z q2 =>
 if z=r then match cut q q2 with
  | some (y::rest)=>if y=o then .own s (0::rest) else .own r q2
  | _ => .own r q2
 else if z=s then .other else .own z q2
theorem tkF_key [Glob] {r s:Nat} {q:List Nat} {o:Nat} {z:Nat} {q2:List Nat} {z':Nat} {q3:List Nat} (h:tkF r q o s z q2 = .own z' q3) :
  (z=r∧∃ rest,q2=q++o::rest∧z'=s∧q3=0::rest)∨(z=r∧z'=r∧q3=q2∧∀ rest,q2≠q++o::rest)∨(z≠r∧z≠s∧z'=z∧q3=q2):=by
 unfold tkF at h
 split at h
 ·rename_i hz
  split at h
  ·rename_i y rest hc
   split at h
   ·rename_i hy
    injection h with h1 h2
    subst hy
    exact .inl ⟨hz,rest,cut_some hc,h1.symm,h2.symm⟩
   ·rename_i hy
    injection h with h1 h2
    refine .inr (.inl ⟨hz,h1.symm,h2.symm,fun rest' he => ?_⟩)
    rw [he,cut_append] at hc
    simp only [Option.some.injEq,List.cons.injEq] at hc
    exact hy hc.1.symm
  ·rename_i hno
   injection h with h1 h2
   refine .inr (.inl ⟨hz,h1.symm,h2.symm,fun rest' he => ?_⟩)
   exact hno o rest' (by rw [he,cut_append])
 ·rename_i hz
  split at h
  ·cases h
  ·rename_i hs
   injection h with h1 h2
   exact .inr (.inr ⟨hz,hs,h1.symm,h2.symm⟩)
theorem tkF_fun [Glob] {r s:Nat} {q:List Nat} {o:Nat} {X:Nat→Prop} (hr:X r) (hs:X s) (hrs:r≠s):Fun (tkF r q o s) X:=by
 refine ⟨fun z q2 hX => ?_,fun z q2 z' q3 hX h => ?_,fun z q2 z2 q3 z' q4 h1 h2 => ?_,fun z q2 => ?_⟩
 ·unfold tkF
  rw [if_neg (fun e:z=r=>hX (e▸hr)),if_neg (fun e:z=s=>hX (e▸hs))]
 ·rcases tkF_key h with ⟨_,_,_,rfl,_⟩ | ⟨_,rfl,_⟩ | ⟨_,_,rfl,_⟩
  ·exact hs
  ·exact hr
  ·exact hX
 ·rcases tkF_key h1 with ⟨rfl,rest,rfl,rfl,rfl⟩ | ⟨rfl,rfl,rfl,hn⟩ | ⟨g1,g2,rfl,rfl⟩
  ·rcases tkF_key h2 with ⟨rfl,rest',rfl,_,he⟩ | ⟨rfl,he,_⟩ | ⟨_,g2,he,_⟩
   ·injection he with _ he
    exact ⟨rfl,by rw [he]⟩
   ·exact absurd he.symm hrs
   ·exact absurd he.symm g2
  ·rcases tkF_key h2 with ⟨_,rest',_,he,_⟩ | ⟨rfl,_,he,_⟩ | ⟨g1,_,he,_⟩
   ·exact absurd he hrs
   ·exact ⟨rfl,he⟩
   ·exact absurd he.symm g1
  ·rcases tkF_key h2 with ⟨_,rest',_,he,_⟩ | ⟨_,he,_⟩ | ⟨_,_,h3,h4⟩
   ·exact absurd he g2
   ·exact absurd he g1
   ·exact ⟨h3,h4⟩
 ·unfold tkF
  repeat' split
  all_goals simp
theorem tkF_at [Glob] {r s:Nat} {q:List Nat} {o:Nat} {rest:List Nat}:tkF r q o s r (q++o::rest) = .own s (0::rest):=by
 unfold tkF
 rw [if_pos rfl,cut_append]
 simp
theorem tkF_off [Glob] {r s:Nat} {q:List Nat} {o:Nat} {q2:List Nat} (h:∀ rest,q2≠q++o::rest):tkF r q o s r q2 = .own r q2:=by
 unfold tkF
 rw [if_pos rfl]
 split
 ·rename_i y rest hc
  split
  ·rename_i hy
   subst hy
   exact absurd (cut_some hc) (h rest)
  ·rfl
 ·rfl
theorem setCell_block {g o:Nat} {cur:Array Value} {e:TypeId} {v:Value} (h:w.heap[g]? = some (.cells cur e (0,0))):(w.setCell ⟨g,o,none⟩ v).heap[g]? = some (.cells (cur.setIfInBounds o v) e (0,0)):=by
 simp [World.setCell,Array.getElem?_modify,h]
theorem setCell_other {g o k:Nat} {v:Value} (h:k≠g):(w.setCell ⟨g,o,none⟩ v).heap[k]? = w.heap[k]? := by
 simp only [World.setCell,Array.getElem?_modify]
 rw [if_neg (Ne.symm h)]
theorem oddD_none {p:List St} {k n:Nat} {t:Ty} {x:t.den} {l:Option Nat} {z:D} {log:List Nat} (h:(oddD p k n t x).Runs T (l,z) log):l=none:=by
 unfold oddD at h
 split at h
 ·split at h
  ·obtain ⟨_,y,_,h⟩:=h
   obtain ⟨_,_,_,_,_,h⟩:=M.runs_bind h
   exact (Prod.mk.inj h.1).1
  ·exact h.elim
 ·split at h
  ·split at h
   ·obtain ⟨_,_,_,_,_,h⟩:=M.runs_bind h
    exact (Prod.mk.inj h.1).1
   ·exact h.elim
  ·exact h.elim
 ·exact h.elim
theorem rootD_lender {p:List St} {u:V} {l:Option Nat} {z:D} {log:List Nat} (h:(rootD p u).Runs T (l,z) log):u.root=l:=by
 cases u with
 | box l0 n t x =>
  obtain ⟨zz,l1,l2,rfl,h1,h2⟩:=M.runs_bind h
  obtain ⟨h2,_⟩:=h2
  cases h2
  rfl
 | d l0 n t x =>
  simp only [rootD] at h
  split at h
  ·obtain ⟨zz,l1,l2,rfl,h1,h2⟩:=M.runs_bind h
   obtain ⟨h2,_⟩:=h2
   cases h2
   rfl
  ·exact h.elim
 | dead=>exact h.elim
 | tup _=>exact h.elim
 | rp _ _ _=>exact h.elim
 | ptr _ _ _=>exact h.elim
 | view _ _ _=>exact h.elim
 | hole _ _=>exact h.elim
 | part _ _ _ _ _=>exact h.elim
 | odd _ _ _ _=>exact (oddD_none h).symm
 | same _ _=>exact h.elim
theorem Inv.takeHole [Glob] (hI:Inv w0 L0 N vs T a w L) {s r n:Nat} {p:List St} {u u':V} {e:TypeId} {te:Ty} {x:List te.den} {log log2:List Nat} (hs:T.getD s .dead = .view r p (.slice e te)) (hr:T.getD r .dead=u) (hu:u.boxy=true) (hsN:s < N) (hrN:r < N)
  (hz:(rootD p u).Runs T (none,⟨n,.slice e te,x⟩) log) (hm:(modRoot p u (.slice e te) []).Runs T u' log2) (hn:n≠0) (hbare:∀ z,z≠s→(T.getD z .dead).deepOn r=false) :
  ∃ L',Inv w0 L0 N vs ((T.set r (.hole u' p)).set s (.d none n (.slice e te) x)) a w L':=by
 have hroot:=rootD_lender hz
 obtain ⟨hrt,hown',hdeep',hisd'⟩:=modRoot_same hm
 have hsr:=hI.slots s
 rw [hs] at hsr
 have hrs:r≠s:=by
  rintro rfl
  rw [hs] at hr
  subst hr
  simp [V.boxy] at hu
 have hzv:(viewD p (T.getD r .dead)).Runs T (none,⟨n,.slice e te,x⟩) log:=by
  rw [hr]
  cases u with
  | box l0 n0 t0 x0=>exact hz
  | hole _ _=>exact hz
  | odd _ _ _ _=>exact hz
  | _=>simp [V.boxy] at hu
 obtain ⟨cs,hf,hown,_,hdp⟩:=view_own hI hsr hzv
 have hsl:=hI.slots r
 rw [hr] at hsl
 obtain ⟨hb,_,_,howns,hisd⟩:=rootD_inB hz hsl
 obtain ⟨g,cur,e',k1,k2,k3,k4⟩:=hb
 have hTs:((T.set r (.hole u' p)).set s (.d none n (.slice e te) x)).getD s .dead = .d none n (.slice e te) x:=by
  rw [getD_set,if_pos ⟨rfl,by simp [hI.len,hsN]⟩]
 have hTr:((T.set r (.hole u' p)).set s (.d none n (.slice e te) x)).getD r .dead = .hole u' p:=by
  rw [getD_set,if_neg (fun h=>hrs h.1),getD_set,if_pos ⟨rfl,by rw [hI.len]; exact hrN⟩]
 have hTo:∀ z,z≠r→z≠s→((T.set r (.hole u' p)).set s (.d none n (.slice e te) x)).getD z .dead=T.getD z .dead:=by
  intro z h1 h2
  rw [getD_set,if_neg (fun h=>h2 h.1),getD_set,if_neg (fun h=>h1 h.1)]
 have hptr:∀ z,z≠s→(T.getD z .dead).on r=true→∃ p' t',T.getD z .dead = .ptr r p' t'∧shallow p'=true:=by
  intro z hzs hon
  have hb:=hbare z hzs
  unfold V.deepOn at hb
  rw [hon,Bool.true_and] at hb
  generalize T.getD z .dead=v at hb hon
  cases v with
  | ptr r2 p2 t2 =>
   have:r2=r:=by simpa [V.on,V.root] using hon
   subst this
   exact ⟨p2,t2,rfl,by simpa using hb⟩
  | _=>simp at hb
 refine ⟨_,Inv.updF (f:=tkF r (node [] 0 p).1 (node [] 0 p).2 s) (X:=fun z=>z=r∨z=s∨(T.getD z .dead).on r=true) (nl:=fun _ => .free) hI (tkF_fun (.inl rfl) (.inr (.inl rfl)) hrs) (Wd.refl hI _) (fun _ _ _ _ _ h=>by cases h) hI.size (by simp [hI.len]) hI.dfr ?_ ?_ ?_ ?_ ?_⟩
 ·intro k z q hz' h
  by_cases h1:z=r
  ·subst h1; rw [hTr]; rfl
  ·by_cases h2:z=s
   ·subst h2; rw [hTs]; simp [V.owns,hn,Ty.depth]
   ·rw [hTo z h1 h2]
    unfold newLab at h
    split at h
    ·obtain ⟨s0,q0,e0,f0⟩:=relab_own h
     rcases tkF_key f0 with ⟨_,_,_,h3,_⟩ | ⟨_,h3,_⟩ | ⟨_,_,h3,h4⟩
     ·exact absurd h3 h2
     ·exact absurd h3 h1
     ·subst h3
      exact hI.owner k _ _ e0
    ·cases h
 ·intro z r' hz' hon hr'
  have hz':=not_or.1 hz'
  have hz2:=not_or.1 hz'.2
  rcases hr' with rfl | rfl | hr'
  ·exact absurd hon hz2.2
  ·rw [hs]; rfl
  ·by_cases h2:r'=s
   ·subst h2; rw [hs]; rfl
   ·obtain ⟨p',t',he,_⟩:=hptr r' h2 hr'
    rw [he]; rfl
 ·intro z hz'
  have hz':=not_or.1 hz'
  have hz2:=not_or.1 hz'.2
  exact ⟨hTo z hz'.1 hz2.1,rfl⟩
 ·intro z r' hz' hon
  by_cases h1:z=r
  ·subst h1
   rw [hTr] at hon
   simp [V.on,V.root,hrt,hroot] at hon
  ·by_cases h2:z=s
   ·subst h2; rw [hTs] at hon; simp [V.on,V.root] at hon
   ·rw [hTo z h1 h2] at hon
    exact hI.roots z r' hon
 ·intro z hz'
  by_cases h1:z=r
  ·subst h1
   rw [hTr]
   refine ⟨by rw [hrt,hroot],g,cur,e',?_,k2,by simp only [Ty.sz] at k3; omega,?_⟩
   ·rw [newLab_old hI (by rw [k1]; simp),k1]
    exact tkF_off (fun rest h=>by have:=congrArg List.length h; simp at this)
   ·refine modRoot_rep (T2:=_) (cur:=cur) (e':=e') (g':=g) (cur':=cur.setIfInBounds (node [] 0 p).2 (.slice none 0 0)) hsl hz hm (fun r' hr'=>by rw [hroot] at hr'; cases hr') ?_ ?_
    ·refine ⟨fun k hk => ?_,fun k q2 hk hq hun => ?_,k1,?_,k2,setCell_block k2,by simp,fun i hi => ?_,fun k hk=>hI.inj k g z _ hk k1⟩
     ·rw [hroot] at hk ⊢
      rcases hk with hk | ⟨_,_,hk,_⟩
      ·exact ⟨.inl (newLab_stable hI hk),setCell_other (by rintro rfl; rw [k1] at hk; cases hk)⟩
      ·cases hk
     ·refine ⟨?_,setCell_other (by rintro rfl; rw [k1] at hk; injection hk with _ hk; exact hq hk.symm)⟩
      rw [newLab_old hI (by rw [hk]; simp),hk]
      exact tkF_off (fun rest h=>hun ⟨0,rest,by simp [Ty.sz],by simpa using h⟩)
     ·rw [newLab_old hI (by rw [k1]; simp),k1]
      exact tkF_off (fun rest h=>by have:=congrArg List.length h; simp at this)
     ·rw [Array.getElem?_setIfInBounds,if_neg (by simp only [Ty.sz] at hi; omega)]
    ·have hc:((cur.setIfInBounds (node [] 0 p).2 (.slice none 0 0)).toList.drop (node [] 0 p).2).take (Ty.slice e te).sz=[.slice none 0 0]:=by
      simp only [Ty.sz] at k3 ⊢
      apply List.ext_getElem?
      intro i
      rw [List.getElem?_take]
      split
      ·obtain rfl:i=0:=by omega
       rw [List.getElem?_drop,Nat.add_zero,Array.getElem?_toList,Array.getElem?_setIfInBounds,if_pos rfl,if_pos (by omega)]
       rfl
      ·exact (List.getElem?_eq_none (by simp; omega)).symm
     rw [hc]
     cases n with
     | zero=>exact absurd rfl hn
     | succ n=>simp only [Own]; exact .inl (by constructor <;> first | trivial | rfl)
  ·by_cases h2:z=s
   ·subst h2
    rw [hTs]
    refine ⟨by simp,cs,hf,?_⟩
    refine Own.move (fun k hk => ?_) (fun k d rest hd hk=>⟨?_,rfl⟩) hown
    ·rcases hk with hk | ⟨_,_,hk,_⟩
     ·exact ⟨.inl (newLab_stable hI hk),rfl⟩
     ·cases hk
    ·simp only [Ty.sz] at hd
     obtain rfl:d=0:=by omega
     rw [newLab_old hI (by rw [hk]; simp),hk]
     simp only [relab,Nat.add_zero,Nat.zero_add,List.nil_append]
     exact tkF_at
   ·rw [hTo z h1 h2]
    have hon:(T.getD z .dead).on r=true:=by
     rcases hz' with h | h | h
     ·exact absurd h h1
     ·exact absurd h h2
     ·exact h
    obtain ⟨p',t',he,hsh⟩:=hptr z h2 hon
    have hsz:=hI.slots z
    rw [he] at hsz ⊢
    obtain ⟨g2,j1,j2⟩:=hsz
    refine ⟨g2,j1,?_⟩
    rw [shallow_node hsh] at j2 ⊢
    rw [newLab_old hI (by rw [j2]; simp),j2]
    exact tkF_off (fun rest h=>by have:=congrArg List.length h; simp at this)
end
end Go.Proofs.YtkanidldnnfloaaGreat.P.Am
set_option linter.unusedVariables false
set_option linter.unusedSimpArgs false
namespace Go.Proofs.YtkanidldnnfloaaGreat.P.Am
def stEq:List St→List St→Bool
 | [],[]=>true
 | .fld i o::p,.fld i' o'::p'=>i == i' && o == o' && stEq p p'
 | .idx s i::p,.idx s' i'::p'=>s == s' && i == i' && stEq p p'
 | _,_=>false
theorem stEq_eq:{p p':List St}→stEq p p'=true→p=p'
 | [],[],_=>rfl
 | .fld i o::p,.fld i' o'::p',h=>by
  simp only [stEq,Bool.and_eq_true,beq_iff_eq] at h
  rw [h.1.1,h.1.2,stEq_eq h.2]
 | .idx s i::p,.idx s' i'::p',h=>by
  simp only [stEq,Bool.and_eq_true,beq_iff_eq] at h
  rw [h.1.1,h.1.2,stEq_eq h.2]
 | [],.fld _ _::_,h | [],.idx _ _::_,h | .fld _ _::_,[],h | .idx _ _::_,[],h | .fld _ _::_,.idx _ _::_,h | .idx _ _::_,.fld _ _::_,h=>by simp [stEq] at h
def fillM (C:Ctx) (vs:List Nat) (N:Nat) (kids:List Nat) (X:TypeId) (r:Nat) (p:List St) (u:V) (p':List St) (x:Operand):M (List (Nat×V)) :=
 match x with
 | .tmp s=>if stEq p p'=true∧vs.contains s=false∧s≠r∧r < N then
   .get s fun v=>match v with
   | .d none k (.slice e te) y=>(rootD p u).bind fun z =>
    if h:z.2.t = .slice e te then
     if C.ty X=some (.slice e te)∧(z.2.n≤k∨te.depth+1≤k)∧z.2.n≠0∧z.1=none∧u.boxy=true then
      (modRoot p u (.slice e te) y).bind fun u2=>bareM false r s kids (.ret [(r,u2),(s,.dead)])
     else .fail
    else .fail
   | _ => .fail
  else .fail
 | _ => .fail
def M.calm {α:Type}:M α→Prop
 | .ret _=>True
 | .fail=>True
 | .get _ _=>False
 | .bnd _ _ k=>∀ x,(k x).calm
 | .chk _ k=>k.calm
 | .ask _ _=>False
 | .ite _ x y=>x.calm∧y.calm
theorem calm_runs {α:Type} {T T':List V}:{m:M α}→{a:α}→{log:List Nat}→m.calm→m.Runs T a log→m.Runs T' a log
 | .ret _,_,_,_,h=>h
 | .fail,_,_,_,h=>h.elim
 | .get _ _,_,_,c,_=>c.elim
 | .bnd _ _ k,a,log,c,⟨x,hx,h⟩=>⟨x,hx,calm_runs (c x) h⟩
 | .chk _ k,a,log,c,⟨hb,h⟩=>⟨hb,calm_runs (m:=k) c h⟩
 | .ask _ _,_,_,c,_=>c.elim
 | .ite _ x y,a,log,c,h=>by
  rcases h with ⟨hb,h⟩ | ⟨hb,h⟩
  ·exact .inl ⟨hb,calm_runs (m:=x) c.1 h⟩
  ·exact .inr ⟨hb,calm_runs (m:=y) c.2 h⟩
theorem calm_bind {α β:Type} {f:α→M β} (hf:∀ a,(f a).calm):{m:M α}→m.calm→(m.bind f).calm
 | .ret a,_=>hf a
 | .fail,_=>trivial
 | .get _ _,c=>c.elim
 | .bnd _ _ k,c=>fun x=>calm_bind hf (c x)
 | .chk _ k,c=>calm_bind (m:=k) hf c
 | .ask _ _,c=>c.elim
 | .ite _ x y,c=>⟨calm_bind (m:=x) hf c.1,calm_bind (m:=y) hf c.2⟩
theorem getP_calm:(p:List St)→(n:Nat)→(t:Ty)→(x:t.den)→(getP p n t x).calm
 | [],_,_,_=>trivial
 | .fld i off::p,n,.agg t,x=>by
  simp only [getP]
  split
  ·split
   ·exact getP_calm _ _ _ _
   ·trivial
  ·trivial
 | .idx sz i::p,n+1,.slice _ t,x=>by
  simp only [getP]
  split
  ·exact fun y=>getP_calm _ _ _ _
  ·trivial
 | .idx _ _::p,0,.slice _ _,_=>by simp only [getP]; trivial
 | .fld _ _::p,_,.int _,_ | .fld _ _::p,_,.bool,_ | .fld _ _::p,_,.str,_ | .fld _ _::p,_,.raw _,_ | .fld _ _::p,_,.unit,_ | .fld _ _::p,_,.pair _ _,_ | .fld _ _::p,_,.slice _ _,_=>by simp only [getP]; trivial
 | .idx _ _::p,_,.int _,_ | .idx _ _::p,_,.bool,_ | .idx _ _::p,_,.str,_ | .idx _ _::p,_,.raw _,_ | .idx _ _::p,_,.unit,_ | .idx _ _::p,_,.pair _ _,_ | .idx _ _::p,_,.agg _,_=>by simp only [getP]; trivial
theorem modC_calm [Glob] {f:(t1:Ty)→t1.den→M t1.den} (hf:∀ t1 x1,(f t1 x1).calm):(i:Nat)→(t:Ty)→(x:t.den)→(modC i t x f).calm
 | 0,.pair _ _,x=>by simp only [modC]; refine calm_bind ?_ (hf _ _); intro _; trivial
 | i+1,.pair _ b,x=>by simp only [modC]; refine calm_bind ?_ (modC_calm hf i b x.2); intro _; trivial
 | 0,.int _,x | 0,.bool,x | 0,.str,x | 0,.raw _,x | 0,.unit,x | 0,.agg _,x | 0,.slice _ _,x=>by simp only [modC]; exact hf _ _
 | _+1,.int _,x | _+1,.bool,x | _+1,.str,x | _+1,.raw _,x | _+1,.unit,x | _+1,.agg _,x | _+1,.slice _ _,x=>by simp only [modC]; trivial
theorem modP_calm [Glob]:(p:List St)→(t:Ty)→(x:t.den)→(t':Ty)→(y:t'.den)→(modP p t x t' y).calm
 | [],t,x,t',y=>by
  simp only [modP]
  split <;> trivial
 | .fld i off::p,.agg t,x,t',y=>by
  simp only [modP]
  split
  ·split
   ·exact modC_calm (fun t1 x1=>modP_calm p t1 x1 t' y) _ _ _
   ·trivial
  ·trivial
 | .idx sz i::p,.slice _ t,x,t',y=>by
  simp only [modP]
  split
  ·intro z
   refine calm_bind ?_ (modP_calm p t z t' y)
   intro _ _; trivial
  ·trivial
 | .fld _ _::p,.int _,_,_,_ | .fld _ _::p,.bool,_,_,_ | .fld _ _::p,.str,_,_,_ | .fld _ _::p,.raw _,_,_,_ | .fld _ _::p,.unit,_,_,_ | .fld _ _::p,.pair _ _,_,_,_ | .fld _ _::p,.slice _ _,_,_,_=>by simp only [modP]; trivial
 | .idx _ _::p,.int _,_,_,_ | .idx _ _::p,.bool,_,_,_ | .idx _ _::p,.str,_,_,_ | .idx _ _::p,.raw _,_,_,_ | .idx _ _::p,.unit,_,_,_ | .idx _ _::p,.pair _ _,_,_,_ | .idx _ _::p,.agg _,_,_,_=>by simp only [modP]; trivial
theorem oddD_calm [Glob] {p:List St} {k n:Nat} {t:Ty} {x:t.den}:(oddD p k n t x).calm:=by
 unfold oddD
 split
 ·split
  ·intro y; refine calm_bind ?_ (getP_calm _ _ _ _); intro _; trivial
  ·trivial
 ·split
  ·split
   ·refine calm_bind ?_ (getP_calm _ _ _ _); intro _; trivial
   ·trivial
  ·trivial
 ·trivial
theorem rootD_calm [Glob] {p:List St} (u:V):(rootD p u).calm:=by
 cases u with
 | box l n t x=>refine calm_bind ?_ (getP_calm _ _ _ _); intro _; trivial
 | d l n t x =>
  simp only [rootD]
  split
  ·(refine calm_bind ?_ (getP_calm _ _ _ _); intro _; trivial)
  ·trivial
 | odd k n t x=>exact oddD_calm
 | _=>trivial
theorem modRoot_calm [Glob] {p:List St} {t:Ty} {y:t.den} (u:V):(modRoot p u t y).calm:=by
 cases u with
 | box l n t x=>refine calm_bind ?_ (modP_calm _ _ _ _ _); intro _; trivial
 | d l n t x =>
  simp only [modRoot]
  split
  ·(refine calm_bind ?_ (modP_calm _ _ _ _ _); intro _; trivial)
  ·trivial
 | _=>trivial
section
variable {P:Program} {C:Ctx} {w w' w0:World} {S S':Nat→Prop} {L L' L0:Nat→Lab} {s N:Nat} {vs:List Nat} {T T':List V} {tm tm':Array Value} {a:Act}
theorem Inv.ghost [Glob] (hI:Inv w0 L0 N vs T a w L) {r:Nat} {p:List St} {u:V} (hr:T.getD r .dead = .hole u p) (hu:u.boxy=true) (hrN:r < N) (hbare:∀ z,(T.getD z .dead).deepOn r=false∨(T.getD z .dead).on r=false) :
  ∃ g cur e,L g = .own r (node [] 0 p).1∧w.heap[g]? = some (.cells cur e (0,0))∧(node [] 0 p).2 < cur.size∧u.root=none∧Inv w0 L0 N vs (T.set r u) a (w.setCell ⟨g,(node [] 0 p).2,none⟩ (.slice none 0 0)) L:=by
 have hs:=hI.slots r
 rw [hr] at hs
 obtain ⟨h0,g,cur,e,h1,h2,h3,h4⟩:=hs
 refine ⟨g,cur,e,h1,h2,h3,h0,?_⟩
 have hT:∀ z,(T.set r u).getD z .dead=if z=r∧r < T.length then u else T.getD z .dead:=fun z=>getD_set _ _ _ _ _
 have hTr:(T.set r u).getD r .dead=u:=by rw [hT,if_pos ⟨rfl,by rw [hI.len]; exact hrN⟩]
 have hown:u.owns=true:=by cases u <;> simp [V.boxy,V.owns] at hu ⊢
 have hkeep:∀ k,L k ≠ .own r (node [] 0 p).1→(w.setCell ⟨g,(node [] 0 p).2,none⟩ (.slice none 0 0)).heap[k]? = w.heap[k]? := fun k hk=>setCell_other (by rintro rfl; exact hk h1)
 refine Inv.upd (fun z=>z=r∨(T.getD z .dead).on r=true) hI hI.size (by simp [hI.len]) hI.dfr ?_ (fun k hk=>hI.free k (by simpa [World.setCell] using hk)) hI.inj ?_ ?_ ?_ ?_ ?_ ?_
 ·refine ⟨hI.fr.os,hI.fr.tape,hI.fr.output,by simpa [World.setCell] using hI.fr.size,hI.fr.drawn,fun k hk h => ?_,hI.fr.glob⟩
  obtain ⟨e1,e2⟩:=hI.fr.keep k hk h
  refine ⟨e1,?_⟩
  rw [hkeep k (by rw [e1]; rcases h with h | h <;> rw [h] <;> simp),e2]
 ·intro k z q hk
  rw [hT]
  split
  ·exact hown
  ·exact hI.owner k z q hk
 ·intro z hz k hk
  refine ⟨rfl,hkeep k (fun he => ?_)⟩
  have hz:=not_or.1 hz
  rcases hk with hk | ⟨r',q,hk,hr'⟩
  ·rw [he] at hk; cases hk
  ·rw [he] at hk
   injection hk with hk _
   subst hk
   rcases hr' with hr' | hr'
   ·exact hz.1 hr'.symm
   ·exact hz.2 hr'
 ·intro z hz
  have hz:=not_or.1 hz
  exact ⟨by rw [hT,if_neg (fun h=>hz.1 h.1)],rfl⟩
 ·intro z r' hon
  rw [hT] at hon
  split at hon
  ·simp [V.on,h0] at hon
  ·exact hI.roots z r' hon
 ·intro z r' hz hon _
  have hz:=not_or.1 hz
  refine ⟨by rw [hT,if_neg (fun h=>hz.2 (by rw [← h.1]; exact hon))],rfl⟩
 ·intro z hz
  by_cases hzr:z=r
  ·subst hzr
   rw [hTr]
   exact SRep.keep (L':=L) (T':=T.set z u) (tm':=a.tmps) (fun k _=>⟨rfl,rfl⟩) (fun r' hr' _=>by simp [V.on,h0] at hr') h4
  ·have hon:(T.getD z .dead).on r=true:=hz.resolve_left hzr
   rw [hT,if_neg (fun h=>hzr h.1)]
   have hd:=(hbare z).resolve_right (by rw [hon]; simp)
   unfold V.deepOn at hd
   rw [hon,Bool.true_and] at hd
   have hsz:=hI.slots z
   generalize T.getD z .dead=v at hd hsz hon
   cases v with
   | ptr r2 p2 t2=>exact hsz
   | _=>simp at hd
theorem set_setCell [Glob] {g o:Nat} {cur:Array Value} {e:TypeId} {v c:Value} (hg:w.heap[g]? = some (.cells cur e (0,0))) (ho:o < cur.size) :
  (w.setCell ⟨g,o,none⟩ v).setRow g (putCells (cur.setIfInBounds o v) o [c])=w.setRow g (putCells cur o [c]):=by
 have hp:putCells (cur.setIfInBounds o v) o [c]=putCells cur o [c]:=by
  apply Array.ext_getElem?
  intro i
  by_cases hi:i=o
  ·subst hi
   have e1:=putCells_at (cur:=cur.setIfInBounds i v) (o:=i) (cs:=[c]) (by simp; omega)
   have e2:=putCells_at (cur:=cur) (o:=i) (cs:=[c]) (by simp; omega)
   have e3:=e1.trans e2.symm
   have:=congrArg (fun l=>l[0]?) e3
   simpa [List.getElem?_take,List.getElem?_drop] using this
  ·rw [putCells_out (by simp; omega) i (by simp; omega),putCells_out (by simp; omega) i (by simp; omega),Array.getElem?_setIfInBounds,if_neg (Ne.symm hi)]
 have hh:((w.setCell ⟨g,o,none⟩ v).setRow g (putCells (cur.setIfInBounds o v) o [c])).heap=(w.setRow g (putCells cur o [c])).heap:=by
  rw [hp]
  apply Array.ext_getElem?
  intro i
  by_cases hi:i=g
  ·subst hi
   rw [setRow_heap _ i _ _ _ _ (setCell_block hg),setRow_heap _ i _ _ _ _ hg]
  ·rw [setRow_other _ g i _ hi,setRow_other _ g i _ hi,setCell_other hi]
 calc (w.setCell ⟨g,o,none⟩ v).setRow g (putCells (cur.setIfInBounds o v) o [c])
   = { w.setRow g (putCells cur o [c]) with heap:=((w.setCell ⟨g,o,none⟩ v).setRow g (putCells (cur.setIfInBounds o v) o [c])).heap }:=rfl
  _={ w.setRow g (putCells cur o [c]) with heap:=(w.setRow g (putCells cur o [c])).heap }:=by rw [hh]
  _=w.setRow g (putCells cur o [c]):=rfl
theorem step_fill [Glob] (hI:Inv w0 L0 N vs T a w L) (hC:CtxOk P C) {o:Oper} {X:TypeId} {t r:Nat} {kids:List Nat} {p p':List St} {u:V} {x:Operand} {ups:List (Nat×V)} {log:List Nat} (ho:o.op = .store X (.tmp t) x) (hdst:o.dst=none)
  (ht:addrOf t (T.getD t .dead)=some (r,p)) (hev:∀ r p,addrOf t (T.getD t .dead)=some (r,p)→∃ g,a.eval (.tmp t) = .pointer (some ⟨g,(node [] 0 p).2,none⟩)∧L g = .own r (node [] 0 p).1)
  (hr:T.getD r .dead = .hole u p') (h:(fillM C vs N kids X r p u p' x).Runs T ups log):Step P o w0 L0 N vs (setAll T ups) a w:=by
 cases x with
 | tmp s =>
  simp only [fillM] at h
  split at h
  ·rename_i hc
   obtain ⟨hpp,hsv,hsr,hrN⟩:=hc
   obtain rfl:=stEq_eq hpp
   obtain ⟨log1,rfl,h⟩:=h
   dsimp only at h
   generalize hvs:T.getD s .dead=v at h
   split at h
   ·rename_i k e te y
    obtain ⟨⟨l,n',t',x'⟩,l1,l2,rfl,hz,h⟩:=M.runs_bind h
    dsimp only at h
    split at h
    ·rename_i ht'
     subst ht'
     split at h
     ·rename_i hcc
      obtain ⟨hX,hnk,hn0,rfl,hub⟩:=hcc
      obtain ⟨u2,l3,l4,rfl,hm,h⟩:=M.runs_bind h
      obtain ⟨hbare,log2,h⟩:=bareM_runs h
      obtain ⟨rfl,_⟩:=h
      have hbare':∀ z,(T.getD z .dead).deepOn r=false∨(T.getD z .dead).on r=false:=by
       intro z
       by_cases hzs:z=s
       ·right; rw [hzs,hvs]; rfl
       ·exact .inl (hbare z hzs)
      obtain ⟨g,cur,e2,g1,g2,g3,hroot,hI1⟩:=Inv.ghost hI hr hub hrN hbare'
      obtain ⟨g',hev1,hg'⟩:=hev r p ht
      obtain rfl:=hI.inj g g' r _ g1 hg'
      have hT1:∀ z,z≠r→(T.set r u).getD z .dead=T.getD z .dead:=fun z hz=>by rw [getD_set,if_neg (fun h=>hz h.1)]
      have hT1r:(T.set r u).getD r .dead=u:=by rw [getD_set,if_pos ⟨rfl,by rw [hI.len]; exact hrN⟩]
      have hss:=hI.slots s
      rw [hvs] at hss
      obtain ⟨_,cs,hf,hown⟩:=hss
      have hf:cs=[a.tmps.getD s undef]:=hf
      have hone:=Own.one hown
      have hrun:(execOp a.eval o).run P w = .ok .skip (w.setRow g (putCells cur (node [] 0 p).2 cs)):=by
       have hst:=run_store_cells (P:=P) (w:=w) (o:=(node [] 0 p).2) (hC X _ hX) g2 (show Form (.slice e te) cs (a.eval (.tmp s)) from hf) hone (Own.len hown) (by simp only [Ty.sz]; omega)
       simp [execOp,ho,hev1,hst]
      have hlen:cs.length=1:=by rw [hf]; rfl
      have hworld:(w.setCell ⟨g,(node [] 0 p).2,none⟩ (.slice none 0 0)).setRow g (putCells (cur.setIfInBounds (node [] 0 p).2 (.slice none 0 0)) (node [] 0 p).2 cs)=w.setRow g (putCells cur (node [] 0 p).2 cs):=by
       rw [hf]; exact set_setCell g2 g3
      intro K Q hK
      unfold Oper.wp
      rw [hrun,Oper.upon_skip,hdst,← hworld]
      have hlenT:(setAll T [(r,u2),(s,V.dead)]).length=N:=by rw [length_setAll,hI.len]
      have hsN:s < N:=by
       rcases Nat.lt_or_ge s N with h | h
       ·exact h
       ·rw [getD_out (by rw [hI.len]; exact h)] at hvs; cases hvs
      have hTs:(setAll T [(r,u2),(s,V.dead)]).getD s .dead = .dead:=by
       show ((T.set r u2).set s .dead).getD s .dead = .dead
       rw [getD_set,if_pos ⟨rfl,by simp [hI.len,hsN]⟩]
      have hTr:(setAll T [(r,u2),(s,V.dead)]).getD r .dead=u2:=by
       show ((T.set r u2).set s .dead).getD r .dead=u2
       rw [getD_set,if_neg (fun h=>hsr h.1.symm),getD_set,if_pos ⟨rfl,by rw [hI.len]; exact hrN⟩]
      have hTo:∀ z,z≠r→z≠s→(setAll T [(r,u2),(s,V.dead)]).getD z .dead=T.getD z .dead:=by
       intro z h1 h2
       show ((T.set r u2).set s .dead).getD z .dead=_
       rw [getD_set,if_neg (fun h=>h2 h.1),getD_set,if_neg (fun h=>h1 h.1)]
      have hz1:(rootD p u).Runs (T.set r u) (none,⟨n',.slice e te,x'⟩) l1:=calm_runs (rootD_calm u) hz
      have hm1:(modRoot p u (.slice e te) y).Runs (T.set r u) u2 l3:=calm_runs (modRoot_calm u) hm
      refine hK a _ _ (Inv.store (m:=n') (src:=some s) hI1 hT1r hz1 hm1 (by rw [hroot]; simp) g1 (setCell_block g2) (by simp only [Ty.sz,Array.size_setIfInBounds]; omega) (by rw [hlen]; rfl) ?_ hlenT hTr ?_ ?_ ?_)
      ·intro s' hs'
       injection hs' with hs'
       subst hs'
       have hnv:s ∉ vs:=fun hm'=>by
        rw [List.contains_iff_mem.2 hm'] at hsv
        cases hsv
       exact ⟨hsr,hnv,hTs,by rw [hT1 s hsr,hvs]; rfl⟩
      ·intro z h1 h2 hon
       have h2':z≠s:=fun e=>h2 (by rw [e])
       rw [hT1 z h1] at hon ⊢
       refine .inr ⟨hTo z h1 h2',.inl ?_⟩
       have hd:=(hbare' z).resolve_right (by rw [hon]; simp)
       unfold V.deepOn at hd
       rw [hon,Bool.true_and] at hd
       generalize T.getD z .dead=v at hd
       cases v with
       | ptr r2 p2 t2 =>
        have:u.isD=false:=by cases u <;> simp [V.boxy,V.isD] at hub ⊢
        simp only [keepable,this,Bool.not_false,Bool.and_true,Bool.or_eq_true]
        exact .inr (by simpa using hd)
       | _=>simp at hd
      ·intro z h1 h2 hon
       rw [hT1 z h1]
       exact hTo z h1 (fun e=>h2 (by rw [e]))
      ·obtain ⟨k9,c9,how9⟩:=Own.atLeast (t := .slice e te) hnk hown
       refine Own.moveLow c9 (fun k hk => ?_) (fun k d rest hd hk => ?_) how9
       ·rcases hk with hk | ⟨_,_,hk,_⟩
        ·refine ⟨.inl (newLab_stable hI1 hk),?_⟩
         rw [setRow_other _ g k _ (by rintro rfl; rw [g1] at hk; cases hk),setCell_other (by rintro rfl; rw [g1] at hk; cases hk)]
        ·cases hk
       ·have hk':L k = .own s (d::rest):=by simpa using hk
        have hkg:k≠g:=by rintro rfl; rw [g1] at hk'; injection hk' with hk' _; exact hsr hk'.symm
        have hlab:newLab (stF r (node [] 0 p).1 (node [] 0 p).2 (Ty.slice e te).sz n' (some s)) (w.setCell ⟨g,(node [] 0 p).2,none⟩ (.slice none 0 0)) L (fun _ => .free) k=if rest.length < n' then .own r ((node [] 0 p).1++((node [] 0 p).2+d)::rest) else .stable:=by
         rw [newLab_old hI1 (by rw [hk']; simp),hk']
         simp only [relab,stF]
         rw [if_neg hsr,if_pos trivial,if_pos hd]
        refine ⟨by rw [setRow_other _ g k _ hkg,setCell_other hkg],fun h=>by rw [hlab,if_pos h],fun h => .inl (by rw [hlab,if_neg (by omega)])⟩
     ·exact h.elim
    ·exact h.elim
   ·exact h.elim
  ·exact h.elim
 | const c=>exact h.elim
 | func f=>exact h.elim
 | global g=>exact h.elim
end
end Go.Proofs.YtkanidldnnfloaaGreat.P.Am
set_option linter.unusedVariables false
set_option linter.constructorNameAsVariable false
set_option linter.unusedSimpArgs false
namespace Go.Proofs.YtkanidldnnfloaaGreat.P.Am
def lookO:List (Nat×V)→Nat→Option V
 | [],_=>none
 | u::l,s=>cond (u.1 == s) (some u.2) (lookO l s)
def addM (q:Nat) (l:List Nat):Nat:=tagK+(2*((q - tagK) / 2 % 100000+100000*((q - tagK) / 2 / 100000 ||| maskOf false l))+1)
def M.over {α:Type} (ov:List (Nat×V)):M α→M α
 | .ret a => .ret a
 | .fail => .fail
 | .get s k=>match lookO ov s with
  | some v=>(k v).over ov
  | none => .get s fun v=>(k v).over ov
 | .bnd t m k => .bnd t m fun x=>(k x).over ov
 | .chk b k => .chk b (k.over ov)
 | .ask q k=>cond ((q - tagK) % 2 == 0)
   (match lookO ov ((q - tagK) / 2) with
    | some v => .chk (v.boxy && decide (tagK≤q)) (k.over ov)
    | none => .ask q (k.over ov))
   (.chk ((ov.all fun u=>qok q u.1 u.2) && decide (tagK≤q)) (.ask (addM q (ov.map (·.1))) (k.over ov)))
 | .ite b x y => .ite b (x.over ov) (y.over ov)
theorem lookO_mem {ov:List (Nat×V)} {s:Nat} {v:V} (h:lookO ov s=some v):(s,v)∈ov:=by
 induction ov with
 | nil=>cases h
 | cons u l ih =>
  simp only [lookO] at h
  cases hu:(u.1 == s) with
  | true =>
   rw [hu] at h
   simp only [cond_true,Option.some.injEq] at h
   obtain ⟨u1,u2⟩:=u
   simp only [beq_iff_eq] at hu
   subst hu h
   simp
  | false =>
   rw [hu] at h
   exact List.mem_cons_of_mem _ (ih h)
theorem lookO_none {ov:List (Nat×V)} {s:Nat} (h:lookO ov s=none):s ∉ ov.map (·.1):=by
 induction ov with
 | nil=>simp
 | cons u l ih =>
  simp only [lookO] at h
  cases hu:(u.1 == s) with
  | true=>rw [hu] at h; cases h
  | false =>
   rw [hu] at h
   simp only [List.map_cons,List.mem_cons,not_or]
   exact ⟨fun e=>by rw [e] at hu; simp at hu,ih h⟩
theorem odd_of {x:Nat} (h:(x % 2 == 0)=false):x % 2=1:=by
 rw [beq_eq_false_iff_ne] at h
 omega
theorem pay {r mm:Nat} (hr:r < 100000):(2*(r+100000*mm)+1) % 2=1∧(2*(r+100000*mm)+1) / 2=r+100000*mm∧(r+100000*mm) / 100000=mm∧(r+100000*mm) % 100000=r:=by
 refine ⟨?_,?_,?_,?_⟩ <;> omega
theorem addM_sub (q:Nat) (l:List Nat):addM q l - tagK=2*((q - tagK) / 2 % 100000+100000*((q - tagK) / 2 / 100000 ||| maskOf false l))+1:=Nat.add_sub_cancel_left _ _
theorem over_box {T T':List V} {ov:List (Nat×V)} {q:Nat} (hl:T'.length=T.length) (hq:(q - tagK) % 2=0) (hb:(T'.getD ((q - tagK) / 2) .dead).boxy=true) (hlt:(q - tagK) / 2 < T.length):askOk q T'=true:=by
 unfold askOk
 rw [Bool.and_eq_true]
 refine ⟨allQ_of fun s hs => ?_,Bool.or_eq_true_iff.2 (.inr (decide_eq_true (by rw [hl]; exact hlt)))⟩
 unfold qok
 rw [hq,Nat.zero_add]
 by_cases he:s=(q - tagK) / 2
 ·rw [he,hb,Bool.or_true]; rfl
 ·have:(s != (q - tagK) / 2)=true:=bne_iff_ne.2 he
  rw [this,Bool.true_or]; rfl
theorem over_bare [Glob] {T T':List V} {ov:List (Nat×V)} {q:Nat} (hl:T'.length=T.length) (hT:∀ s,T'.getD s .dead=(lookO ov s).getD (T.getD s .dead)) (hq1:(q - tagK) % 2=1) (hov:∀ u∈ov,qok q u.1 u.2=true) (hb:askOk (addM q (ov.map (·.1))) T=true):askOk q T'=true:=by
 have e:=addM_sub q (ov.map (·.1))
 have hr:(q - tagK) / 2 % 100000 < 100000:=Nat.mod_lt _ (Nat.zero_lt_succ 99999)
 generalize hm:((q - tagK) / 2 / 100000 ||| maskOf false (ov.map (·.1)))=mm at e
 obtain ⟨e1,e2,e3,e4⟩:=pay (mm:=mm) hr
 unfold askOk at hb ⊢
 rw [Bool.and_eq_true] at hb ⊢
 refine ⟨allQ_of fun s hs => ?_,Bool.or_eq_true_iff.2 (.inl (beq_iff_eq.2 hq1))⟩
 rw [Nat.zero_add,hT]
 cases hv:lookO ov s with
 | some v=>exact hov (s,v) (lookO_mem hv)
 | none =>
  have hs2:s < T.length:=by omega
  have:=allQ_get hb.1 s hs2
  unfold qok at this ⊢
  rw [e,e1,e2,e3,e4,Nat.zero_add] at this
  rw [hq1]
  simp only [Option.getD_none]
  have hbit:mm.testBit (s+1)=((q - tagK) / 2 / 100000).testBit (s+1):=by
   rw [← hm,Nat.testBit_or,maskOf_bit (lookO_none hv),Bool.or_false]
  have hbit0:mm.testBit 0=((q - tagK) / 2 / 100000).testBit 0:=by
   rw [← hm,Nat.testBit_or,maskOf_zero,Bool.or_false]
  rw [hbit,hbit0,show ((1:Nat) == 0)=false from rfl,cond_false] at this
  rw [show ((1:Nat) == 0)=false from rfl,cond_false]
  exact this
theorem over_runs [Glob] {α:Type} {T T':List V} {ov:List (Nat×V)} (hl:T'.length=T.length) (hin:∀ s,s∈ov.map (·.1)→s < T.length) (hT:∀ s,T'.getD s .dead=(lookO ov s).getD (T.getD s .dead)) (m:M α) :
  ∀ {a:α} {log:List Nat},(m.over ov).Runs T a log→∃ log',m.Runs T' a log':=by
 induction m with
 | ret _=>intro a log h; exact ⟨[],h.1,rfl⟩
 | fail=>intro a log h; exact h.elim
 | get s k ih =>
  intro a log h
  simp only [M.over] at h
  have hs:=hT s
  split at h
  ·rename_i v hv
   rw [hv] at hs
   obtain ⟨log',h⟩:=ih v h
   exact ⟨s::log',log',rfl,by rw [hs]; exact h⟩
  ·rename_i hv
   rw [hv] at hs
   obtain ⟨l1,rfl,h⟩:=h
   obtain ⟨log',h⟩:=ih _ h
   exact ⟨s::log',log',rfl,by rw [hs]; exact h⟩
 | bnd _ _ k ih =>
  intro a log h
  obtain ⟨x,hx,h⟩:=h
  obtain ⟨log',h⟩:=ih x h
  exact ⟨log',x,hx,h⟩
 | chk _ k ih =>
  intro a log h
  obtain ⟨hb,h⟩:=h
  obtain ⟨log',h⟩:=ih h
  exact ⟨log',hb,h⟩
 | ite _ x y ihx ihy =>
  intro a log h
  rcases h with ⟨hb,h⟩ | ⟨hb,h⟩
  ·obtain ⟨log',h⟩:=ihx h
   exact ⟨log',.inl ⟨hb,h⟩⟩
  ·obtain ⟨log',h⟩:=ihy h
   exact ⟨log',.inr ⟨hb,h⟩⟩
 | ask q k ih =>
  intro a log h
  simp only [M.over] at h
  cases hq:((q - tagK) % 2 == 0) with
  | true =>
   rw [hq] at h
   simp only [cond_true] at h
   simp only [beq_iff_eq] at hq
   split at h
   ·rename_i v hv
    obtain ⟨hb,h⟩:=h
    simp only [Bool.and_eq_true,decide_eq_true_eq] at hb
    obtain ⟨log',h⟩:=ih h
    exact ⟨q::log',⟨over_box (ov:=ov) hl hq (by rw [hT,hv]; exact hb.1) (hin _ (List.mem_map_of_mem (f:=(·.1)) (lookO_mem hv))),hb.2⟩,log',rfl,h⟩
   ·rename_i hv
    obtain ⟨⟨hb,hk⟩,l1,rfl,h⟩:=h
    obtain ⟨log',h⟩:=ih h
    unfold askOk at hb
    rw [Bool.and_eq_true,hq] at hb
    have hlt:(q - tagK) / 2 < T.length:=by simpa using hb.2
    have:=allQ_get hb.1 _ hlt
    unfold qok at this
    rw [hq,Nat.zero_add] at this
    exact ⟨q::log',⟨over_box (ov:=ov) hl hq (by rw [hT,hv]; simpa using this) hlt,hk⟩,log',rfl,h⟩
  | false =>
   rw [hq] at h
   obtain ⟨hov,⟨hb,hk⟩,l1,rfl,h⟩:=h
   simp only [Bool.and_eq_true,decide_eq_true_eq,List.all_eq_true] at hov
   obtain ⟨log',h⟩:=ih h
   have hq1:=odd_of hq
   exact ⟨q::log',⟨over_bare hl hT hq1 hov.1 hb,hov.2⟩,log',rfl,h⟩
def boxTake (N:Nat) (kids:List Nat) (s r:Nat) (p:List St) (t':Ty) (u:V) (m:M (List (Nat×V))):M (List (Nat×V)) :=
 (rootD p u).bind fun z=>match z with
  | (none,⟨n,t,x⟩) =>
   if n≠0∧t.depth≠0∧s < N∧r < N∧s≠r∧t=t' then
    match p with
    | []=>bareM true r s kids ((m.over [(r,.dead),(s,.d none n t x)]).bind fun ups => .ret ((r,.dead)::(s,.d none n t x)::ups))
    | _::_=>match t,x with
     | .slice e te,x=>(modRoot p u (.slice e te) []).bind fun u'=>bareM false r s kids ((m.over [(r,.hole u' p),(s,.d none n (.slice e te) x)]).bind fun ups => .ret ((r,.hole u' p)::(s,.d none n (.slice e te) x)::ups))
     | _,_=>m
   else m
  | _=>m
def takeFor (N:Nat) (kids:Nat→List Nat):List Nat→M (List (Nat×V))→M (List (Nat×V))
 | [],m=>m
 | s::l,m => .get s fun v=>match v with
  | .view r p t => .get r fun u=>match u with
   | .d _ _ _ _=>match p with
    | []=>withTake N [s] (takeFor N kids l m)
    | _::_=>takeFor N kids l m
   | .box _ _ _ _=>boxTake N (kids r) s r p t u (takeFor N kids l m)
   | _=>takeFor N kids l m
  | _=>takeFor N kids l m
section
variable {P:Program} {C:Ctx} {w w' w0:World} {S S':Nat→Prop} {L L' L0:Nat→Lab} {s N:Nat} {vs:List Nat} {T T':List V} {tm tm':Array Value} {a:Act}
theorem two_look [Glob] {r s:Nat} {v1 v2:V} (hrs:s≠r) (hr:r < T.length) (hs:s < T.length):(∀ z,((T.set r v1).set s v2).getD z .dead=(lookO [(r,v1),(s,v2)] z).getD (T.getD z .dead))∧∀ z,z∈[(r,v1),(s,v2)].map (·.1)→z < T.length:=by
 refine ⟨fun z => ?_,fun z hz => ?_⟩
 ·simp only [lookO]
  rw [getD_set,getD_set]
  by_cases h1:z=r
  ·subst h1
   simp [hrs.symm,hr]
  ·have e1:(r == z)=false:=by simpa using Ne.symm h1
   by_cases h2:z=s
   ·subst h2
    rw [e1]
    simp [hs]
   ·have e2:(s == z)=false:=by simpa using Ne.symm h2
    rw [e1,e2]
    simp [h1,h2]
 ·simp only [List.map_cons,List.map_nil,List.mem_cons,List.not_mem_nil,or_false] at hz
  rcases hz with rfl | rfl
  ·exact hr
  ·exact hs
theorem boxTake_runs [Glob] {m:M (List (Nat×V))} {kids:List Nat} {r:Nat} {p:List St} {t':Ty} {u:V} {ups:List (Nat×V)} {log:List Nat} (hI:Inv w0 L0 N vs T a w L) (hs:T.getD s .dead = .view r p t') (hr:T.getD r .dead=u) (hbox:∃ l n t x,u = .box l n t x)
  (h0:(boxTake N kids s r p t' u m).Runs T ups log):∃ T1 L1 ups2 log2,Inv w0 L0 N vs T1 a w L1∧m.Runs T1 ups2 log2∧setAll T ups=setAll T1 ups2:=by
 obtain ⟨z,l1,l2,rfl,hz,h⟩:=M.runs_bind h0
 obtain ⟨l,n,t,x⟩:=z
 have hsame:∀ {log},m.Runs T ups log→∃ T1 L1 ups2 log2,Inv w0 L0 N vs T1 a w L1∧m.Runs T1 ups2 log2∧setAll T ups=setAll T1 ups2:=fun h=>⟨T,L,ups,_,hI,h,rfl⟩
 have hu:u.boxy=true:=by obtain ⟨l0,n0,t0,x0,rfl⟩:=hbox; rfl
 cases l with
 | some _=>exact hsame h
 | none =>
  dsimp only at h
  split at h
  ·rename_i hc
   obtain ⟨hn,hd,hsN,hrN,hsr,rfl⟩:=hc
   have hTl:T.length=N:=hI.len
   cases p with
   | nil =>
    obtain ⟨hbare,log2,h⟩:=bareM_runs h
    obtain ⟨ups2,l3,l4,rfl,h1,h2⟩:=M.runs_bind h
    obtain ⟨rfl,_⟩:=h2
    obtain ⟨hlook,hin⟩:=two_look (T:=T) (v1 := .dead) (v2 := .d none n t x) hsr (by omega) (by omega)
    obtain ⟨log3,h1⟩:=over_runs (T':=(T.set r .dead).set s (.d none n t x)) (by simp) hin hlook m h1
    have hvd:(viewD [] (T.getD r .dead)).Runs T (none,⟨n,t,x⟩) l1:=by
     rw [hr]
     obtain ⟨l0,n0,t0,x0,rfl⟩:=hbox
     exact hz
    have hno:noOn r s T=true:=by
     unfold noOn
     rw [List.all_eq_true]
     intro b hb
     obtain ⟨i,hi⟩:=List.mem_iff_getElem?.1 hb
     simp only [List.getElem?_mapIdx,Option.map_eq_some_iff] at hi
     obtain ⟨v,hv,rfl⟩:=hi
     have hgv:T.getD i .dead=v:=by simp [List.getD_eq_getElem?_getD,hv]
     simp only [id_eq,Bool.or_eq_true,beq_iff_eq,bne_iff_ne]
     by_cases his:i=s
     ·exact .inl his
     ·right
      have:=hbare i his
      rw [hgv] at this
      simpa [V.on] using this
    obtain ⟨L',hI'⟩:=Inv.take hI hs hsN hvd hn hd hno
    exact ⟨_,L',ups2,log3,hI',h1,rfl⟩
   | cons st p =>
    dsimp only at h
    split at h
    ·rename_i e te x
     obtain ⟨u',l3,l4,rfl,hm,h⟩:=M.runs_bind h
     obtain ⟨hbare,log2,h⟩:=bareM_runs h
     obtain ⟨ups2,l5,l6,rfl,h1,h2⟩:=M.runs_bind h
     obtain ⟨rfl,_⟩:=h2
     obtain ⟨hlook,hin⟩:=two_look (T:=T) (v1 := .hole u' (st::p)) (v2 := .d none n (.slice e te) x) hsr (by omega) (by omega)
     obtain ⟨log3,h1⟩:=over_runs (T':=(T.set r (.hole u' (st::p))).set s (.d none n (.slice e te) x)) (by simp) hin hlook m h1
     obtain ⟨L',hI'⟩:=Inv.takeHole hI hs hr hu hsN hrN hz hm hn hbare
     exact ⟨_,L',ups2,log3,hI',h1,rfl⟩
    ·exact hsame h
  ·exact hsame h
theorem takeFor_runs [Glob] {w:World} {a:Act} {m:M (List (Nat×V))} {kids:Nat→List Nat}:{ss:List Nat}→{T:List V}→{L:Nat→Lab}→{ups:List (Nat×V)}→{log:List Nat}→Inv w0 L0 N vs T a w L→(takeFor N kids ss m).Runs T ups log →
  ∃ T1 L1 ups2 log2,Inv w0 L0 N vs T1 a w L1∧m.Runs T1 ups2 log2∧setAll T ups=setAll T1 ups2
 | [],T,L,ups,log,hI,h=>⟨T,L,ups,log,hI,h,rfl⟩
 | s::l,T,L,ups,log,hI,h=>by
  obtain ⟨log1,rfl,h⟩:=h
  dsimp only at h
  generalize hvs:T.getD s .dead=v at h
  split at h
  ·rename_i r p t'
   obtain ⟨log2,rfl,h⟩:=h
   dsimp only at h
   generalize hur:T.getD r .dead=u at h
   split at h
   ·split at h
    ·obtain ⟨T1,L1,ups2,log3,k1,k2,k3⟩:=withTake_runs hI h
     obtain ⟨T2,L2,ups3,log4,j1,j2,j3⟩:=takeFor_runs k1 k2
     exact ⟨T2,L2,ups3,log4,j1,j2,k3.trans j3⟩
    ·exact takeFor_runs hI h
   ·obtain ⟨T1,L1,ups2,log3,k1,k2,k3⟩:=boxTake_runs hI hvs hur ⟨_,_,_,_,rfl⟩ h
    obtain ⟨T2,L2,ups3,log4,j1,j2,j3⟩:=takeFor_runs k1 k2
    exact ⟨T2,L2,ups3,log4,j1,j2,k3.trans j3⟩
   ·exact takeFor_runs hI h
  ·exact takeFor_runs hI h
end
end Go.Proofs.YtkanidldnnfloaaGreat.P.Am
set_option linter.unusedVariables false
set_option linter.unusedSimpArgs false
namespace Go.Proofs.YtkanidldnnfloaaGreat.P.Am
def wholeM (C:Ctx) (vs:List Nat) (N:Nat) (kids:List Nat) (X:TypeId) (r:Nat) (u:V) (x:Operand) (m:M (List (Nat×V))):M (List (Nat×V)) :=
 match u with
 | .box _ _ t0 _=>(opnd C X x).bind fun v=>match v with
  | .d l 0 t y=>if t=t0∧C.ty X=some t∧t.depth≠0∧r < N∧l≠some r then
    bareM false r r kids (.chk (okOn vs (.box l 0 t y)) (.ret [(r,.box l 0 t y)]))
   else m
  | _=>m
 | _=>m
def whF (r:Nat):Nat→List Nat→Lab:=fun z q=>if z=r then (match q with | [] => .own r [] | _::_ => .other) else .own z q
section
variable {P:Program} {C:Ctx} {w w' w0:World} {S S':Nat→Prop} {L L' L0:Nat→Lab} {s N:Nat} {vs:List Nat} {T T':List V} {tm tm':Array Value} {a:Act}
theorem whF_key {r z z':Nat} {q q':List Nat} (h:whF r z q = .own z' q'):z'=z∧q'=q∧(z=r→q=[]):=by
 unfold whF at h
 split at h
 ·rename_i hz
  split at h
  ·injection h with h1 h2
   exact ⟨by rw [← h1,hz],h2.symm,fun _=>rfl⟩
  ·cases h
 ·rename_i hz
  injection h with h1 h2
  exact ⟨h1.symm,h2.symm,fun e=>absurd e hz⟩
theorem whF_fun [Glob] {r:Nat} {X:Nat→Prop} (hr:X r):Fun (whF r) X:=by
 refine ⟨fun z q hX => ?_,fun z q z' q' hX h => ?_,fun z q z2 q2 z' q' h1 h2 => ?_,fun z q => ?_⟩
 ·unfold whF
  rw [if_neg (fun e:z=r=>hX (e▸hr))]
 ·obtain ⟨rfl,_⟩:=whF_key h
  exact hX
 ·obtain ⟨rfl,rfl,_⟩:=whF_key h1
  obtain ⟨h3,h4,_⟩:=whF_key h2
  exact ⟨h3,h4⟩
 ·unfold whF
  repeat' split
  all_goals simp
theorem step_whole [Glob] (hI:Inv w0 L0 N vs T a w L) (hC:CtxOk P C) {o:Oper} {X:TypeId} {t r:Nat} {kids:List Nat} {u:V} {x:Operand} {m:M (List (Nat×V))} {ups:List (Nat×V)} {log:List Nat} (ho:o.op = .store X (.tmp t) x) (hdst:o.dst=none)
  (ht:addrOf t (T.getD t .dead)=some (r,[])) (hev:∀ r p,addrOf t (T.getD t .dead)=some (r,p)→∃ g,a.eval (.tmp t) = .pointer (some ⟨g,(node [] 0 p).2,none⟩)∧L g = .own r (node [] 0 p).1)
  (hr:T.getD r .dead=u) (hm:∀ {log:List Nat},m.Runs T ups log→Step P o w0 L0 N vs (setAll T ups) a w) (h:(wholeM C vs N kids X r u x m).Runs T ups log):Step P o w0 L0 N vs (setAll T ups) a w:=by
 unfold wholeM at h
 split at h
 ·rename_i l0 n0 t0 x0
  obtain ⟨v,l1,l2,rfl,hx,h2⟩:=M.runs_bind h
  split at h2
  ·rename_i l tt y
   split at h2
   ·rename_i hc
    obtain ⟨rfl,hX,hd,hrN,hlr⟩:=hc
    obtain ⟨hbare,log2,h3⟩:=bareM_runs h2
    obtain ⟨hok,rfl,_⟩:=h3
    obtain ⟨g,hev1,hg⟩:=hev r [] ht
    have hsl:=hI.slots r
    rw [hr] at hsl
    obtain ⟨_,g2,cur,e,k1,k2,k3,k4,k5⟩:=hsl
    obtain rfl:=hI.inj g g2 r _ hg k2
    have hval:∃ s0,(∀ r',l=some r'→(T.getD r' .dead).deep=true)∧∃ cs,Form tt cs (a.eval x)∧Own w L (SL L l) s0 0 tt y [] 0 cs:=by
     rcases opnd_rep hI hx with ⟨s,_,_,h⟩ | ⟨_,h⟩
     ·exact ⟨s,h⟩
     ·exact ⟨0,h L T a.tmps 0 w⟩
    obtain ⟨s0,hlend,cs,hf,how⟩:=hval
    have hone:=Own.one how
    have hlen:=Own.len how
    have hev2:a.eval (.tmp t) = .pointer (some ⟨g,0,none⟩):=hev1
    have hrun:(execOp a.eval o).run P w = .ok .skip (w.setRow g (putCells cur 0 cs)):=by
     have hst:=run_store_cells (P:=P) (w:=w) (o:=0) (hC X _ hX) k3 hf hone hlen (by omega)
     simp [execOp,ho,hev2,hst]
    have hput:(putCells cur 0 cs).toList=cs:=by
     simp [putCells,hlen,k4]
    intro K Q hK
    unfold Oper.wp
    rw [hrun,Oper.upon_skip,hdst]
    have hTr:(setAll T [(r,V.box l 0 tt y)]).getD r .dead = .box l 0 tt y:=by
     show (T.set r _).getD r .dead=_
     rw [getD_set,if_pos ⟨rfl,by rw [hI.len]; exact hrN⟩]
    have hTo:∀ z,z≠r→(setAll T [(r,V.box l 0 tt y)]).getD z .dead=T.getD z .dead:=by
     intro z hz
     show (T.set r _).getD z .dead=_
     rw [getD_set,if_neg (fun h=>hz h.1)]
    have hptr:∀ z,z≠r→(T.getD z .dead).on r=true→∃ p' t',T.getD z .dead = .ptr r p' t'∧shallow p'=true:=by
     intro z hzs hon
     have hb:(T.getD z .dead).deepOn r=false:=hbare z hzs
     unfold V.deepOn at hb
     rw [hon,Bool.true_and] at hb
     generalize T.getD z .dead=v at hb hon
     cases v with
     | ptr r2 p2 t2 =>
      have:r2=r:=by simpa [V.on,V.root] using hon
      subst this
      exact ⟨p2,t2,rfl,by simpa using hb⟩
     | _=>simp at hb
    have hlX:∀ r',l=some r'→r'≠r∧(T.getD r' .dead).on r=false:=by
     intro r' hl'
     have hne:r'≠r:=fun e=>hlr (by rw [hl',e])
     refine ⟨hne,?_⟩
     cases hon:(T.getD r' .dead).on r with
     | false=>rfl
     | true =>
      obtain ⟨p',t',he,_⟩:=hptr r' hne hon
      have:=hlend r' hl'
      rw [he] at this
      simp [V.deep] at this
    have hoth:∀ k,k≠g→(w.setRow g (putCells cur 0 cs)).heap[k]? = w.heap[k]? := fun k hk=>setRow_other w g k _ hk
    refine hK a _ _ (Inv.updF (f:=whF r) (X:=fun z=>z=r∨(T.getD z .dead).on r=true) (nl:=fun _ => .free) hI (whF_fun (.inl rfl)) ?_ (fun _ _ _ _ _ h=>by cases h) hI.size (by rw [length_setAll,hI.len]) hI.dfr ?_ ?_ ?_ ?_ ?_)
    ·refine ⟨rfl,rfl,rfl,by simp [World.setRow],Nat.le_refl _,fun k hk hx=>hoth k ?_,fun _ _=>rfl,fun _ _ _ _ h=>by cases h⟩
     rintro rfl
     exact hx r _ hg (.inl rfl)
    ·intro k z q hz hk
     by_cases hzr:z=r
     ·subst hzr; rw [hTr]; rfl
     ·rw [hTo z hzr]
      unfold newLab at hk
      split at hk
      ·obtain ⟨s0,q0,e0,f0⟩:=relab_own hk
       obtain ⟨rfl,rfl,_⟩:=whF_key f0
       exact hI.owner k _ _ e0
      ·cases hk
    ·intro z r' hz hon hr'
     have hz:=not_or.1 hz
     rcases hr' with rfl | hr'
     ·exact absurd hon hz.2
     ·by_cases h2:r'=r
      ·subst h2; exact absurd hon hz.2
      ·obtain ⟨p',t',he,_⟩:=hptr r' h2 hr'
       rw [he]; rfl
    ·intro z hz
     have hz:=not_or.1 hz
     exact ⟨hTo z hz.1,rfl⟩
    ·intro z r' hz hon
     by_cases h1:z=r
     ·subst h1
      rw [hTr] at hon
      exact okOn_mem hok r' hon
     ·rw [hTo z h1] at hon
      exact hI.roots z r' hon
    ·intro z hz
     by_cases h1:z=r
     ·subst h1
      rw [hTr]
      refine ⟨fun r' hr' => ?_,g,putCells cur 0 cs,e,k1,?_,setRow_heap w g cur _ e _ k3,by rw [putCells_size (by omega)]; exact k4,?_⟩
      ·rw [hTo r' (hlX r' hr').1]
       exact hlend r' hr'
      ·rw [newLab_old hI (by rw [hg]; simp),hg]
       simp [relab,whF,node]
      ·rw [hput]
       refine Own.of_rd (Rd.move (fun k hk => ?_) (Own.rd0 how))
       rcases hk with hk | ⟨r',q,hl',hk⟩
       ·exact ⟨.inl (newLab_stable hI hk),hoth k (by rintro rfl; rw [hg] at hk; cases hk)⟩
       ·obtain ⟨h1,h2⟩:=hlX r' hl'
        refine ⟨.inr ⟨r',q,hl',newLab_id hI (whF_fun (X:=fun z'=>z'=z∨(T.getD z' .dead).on z=true) (.inl rfl)) hk (not_or.2 ⟨h1,by rw [h2]; simp⟩)⟩,hoth k ?_⟩
        rintro rfl
        rw [hg] at hk
        injection hk with hk _
        exact h1 hk.symm
     ·rw [hTo z h1]
      have hon:(T.getD z .dead).on r=true:=hz.resolve_left h1
      obtain ⟨p',t',he,hsh⟩:=hptr z h1 hon
      have hsz:=hI.slots z
      rw [he] at hsz ⊢
      obtain ⟨g3,j1,j2⟩:=hsz
      refine ⟨g3,j1,?_⟩
      rw [shallow_node hsh] at j2 ⊢
      rw [newLab_old hI (by rw [j2]; simp),j2]
      simp [relab,whF]
   ·exact hm h2
  ·exact hm h2
 ·exact hm h
end
end Go.Proofs.YtkanidldnnfloaaGreat.P.Am
set_option linter.unusedVariables false
set_option linter.unusedSimpArgs false
namespace Go.Proofs.YtkanidldnnfloaaGreat.P.Am
def bxMvM (C:Ctx) (vs:List Nat) (X:TypeId) (d:Nat) (x:Operand) (m:M (List (Nat×V))):M (List (Nat×V)) :=
 match x with
 | .tmp s => .get s fun v=>match v with
  | .d none k t y=>if k≠0∧t.depth≠0 then
    (if C.ty X=some t∧s≠d∧s < 100000∧vs.contains d=true then bareM true s d [] (.ret [(d,.box none k t y),(s,.view d [] t)]) else .fail)
   else m
  | _=>m
 | _=>m
section
variable {P:Program} {C:Ctx} {w w' w0:World} {S S':Nat→Prop} {L L' L0:Nat→Lab} {s N:Nat} {vs:List Nat} {T T':List V} {tm tm':Array Value} {a:Act}
theorem step_bxMv [Glob] (hI:Inv w0 L0 N vs T a w L) (hC:CtxOk P C) {o:Oper} {X:TypeId} {x:Operand} {d:Nat} {m:M (List (Nat×V))} {ups:List (Nat×V)} {log:List Nat} (ho:o.op = .box X x) (hdst:o.dst=some d) (hd:d < N) (hid:(T.getD d .dead).idle=true)
  (h:(bxMvM C vs X d x m).Runs T ups log) (hm:∀ log,m.Runs T ups log→Step P o w0 L0 N vs (setAll T ups) a w):Step P o w0 L0 N vs (setAll T ups) a w:=by
 unfold bxMvM at h
 split at h
 ·rename_i s
  obtain ⟨log',rfl,h⟩:=h
  generalize hv:T.getD s .dead=v at h
  dsimp only at h
  split at h
  ·rename_i k t y
   split at h
   ·rename_i hkd
    obtain ⟨hk0,hd0⟩:=hkd
    split at h
    ·rename_i hc
     obtain ⟨hX,hsd,hs5,hdv⟩:=hc
     obtain ⟨hbare,log2,h⟩:=bareM_runs h
     obtain ⟨rfl,_⟩:=h
     clear hm
     have hbare:∀ z,z≠d→(T.getD z .dead).on s=false:=fun z hz=>by simpa using hbare z hz
     have hss:=hI.slots s
     rw [hv] at hss
     obtain ⟨_,cs,hf,how⟩:=hss
     have hcs:=Form.cells hf (Own.one how)
     have hsN:s < N:=by
      rcases Nat.lt_or_ge s N with h | h
      ·exact h
      ·rw [getD_out (by rw [hI.len]; exact h)] at hv; cases hv
     have hrun:(execOp a.eval o).run P w = .ok (.value (.pointer (some ⟨w.heap.size,0,none⟩))) (w.alloc (.cells (a.tmps.getD s undef).cells X)):=by
      have heval:a.tmps.getD s undef=a.eval (.tmp s):=rfl
      rw [heval]
      simp [execOp,ho,Instr.box,newVar,newRow,newObj,Sem.run]
     have hTs:(setAll T [(d,V.box none k t y),(s,V.view d [] t)]).getD s .dead = .view d [] t:=by
      show ((T.set d _).set s _).getD s .dead=_
      rw [getD_set,if_pos ⟨rfl,by simp [hI.len,hsN]⟩]
     have hTd:(setAll T [(d,V.box none k t y),(s,V.view d [] t)]).getD d .dead = .box none k t y:=by
      show ((T.set d _).set s _).getD d .dead=_
      rw [getD_set,if_neg (fun h=>hsd h.1.symm),getD_set,if_pos ⟨rfl,by rw [hI.len]; exact hd⟩]
     have hTo:∀ z,z≠d→z≠s→(setAll T [(d,V.box none k t y),(s,V.view d [] t)]).getD z .dead=T.getD z .dead:=by
      intro z h1 h2
      show ((T.set d _).set s _).getD z .dead=_
      rw [getD_set,if_neg (fun h=>h2 h.1),getD_set,if_neg (fun h=>h1 h.1)]
     have hput:∀ c z,z≠d→(a.put (some d) c).tmps.getD z undef=a.tmps.getD z undef:=fun c z h=>put_other (by simpa using Ne.symm h)
     have hputd:∀ c,(a.put (some d) c).tmps.getD d undef=c:=fun c=>by
      show (a.tmps.setIfInBounds d c).getD d undef=c
      rw [getD_setA,if_pos ⟨rfl,by rw [hI.size]; exact hd⟩]
     refine Step.value (L':=newLab (mvF s [] 0 t.sz k d) w L (fun g=>if g=w.heap.size then .own d [] else .free)) hdst hrun ?_
     have hlabG:newLab (mvF s [] 0 t.sz k d) w L (fun g=>if g=w.heap.size then .own d [] else .free) w.heap.size = .own d []:=by
      unfold newLab
      rw [if_neg (Nat.lt_irrefl _)]
      exact if_pos rfl
     have hsz:(w.alloc (.cells (a.tmps.getD s undef).cells X)).heap.size=w.heap.size+1:=by simp
     have hwd:Wd w (w.alloc (.cells (a.tmps.getD s undef).cells X)) L (fun g=>if g=w.heap.size then .own d [] else .free) (fun z=>z=s∨z=d):=by
      refine ⟨rfl,rfl,rfl,by omega,Nat.le_refl _,fun k' hk' _=>Go.RowKit.Below.heap_alloc w _ k' hk',fun k' hk' => ?_,fun k' z q hk' h => ?_⟩
      ·exact if_neg (by omega)
      ·change (if k'=w.heap.size then Lab.own d [] else Lab.free)=_ at h
       split at h
       ·injection h with h _
        exact .inr h.symm
       ·cases h
     have hown2:Own (w.alloc (.cells (a.tmps.getD s undef).cells X)) (newLab (mvF s [] 0 t.sz k d) w L (fun g=>if g=w.heap.size then .own d [] else .free)) (SL (newLab (mvF s [] 0 t.sz k d) w L (fun g=>if g=w.heap.size then .own d [] else .free)) none) d k t y [] 0 cs:=by
      refine Own.move (fun k' hk'=>⟨hk',Go.RowKit.Below.heap_alloc w _ k' ?_⟩) (fun k' dd rest _ hk'=>⟨hk',Go.RowKit.Below.heap_alloc w _ k' ?_⟩) (Own.taken (Nat.le_refl _) hI (fun k' hk'=>by
       rcases hk' with hk' | ⟨_,_,hk',_⟩
       ·exact hk'
       ·cases hk') how)
      ·rcases hk' with hk' | ⟨_,_,hk',_⟩
       ·unfold newLab at hk'
        split at hk'
        ·assumption
        ·change (if k'=w.heap.size then Lab.own d [] else Lab.free)=_ at hk'
         split at hk' <;> cases hk'
       ·cases hk'
      ·unfold newLab at hk'
       split at hk'
       ·assumption
       ·change (if k'=w.heap.size then Lab.own d [] else Lab.free)=_ at hk'
        split at hk'
        ·injection hk' with _ hk'; cases hk'
        ·cases hk'
     have hcur:(a.tmps.getD s undef).cells.size=t.sz:=by rw [← Array.length_toList,hcs,Own.len how]
     refine Inv.updF (X:=fun z=>z=s∨z=d) hI (mvF_fun hsd) hwd ?_ (by simp [Act.put,hI.size]) (by rw [length_setAll,hI.len]) hI.dfr ?_ ?_ ?_ ?_ ?_
     ·intro g g' z q hg h h'
      change (if g=w.heap.size then Lab.own d [] else Lab.free)=_ at h
      split at h
      ·rename_i hgg
       injection h with h1 h2
       subst h1 h2
       unfold newLab at h'
       split at h'
       ·obtain ⟨s0,q0,e0,f0⟩:=relab_own h'
        rcases mvF_key f0 with ⟨_,i,rest,_,_,h3⟩ | ⟨h1,_,h2,_⟩
        ·cases h3
        ·exact absurd h2.symm h1
       ·change (if g'=w.heap.size then Lab.own d [] else Lab.free)=_ at h'
        split at h'
        ·rename_i hg2
         rw [hgg,hg2]
        ·cases h'
      ·cases h
     ·intro g z q hz h
      rcases hz with rfl | rfl
      ·exfalso
       unfold newLab at h
       split at h
       ·obtain ⟨s0,q0,e0,f0⟩:=relab_own h
        rcases mvF_key f0 with ⟨_,_,_,_,h1,_⟩ | ⟨_,h1,h2,_⟩
        ·exact hsd h1
        ·exact h1 h2.symm
       ·change (if g=w.heap.size then Lab.own d [] else Lab.free)=_ at h
        split at h
        ·injection h with h _
         exact hsd h.symm
        ·cases h
      ·rw [hTd]; rfl
     ·intro z r' hz hon hr'
      have hz:=not_or.1 hz
      rcases hr' with rfl | rfl
      ·rw [hbare z hz.2] at hon; cases hon
      ·exact V.not_owns hid
     ·intro z hz
      have hz:=not_or.1 hz
      exact ⟨hTo z hz.2 hz.1,hput _ z hz.2⟩
     ·intro z r' hz hon
      rcases hz with rfl | rfl
      ·rw [hTs] at hon
       have:d=r':=by simpa [V.on,V.root] using hon
       subst this
       simpa using hdv
      ·rw [hTd] at hon; simp [V.on,V.root] at hon
     ·intro z hz
      rcases hz with rfl | rfl
      ·rw [hTs,hput _ _ hsd]
       refine ⟨by rw [hTd]; simp only [V.deep,Bool.and_eq_true,bne_iff_ne]; exact ⟨hk0,hd0⟩,.inr ⟨w.heap.size,_,X,.inl (by rw [hTd]; rfl),hlabG,heap_new _ _,by simp only [node]; omega,?_⟩⟩
       rw [hcs]
       simp only [node,List.drop_zero]
       rw [List.take_of_length_le (by rw [Own.len how]; exact Nat.le_refl _)]
       exact hf
      ·rw [hTd,hputd]
       refine ⟨by simp,w.heap.size,_,X,rfl,hlabG,heap_new _ _,hcur,?_⟩
       rw [hcs]
       exact hown2
    ·exact h.elim
   ·exact hm _ h
  ·exact hm _ h
 ·exact hm _ h
end
end Go.Proofs.YtkanidldnnfloaaGreat.P.Am
set_option linter.unusedVariables false
set_option linter.unusedSimpArgs false
namespace Go.Proofs.YtkanidldnnfloaaGreat.P.Am
def keepAt (u:V):V→Bool
 | .ptr _ p _=>shallow p && !u.isD
 | .view _ p _=>(shallow p && !u.isD) || (match p with | []=>u.isD | _=>false)
 | _=>false
def toP (r:Nat) (q:List Nat) (o sz i:Nat) (ls:List Nat):Lab→Lab
 | .own s z=>if s=r then (match cut q z with
   | some (y::rest)=>if o≤y∧y < o+sz then .own i ((y - o)::rest) else .other
   | _ => .other)
  else if ls.contains s then .stable else .other
 | x=>x
def fromP (r:Nat) (q:List Nat) (o sz i:Nat):Lab→Lab
 | .own j (y::rest)=>if j=i∧y < sz then .own r (q++(o+y)::rest) else .other
 | .own _ [] => .other
 | x=>x
def backP (r:Nat) (q:List Nat) (o sz i:Nat) (L L':Nat→Lab):Nat→Lab:=fun k=>match L k with
 | .free=>fromP r q o sz i (L' k)
 | .own s z=>if s=r∧underB q o sz z=true then fromP r q o sz i (L' k) else .own s z
 | x=>x
def InPlayP (r:Nat) (q:List Nat) (o sz:Nat) (l:Lab):Prop:=l = .free∨∃ z,l = .own r z∧Under q o sz z
section
variable {P:Program} {C:Ctx} {w w' w0:World} {S S':Nat→Prop} {L L' L0:Nat→Lab} {s N:Nat} {vs:List Nat} {T T':List V} {tm tm':Array Value} {a:Act}
theorem fromP_own {r:Nat} {q:List Nat} {o sz i:Nat} {l:Lab} {s:Nat} {z:List Nat} (h:fromP r q o sz i l = .own s z):∃ y rest,l = .own i (y::rest)∧y < sz∧s=r∧z=q++(o+y)::rest:=by
 cases l with
 | own j z' =>
  cases z' with
  | nil=>cases h
  | cons y rest =>
   unfold fromP at h
   dsimp only at h
   split at h
   ·rename_i hc
    obtain ⟨rfl,hy⟩:=hc
    injection h with h1 h2
    exact ⟨y,rest,rfl,hy,h1.symm,h2.symm⟩
   ·cases h
 | stable=>cases h
 | other=>cases h
 | free=>cases h
theorem backP_in [Glob] {r:Nat} {q:List Nat} {o sz i k:Nat} (h:InPlayP r q o sz (L k)):backP r q o sz i L L' k=fromP r q o sz i (L' k):=by
 unfold backP
 rcases h with h | ⟨z,h,hu⟩
 ·rw [h]
 ·rw [h]
  dsimp only
  rw [if_pos ⟨rfl,underB_spec.2 hu⟩]
theorem backP_out [Glob] {r:Nat} {q:List Nat} {o sz i k:Nat} (h:¬ InPlayP r q o sz (L k)):backP r q o sz i L L' k=L k:=by
 unfold backP
 cases hl:L k with
 | own s z =>
  dsimp only
  rw [if_neg]
  rintro ⟨rfl,hu⟩
  exact h (.inr ⟨z,hl,underB_spec.1 hu⟩)
 | stable=>rfl
 | other=>rfl
 | free=>exact absurd (.inl hl) h
theorem toP_out [Glob] {r:Nat} {q:List Nat} {o sz i:Nat} {ls:List Nat} {l:Lab} (h:¬ InPlayP r q o sz l):toP r q o sz i ls l = .stable∨toP r q o sz i ls l = .other:=by
 cases l with
 | own s z =>
  unfold toP
  dsimp only
  split
  ·rename_i hs
   subst hs
   split
   ·rename_i y rest hc
    rw [if_neg]
    ·exact .inr rfl
    ·rintro ⟨h1,h2⟩
     refine h (.inr ⟨z,rfl,y - o,rest,by omega,?_⟩)
     rw [cut_some hc]
     congr 2
     omega
   ·exact .inr rfl
  ·split <;> simp
 | stable=>exact .inl rfl
 | other=>exact .inr rfl
 | free=>exact absurd (.inl rfl) h
theorem toP_own [Glob] {r:Nat} {q:List Nat} {o sz i:Nat} {ls:List Nat} {l:Lab} {j:Nat} {z:List Nat} (h:toP r q o sz i ls l = .own j z):∃ y rest,j=i∧z=y::rest∧l = .own r (q++(o+y)::rest):=by
 cases l with
 | own s z' =>
  unfold toP at h
  dsimp only at h
  split at h
  ·rename_i hs
   subst hs
   split at h
   ·rename_i y rest hc
    split at h
    ·rename_i hb
     injection h with h1 h2
     refine ⟨y - o,rest,h1.symm,h2.symm,?_⟩
     rw [cut_some hc]
     congr 3
     omega
    ·cases h
   ·cases h
  ·split at h <;> cases h
 | stable=>cases h
 | other=>cases h
 | free=>cases h
theorem toP_at [Glob] {r:Nat} {q:List Nat} {o sz i:Nat} {ls:List Nat} {y:Nat} {rest:List Nat} (h:y < sz):toP r q o sz i ls (.own r (q++(o+y)::rest)) = .own i (y::rest):=by
 unfold toP
 dsimp only
 rw [if_pos rfl,cut_append]
 dsimp only
 rw [if_pos ⟨by omega,by omega⟩,show o+y - o=y by omega]
theorem under_nil {q:List Nat} {o sz:Nat}:¬ Under q o sz []:=by
 rintro ⟨d,rest,_,h⟩
 have:=congrArg List.length h
 simp at this
theorem under_self {q:List Nat} {o sz:Nat}:¬ Under q o sz q:=by
 rintro ⟨d,rest,_,h⟩
 have:=congrArg List.length h
 simp at this
theorem Inv.calledAt [Glob] (hI:Inv w0 L0 N vs T a w L) {d:Nat} (hd:d < N) (hid:(T.getD d .dead).idle=true) {r i:Nat} {p:List St} {ls:List Nat} {ps:List (Ty×Mode)} {rs:List (Ty×Nat)} {u u2:V} {n n':Nat} {t:Ty} {x y:t.den} {log log2:List Nat} {c:Value}
  (hr:T.getD r .dead=u) (hz:(rootD p u).Runs T (none,⟨n',t,x⟩) log) (hm:(modRoot p u t y).Runs T u2 log2) (hn:t.depth≤n) (hn':t.depth≤n') {g0:Nat} {cur:Array Value} {e:TypeId}
  (hg:L g0 = .own r (node [] 0 p).1) (hgh:w.heap[g0]? = some (.cells cur e (0,0)))
  (hleft:Left w w' (fun k=>toP r (node [] 0 p).1 (node [] 0 p).2 t.sz i ls (L k)) L' ps rs)
  (hnm:∀ k s q,L' k = .own s q→s=i)
  (hout:Own w' L' (fun k=>L' k = .stable) i n t y [] 0 ((cur.toList.drop (node [] 0 p).2).take t.sz)) (hlenT:T'.length=N) (hTr:T'.getD r .dead=u2)
  {V0:V} (hTd:T'.getD d .dead=V0) (hVon:∀ r,V0.on r=false) (hVrep:∀ L2 tm',SRep L2 T' tm' d V0 w' c)
  (hT:∀ z,z≠d→z≠r→(T.getD z .dead).on r=true→(T'.getD z .dead = .dead∧(T.getD z .dead).owns=false)∨(T'.getD z .dead=T.getD z .dead∧keepAt u (T.getD z .dead)=true))
  (hT2:∀ z,z≠d→z≠r→(T.getD z .dead).on r=false→T'.getD z .dead=T.getD z .dead) :
  Inv w0 L0 N vs T' (a.put (some d) c) w' (backP r (node [] 0 p).1 (node [] 0 p).2 t.sz i L L'):=by
 have hroot:=rootD_lender hz
 obtain ⟨hrt,hown',hdeep',hisd'⟩:=modRoot_same hm
 have hsl:=hI.slots r
 rw [hr] at hsl
 obtain ⟨_,_,_,howns,hisd⟩:=rootD_inB hz hsl
 have hrd:r≠d:=by
  refine idle_ne hid ?_
  rw [hr]; exact howns
 have hnd:∀ k q,L k ≠ .own d q:=fun k q h=>by
  have:=hI.owner k d q h
  rw [V.not_owns hid] at this
  cases this
 have hstay:∀ k,¬ InPlayP r (node [] 0 p).1 (node [] 0 p).2 t.sz (L k)→(backP r (node [] 0 p).1 (node [] 0 p).2 t.sz i L L' k=L k∧w'.heap[k]? = w.heap[k]?):=by
  intro k h
  have hlt:k < w.heap.size:=hI.lt (fun e=>h (.inl e))
  exact ⟨backP_out h,(hleft.keep k hlt (toP_out h)).2⟩
 have hinp:∀ k q,L' k = .own i q→InPlayP r (node [] 0 p).1 (node [] 0 p).2 t.sz (L k):=by
  intro k q hk
  apply Classical.byContradiction
  intro hp
  have hlt:k < w.heap.size:=hI.lt (fun e=>hp (.inl e))
  have h9:=(hleft.keep k hlt (toP_out hp)).1
  rw [hk] at h9
  rcases toP_out (i:=i) (ls:=ls) hp with h | h <;> rw [h] at h9 <;> cases h9
 have hput:∀ s',s'≠d→(a.put (some d) c).tmps.getD s' undef=a.tmps.getD s' undef:=fun s' h=>put_other (by simpa using Ne.symm h)
 let X:Nat→Prop:=fun z=>z=d∨z=r∨(T.getD z .dead).on r=true
 have hnoX:∀ z,¬ X z→z≠d∧z≠r∧(T.getD z .dead).on r=false:=by
  intro z hz
  have hz:=not_or.1 hz
  have hz2:=not_or.1 hz.2
  exact ⟨hz.1,hz2.1,by simpa using hz2.2⟩
 have hnoin:∀ k z,¬ X z→(L k = .stable∨∃ r' q,L k = .own r' q∧(r'=z∨(T.getD z .dead).on r'=true))→¬ InPlayP r (node [] 0 p).1 (node [] 0 p).2 t.sz (L k):=by
  intro k z hz hk hp
  obtain ⟨h1,h2,h3⟩:=hnoX z hz
  rcases hp with hp | ⟨z',hp,_⟩
  ·rcases hk with hk | ⟨_,_,hk,_⟩ <;> rw [hp] at hk <;> cases hk
  ·rcases hk with hk | ⟨r',q',hk,hk2⟩
   ·rw [hp] at hk; cases hk
   ·rw [hp] at hk
    injection hk with hk _
    subst hk
    rcases hk2 with rfl | hk2
    ·exact h2 rfl
    ·rw [h3] at hk2; cases hk2
 refine Inv.upd X hI (by simp [Act.put,hI.size]) hlenT hI.dfr ?_ ?_ ?_ ?_ ?_ ?_ ?_ ?_ ?_
 ·refine ⟨hleft.os.trans hI.fr.os,hleft.tape.trans hI.fr.tape,hleft.output.trans hI.fr.output,Nat.le_trans hI.fr.size hleft.size,Nat.le_trans hI.fr.drawn hleft.drawn,fun k hk h0 => ?_,hI.fr.glob⟩
  have h1:=hI.fr.keep k hk h0
  have hni:¬ InPlayP r (node [] 0 p).1 (node [] 0 p).2 t.sz (L k):=by
   rintro (h | ⟨z,h,_⟩) <;> rw [h1.1] at h <;> rcases h0 with h0 | h0 <;> rw [h0] at h <;> cases h
  have:=hstay k hni
  exact ⟨this.1.trans h1.1,this.2.trans h1.2⟩
 ·intro k hk
  have hf:=hI.free k (Nat.le_trans hleft.size hk)
  rw [backP_in (.inl hf),hleft.free k hk]
  rfl
 ·intro k k' s q h h'
  by_cases hp:InPlayP r (node [] 0 p).1 (node [] 0 p).2 t.sz (L k)
  ·rw [backP_in hp] at h
   obtain ⟨y1,rest,e1,e2,rfl,rfl⟩:=fromP_own h
   by_cases hp':InPlayP s (node [] 0 p).1 (node [] 0 p).2 t.sz (L k')
   ·rw [backP_in hp'] at h'
    obtain ⟨y2,rest2,e3,e4,_,e5⟩:=fromP_own h'
    have e6:=List.append_cancel_left e5
    injection e6 with e6 e7
    have:y1=y2:=by omega
    subst this e7
    exact hleft.inj k k' _ _ e1 e3
   ·rw [backP_out hp'] at h'
    exact absurd (.inr ⟨_,h',y1,rest,e2,rfl⟩) hp'
  ·rw [backP_out hp] at h
   by_cases hp':InPlayP r (node [] 0 p).1 (node [] 0 p).2 t.sz (L k')
   ·rw [backP_in hp'] at h'
    obtain ⟨y1,rest,e1,e2,rfl,rfl⟩:=fromP_own h'
    exact absurd (.inr ⟨_,h,y1,rest,e2,rfl⟩) hp
   ·rw [backP_out hp'] at h'
    exact hI.inj k k' s q h h'
 ·intro k s q h
  by_cases hp:InPlayP r (node [] 0 p).1 (node [] 0 p).2 t.sz (L k)
  ·rw [backP_in hp] at h
   obtain ⟨y1,rest,e1,e2,rfl,rfl⟩:=fromP_own h
   rw [hTr,hown']; exact howns
  ·rw [backP_out hp] at h
   have ho:=hI.owner k s q h
   have hsd:s≠d:=idle_ne hid ho
   by_cases hsr:s=r
   ·subst hsr; rw [hTr,hown']; exact howns
   ·cases hon:(T.getD s .dead).on r with
    | false=>rw [hT2 s hsd hsr hon]; exact ho
    | true =>
     rcases hT s hsd hsr hon with ⟨_,h⟩ | ⟨h,_⟩
     ·rw [h] at ho; cases ho
     ·rw [h]; exact ho
 ·intro z hz k hk
  exact hstay k (hnoin k z hz hk)
 ·intro z hz
  obtain ⟨h1,h2,h3⟩:=hnoX z hz
  exact ⟨hT2 z h1 h2 h3,hput z h1⟩
 ·intro z r' h
  by_cases hzd:z=d
  ·subst hzd; rw [hTd,hVon] at h; cases h
  ·by_cases hzr:z=r
   ·subst hzr
    rw [hTr] at h
    simp [V.on,hrt,hroot] at h
   ·cases hon:(T.getD z .dead).on r with
    | false=>rw [hT2 z hzd hzr hon] at h; exact hI.roots z r' h
    | true =>
     rcases hT z hzd hzr hon with ⟨h1,_⟩ | ⟨h1,_⟩
     ·rw [h1] at h; simp [V.on,V.root] at h
     ·rw [h1] at h; exact hI.roots z r' h
 ·intro z r' hz hon ho
  obtain ⟨h1,h2,h3⟩:=hnoX z hz
  have hrd':r'≠d:=idle_ne hid ho
  have hrr:r'≠r:=fun e=>by rw [e,h3] at hon; cases hon
  refine ⟨?_,hput r' hrd'⟩
  cases hon2:(T.getD r' .dead).on r with
  | false=>exact hT2 r' hrd' hrr hon2
  | true =>
   rcases hT r' hrd' hrr hon2 with ⟨_,h⟩ | ⟨h,_⟩
   ·rw [h] at ho; cases ho
   ·exact h
 ·intro z hX
  by_cases hzd:z=d
  ·subst hzd
   rw [hTd]
   show SRep _ _ _ _ _ _ ((a.tmps.setIfInBounds z c).getD z undef)
   rw [getD_setA,if_pos ⟨rfl,by rw [hI.size]; exact hd⟩]
   exact hVrep _ _
  ·by_cases hzr:z=r
   ·subst hzr
    rw [hTr,hput z hzd]
    have hgo:¬ InPlayP z (node [] 0 p).1 (node [] 0 p).2 t.sz (L g0):=by
     rintro (h | ⟨z',h,hu⟩)
     ·rw [hg] at h; cases h
     ·rw [hg] at h
      injection h with _ h
      subst h
      exact under_self hu
    have hgs:=hstay g0 hgo
    refine modRoot_rep (T2:=T') (cur:=cur) (e':=e) (g':=g0) (cur':=cur) hsl hz hm (fun r' hr'=>by rw [hroot] at hr'; cases hr') ?_ ?_
    ·refine ⟨fun k hk => ?_,fun k q2 hk hq hun => ?_,hg,by rw [hgs.1]; exact hg,hgh,by rw [hgs.2]; exact hgh,rfl,fun _ _=>rfl,fun k hk=>hI.inj k g0 z _ hk hg⟩
     ·rw [hroot] at hk ⊢
      rcases hk with hk | ⟨_,_,hk,_⟩
      ·have:=hstay k (by rintro (h | ⟨_,h,_⟩) <;> rw [hk] at h <;> cases h)
       exact ⟨.inl (by rw [this.1]; exact hk),this.2⟩
      ·cases hk
     ·exact hstay k (by
       rintro (h | ⟨z',h,hu⟩)
       ·rw [hk] at h; cases h
       ·rw [hk] at h
        injection h with _ h
        subst h
        exact hun hu)
    ·refine Own.cap hn hn' (Own.move (S:=fun _=>False) (fun k hk=>hk.elim) (fun k dd rest hdd hk=>⟨?_,rfl⟩) (Own.full hn hout))
     rw [Nat.zero_add,List.nil_append] at hk
     rw [backP_in (hinp k _ hk),hk]
     show (if i=i∧dd < t.sz then _ else _)=_
     rw [if_pos ⟨rfl,hdd⟩]
   ·have hon:(T.getD z .dead).on r=true:=by
     rcases hX with h | h | h
     ·exact absurd h hzd
     ·exact absurd h hzr
     ·exact h
    rcases hT z hzd hzr hon with ⟨h,_⟩ | ⟨h,hk⟩
    ·rw [h]; trivial
    ·rw [h,hput z hzd]
     have hsz:=hI.slots z
     have hnil:∀ k,L k = .own r []→backP r (node [] 0 p).1 (node [] 0 p).2 t.sz i L L' k=L k∧w'.heap[k]? = w.heap[k]? := fun k hk=>hstay k (by
      rintro (h | ⟨z',h,hu⟩)
      ·rw [hk] at h; cases h
      ·rw [hk] at h
       injection h with _ h
       subst h
       exact under_nil hu)
     generalize hv:T.getD z .dead=v at hk hon hsz
     cases v with
     | ptr r2 p2 t2 =>
      have:r2=r:=by simpa [V.on,V.root] using hon
      subst this
      simp only [keepAt,Bool.and_eq_true] at hk
      obtain ⟨g,h1,h2⟩:=hsz
      refine ⟨g,h1,?_⟩
      rw [shallow_node hk.1] at h2 ⊢
      rw [(hnil g h2).1]; exact h2
     | view r2 p2 t2 =>
      have:r2=r:=by simpa [V.on,V.root] using hon
      subst this
      obtain ⟨hdp,h1⟩:=hsz
      refine ⟨by rw [hTr,hdeep',← hr]; exact hdp,?_⟩
      rcases h1 with ⟨h1,h2,l,n1,x1,h3,h4⟩ | ⟨g,cur1,e1,h1,h2,h3,h4,h5⟩
      ·rw [hr] at h3
       subst h3
       obtain ⟨x2,rfl⟩:=modRoot_d hm
       exact .inl ⟨h1,by rw [hput r2 hrd]; exact h2,l,n1,x2,hTr,h4⟩
      ·rw [hr] at h1
       have hsh:shallow p2=true:=by
        simp only [keepAt,Bool.or_eq_true,Bool.and_eq_true] at hk
        rcases hk with hk | hk
        ·exact hk.1
        ·cases p2 with
         | nil=>rfl
         | cons _ _=>cases hk
       refine .inr ⟨g,cur1,e1,by rw [hTr,hisd']; exact h1,?_⟩
       rw [shallow_node hsh] at h2 ⊢
       have:=hnil g h2
       exact ⟨by rw [this.1]; exact h2,by rw [this.2]; exact h3,h4,h5⟩
     | _=>simp [keepAt] at hk
end
end Go.Proofs.YtkanidldnnfloaaGreat.P.Am
