/- A part of the proof: Am19, Am20, Am21, Am22, Am23, Am24. No conditions. -/
import Derived.Test.YtkanidldnnfloaaGreatPG2
import Derived.Great.BuildSlice
import Derived.Orders
import Derived.Laws.CopyRow
set_option linter.unusedVariables false
set_option linter.unusedSimpArgs false
namespace Go.Proofs.YtkanidldnnfloaaGreat.P.Am
def buildUps (C:Ctx) (vs:List Nat) (X:TypeId) (d:Nat) (parts:List (Nat×Operand)):M (List (Nat×V)) :=
 match C.ty X with
 | some (.agg t)=>if t.isArr=true then (if parts.isEmpty=true then .ret [(d,.d none t.depth (.agg t) t.zero)] else .fail) else (buildM C 0 0 t parts).bind fun b =>
   if nodupB (b.ms.map (·.1))=true∧(b.ms.all fun p => !vs.contains p.1)=true then
    .ret (b.ms.map (fun p=>(p.1,V.dead))++[(d,.d none (b.n.getD t.depth) (.agg t) b.x)])
   else .fail
 | _ => .fail
structure Bs (t:Ty) where
 xs:List t.den
 n:Option Nat
 ms:List (Nat×Nat×Nat)
def rowM (C:Ctx) (t:Ty):(j left:Nat)→List (Nat×Operand)→M (Bs t)
 | _,0,parts=>if parts.isEmpty then .ret ⟨[],none,[]⟩ else .fail
 | j,left+1,parts=>(fieldM C j (j*t.sz) t parts).bind fun p=>(rowM C t (j+1) left p.2).bind fun r => .ret ⟨p.1.x::r.xs,minO p.1.n r.n,p.1.ms++r.ms⟩
def rowUps (C:Ctx) (vs:List Nat) (X:TypeId) (d len:Nat) (parts:List (Nat×Operand)):M (List (Nat×V)) :=
 match C.ty X with
 | some (.slice e t)=>(rowM C t 0 len parts).bind fun b =>
   if nodupB (b.ms.map (·.1))=true∧(b.ms.all fun p => !vs.contains p.1)=true∧len*t.sz≤16777216∧t.sz≠0 then
    .ret (b.ms.map (fun p=>(p.1,V.dead))++[(d,.d none (b.n.getD t.depth+1) (.slice e t) b.xs)])
   else .fail
 | _ => .fail
section
variable {P:Program} {C:Ctx} {w w' w0:World} {S S':Nat→Prop} {L L' L0:Nat→Lab} {s N:Nat} {vs:List Nat} {T T':List V} {tm tm':Array Value} {a:Act}
def Step [Glob] (P:Program) (o:Oper) (w0:World) (L0:Nat→Lab) (N:Nat) (vs:List Nat) (T':List V) (a:Act) (w:World):Prop :=
 ∀ (K:Act→World→Prop) (Q:Exit→Act→World→Prop),(∀ a' w' L',Inv w0 L0 N vs T' a' w' L'→K a' w')→o.wp P a w K Q
theorem Step.value [Glob] {o:Oper} {d:Nat} {c:Value} (ho:o.dst=some d) (hrun:(execOp a.eval o).run P w = .ok (.value c) w') (h:Inv w0 L0 N vs T' (a.put (some d) c) w' L'):Step P o w0 L0 N vs T' a w:=by
 intro K Q hK
 unfold Oper.wp
 rw [hrun,Oper.upon_value,ho]
 exact hK _ _ _ h
theorem minO_getD {x y:Option Nat} {k m:Nat} (h:k≤(minO x y).getD m) (n:Nat) (hn:minO x y=some n):k≤n:=by rw [hn] at h; exact h
theorem ms_depth_part {t:Ty} {o:Nat} {x:Operand} {b:Bd t} {log:List Nat} (h:(partM C t o x).Runs T b log):b.ms≠[]→t.depth≠0:=by
 obtain ⟨v,l1,l2,rfl,h1,h2⟩:=M.runs_bind h
 split at h2
 ·split at h2
  ·rename_i ht
   subst ht
   split at h2
   ·obtain ⟨rfl,_⟩:=h2; intro h; exact absurd rfl h
   ·split at h2
    ·obtain ⟨rfl,_⟩:=h2; intro h; exact absurd rfl h
    ·intro _; assumption
  ·exact h2.elim
 ·exact h2.elim
theorem ms_depth_field [Glob] {i o:Nat} {t:Ty} {parts parts':List (Nat×Operand)} {b:Bd t} {log:List Nat} (h:(fieldM C i o t parts).Runs T (b,parts') log):b.ms≠[]→t.depth≠0:=by
 unfold fieldM at h
 split at h
 ·split at h
  ·obtain ⟨b1,l1,l2,rfl,h1,h2⟩:=M.runs_bind h
   obtain ⟨h2,_⟩:=h2
   cases h2
   exact ms_depth_part h1
  ·obtain ⟨h,_⟩:=h; cases h; intro h; exact absurd rfl h
 ·obtain ⟨h,_⟩:=h; cases h; intro h; exact absurd rfl h
theorem ms_depth [Glob]:{t:Ty}→{i o:Nat}→{parts:List (Nat×Operand)}→{b:Bd t}→{log:List Nat}→(buildM C i o t parts).Runs T b log→b.ms≠[]→t.depth≠0
 | .pair ta tb,i,o,parts,b,log,h=>by
  simp only [buildM] at h
  obtain ⟨⟨b1,parts1⟩,l1,l2,rfl,h1,h2⟩:=M.runs_bind h
  obtain ⟨r,l3,l4,rfl,h3,h4⟩:=M.runs_bind h2
  obtain ⟨rfl,_⟩:=h4
  intro hne
  simp only [Ty.depth]
  by_cases h:b1.ms=[]
  ·have:r.ms≠[]:=fun e=>hne (by simp [h,e])
   have:=ms_depth h3 this
   omega
  ·have:=ms_depth_field h1 h
   omega
 | .int _,i,o,parts,b,log,h | .bool,i,o,parts,b,log,h | .str,i,o,parts,b,log,h | .raw _,i,o,parts,b,log,h | .unit,i,o,parts,b,log,h | .agg _,i,o,parts,b,log,h | .slice _ _,i,o,parts,b,log,h=>by
  simp only [buildM] at h
  obtain ⟨⟨b1,parts1⟩,l1,l2,rfl,h1,h2⟩:=M.runs_bind h
  simp only at h2
  split at h2
  ·obtain ⟨rfl,_⟩:=h2
   exact ms_depth_field h1
  ·exact h2.elim
theorem run_mapM {fs:Array Field} {g:Field→Nat} (h:∀ f∈fs.toList,(sizeOf f.type).run P w = .ok (g f) w) :
  (fs.mapM fun f=>do pure (f.offset,← sizeOf f.type):Sem (Array (Nat×Nat))).run P w = .ok (fs.map fun f=>(f.offset,g f)) w:=by
 obtain ⟨l⟩:=fs
 rw [Array.mapM_eq_mapM_toList]
 have key:∀ l:List Field,(∀ f∈l,(sizeOf f.type).run P w = .ok (g f) w)→(l.mapM fun f=>do pure (f.offset,← sizeOf f.type):Sem (List (Nat×Nat))).run P w = .ok (l.map fun f=>(f.offset,g f)) w:=by
  intro l
  induction l with
  | nil=>intro _; simp
  | cons f l ih =>
   intro h
   have h1:=h f (by simp)
   have h2:=ih (fun f hf=>h f (by simp [hf]))
   simp only [List.mapM_cons,Sem.run_bind,h1,Result.andThen_ok,Sem.run_pure,h2,List.map_cons]
 have:=key l h
 simp only [Sem.run_map,this,Result.andThen_ok]
 simp
theorem gather_own_pos [Glob] {d:Nat} {q:List Nat} {o0 m:Nat} {ms:List (Nat×Nat×Nat)} {nl:Nat→Lab} (hI:Inv w0 L0 N vs T a w L) (hid:(T.getD d .dead).idle=true) {k:Nat} {q':List Nat}
  (h:newLab (gatherF d q o0 m ms) w L nl k = .own d q') (hk:k < w.heap.size):ms≠[]∧0 < m:=by
 unfold newLab at h
 rw [if_pos hk] at h
 obtain ⟨s0,q0,e0,f0⟩:=relab_own h
 unfold gatherF at f0
 split at f0
 ·rename_i p hp
  refine ⟨fun e=>(by rw [e] at hp; cases hp),?_⟩
  split at f0
  ·split at f0
   ·split at f0
    ·omega
    ·cases f0
   ·cases f0
  ·cases f0
 ·split at f0
  ·cases f0
  ·rename_i h1 h2
   injection f0 with f0 _
   exact absurd f0 h2
theorem step_build [Glob] (hI:Inv w0 L0 N vs T a w L) (hC:CtxOk P C) {o:Oper} {X:TypeId} {d:Nat} {parts:Array (Nat×Operand)} {ups:List (Nat×V)} {log:List Nat} (ho:o.op = .build X parts) (hdst:o.dst=some d)
  (hd:d < N) (hid:(T.getD d .dead).idle=true) (h:(buildUps C vs X d parts.toList).Runs T ups log):Step P o w0 L0 N vs (setAll T ups) a w:=by
 unfold buildUps at h
 split at h
 ·rename_i t hX
  split at h
  ·rename_i hia
   split at h
   ·rename_i hpe
    obtain ⟨rfl,_⟩:=h
    obtain ⟨i,z,i1,i2,i3,i4,i5⟩:=(hC X _ hX).info
    obtain ⟨m,e,te,hu,he,_⟩:=((hC X _ hX).und).resolve_left (fun h=>by rw [hia] at h; cases h.1) |>.2
    have hz:z.cells=t.zcells.toArray:=by rw [Form.agg i5]; rfl
    have hps:parts.toList=[]:=by simpa using hpe
    have hs:=(hC _ _ he).run_sizeOf (w:=w)
    intro K Q hK
    refine PureRes.inv hI hd hid hdst (PureRes.still hI (v := .d none t.depth (.agg t) t.zero) (c := .agg t.zcells.toArray) ?_ (fun _=>rfl) ⟨by simp,t.zcells,by simp [Form],?_⟩) hK
    ·simp only [execOp,ho,Instr.build,Sem.run_bind,zeroValue,Go.run_typeInfo w i1,Result.andThen_ok,i4,Sem.run_pure,run_underlying hu,hs,hz,Array.toList_map,hps,List.map_nil,Instr.fill]
    ·simp only [Own]; exact Own.zero
   ·exact h.elim
  rename_i hia
  have hia:t.isArr=false:=by simpa using hia
  obtain ⟨b,l1,l2,rfl,h1,h2⟩:=M.runs_bind h
  split at h2
  ·rename_i hc
   obtain ⟨hn,hv⟩:=hc
   obtain ⟨rfl,_⟩:=h2
   obtain ⟨i,z,i1,i2,i3,i4,i5⟩:=(hC X _ hX).info
   obtain ⟨⟨fs,hu,hfo,hfn⟩,_⟩:=(hC X _ hX).str hia
   have hz:z.cells=t.zcells.toArray:=by rw [Form.agg i5]; rfl
   let g:Field→Nat:=fun f=>match C.ty f.type with | some t1=>t1.sz | none=>0
   have hg:∀ f∈fs.toList,(sizeOf f.type).run P w = .ok (g f) w:=by
    intro f hf
    obtain ⟨j,hj⟩:=List.mem_iff_getElem?.1 hf
    obtain ⟨t1,_,h4,_⟩:=hfo j f (by simpa using hj)
    have:=(hC _ _ h4).run_sizeOf (w:=w)
    simp [g,h4,this]
   have hplace:∀ j r,compT j t=some r→(fs.map fun f=>(f.offset,g f))[0+j]? = some (0+r.1,r.2.sz):=by
    intro j r hr
    have hlt:=hfn j r hr
    obtain ⟨t1,h3,h4,_⟩:=hfo j fs[j] (Array.getElem?_eq_getElem hlt)
    rw [hr] at h3
    injection h3 with h3
    subst h3
    simp [hlt,g,h4]
   obtain ⟨cells',hfill⟩:=buildM_filled hI h1 (place:=fun i=>(fs.map fun f=>(f.offset,g f))[i]?) (cells:=t.zcells.toArray) hplace (by simp [Ty.zcells_len,List.take_of_length_le]) (by simp [Ty.zcells_len])
   have hrun:(execOp a.eval o).run P w = .ok (.value (.agg cells')) w:=by
    have hf:=hfill.fill
    simp only [Instr.fill] at hf
    simp only [execOp,ho,Instr.build,Sem.run_bind,zeroValue,Go.run_typeInfo w i1,Result.andThen_ok,i4,Sem.run_pure,run_underlying hu,run_mapM hg,hz,Array.toList_map,hf]
   have hlen:cells'.size=t.sz:=by rw [hfill.size]; simp [Ty.zcells_len]
   refine Step.value hdst hrun (Inv.gather (q:=[]) (o0:=0) (m:=b.n.getD t.depth) (nl:=fun _ => .free) hI hd hid hfill.srt hn hfill.src ?_ (Wd.refl hI _) (fun _ _=>rfl) (fun _ _ _ _ h=>by cases h) (fun _ _ _ _ h=>by cases h) rfl ?_ ?_)
   ·intro s hs hvs
    obtain ⟨p,hp,rfl⟩:=List.mem_map.1 hs
    rw [List.all_eq_true] at hv
    have:=hv p hp
    simp [hvs] at this
   ·intro k q' hk
    by_cases hlt:k < w.heap.size
    ·obtain ⟨e1,e2⟩:=gather_own_pos hI hid hk hlt
     have:=ms_depth h1 e1
     simp only [V.owns,Ty.depth,Bool.and_eq_true,bne_iff_ne]
     exact ⟨by omega,this⟩
    ·unfold newLab at hk
     rw [if_neg hlt] at hk
     cases hk
   ·intro T' tm'
    refine ⟨by simp,cells'.toList,by simp [Form],?_⟩
    simp only [Own]
    have:=hfill.own (newLab (gatherF d [] 0 (b.n.getD t.depth) b.ms) w L (fun _ => .free)) w d [] 0 (b.n.getD t.depth) (fun n hn=>by rw [hn]; exact Nat.le_refl _)
     (fun k hk=>newLab_stable hI hk) (fun _ _=>rfl) (gatherF_went hI hn)
    simpa [List.take_of_length_le,hlen] using this
  ·exact h2.elim
 ·exact h.elim
structure FilledR (T:List V) (a:Act) (w:World) (L:Nat→Lab) (place:Nat→Option (Nat×Nat)) (cells:Array Value) (vals:List (Nat×Value)) (j:Nat) (t:Ty) (left:Nat) (b:Bs t) (cells':Array Value):Prop where
 fill:Instr.fill place cells vals=some cells'
 size:cells'.size=cells.size
 out:∀ i,(i < j*t.sz∨(j+left)*t.sz≤i)→cells'[i]? = cells[i]?
 src:SrcOk T (j*t.sz) ((j+left)*t.sz) b.n b.ms
 srt:Srt (j*t.sz) b.ms
 len:b.xs.length=left
 dep:b.ms≠[]→t.depth≠0
 own:∀ (L':Nat→Lab) (w':World) d q o0 m,(∀ n,b.n=some n→m≤n)→(∀ k,L k = .stable→L' k = .stable)→(∀ k,L k ≠ .free→w'.heap[k]? = w.heap[k]?)→Went L L' d q o0 m b.ms →
  ∀ i (h:i < b.xs.length),Own w' L' (SL L' none) d m t (b.xs[i]) q (o0+(j+i)*t.sz) ((cells'.toList.drop ((j+i)*t.sz)).take t.sz)
theorem rowM_filled [Glob] (hI:Inv w0 L0 N vs T a w L) {place:Nat→Option (Nat×Nat)} {t:Ty} (hp:∀ i,place i=some (i*t.sz,t.sz)):{left j:Nat}→{parts:List (Nat×Operand)}→{b:Bs t}→{log:List Nat}→{cells:Array Value} →
  (rowM C t j left parts).Runs T b log→(∀ i,j≤i→i < j+left→(cells.toList.drop (i*t.sz)).take t.sz=t.zcells)→(j+left)*t.sz≤cells.size →
  ∃ cells',FilledR T a w L place cells (parts.map fun p=>(p.1,a.eval p.2)) j t left b cells'
 | 0,j,parts,b,log,cells,h,hz,hb=>by
  simp only [rowM] at h
  split at h
  ·rename_i he
   obtain ⟨rfl,_⟩:=h
   have:parts=[]:=by simpa using he
   subst this
   exact ⟨cells,rfl,rfl,fun _ _=>rfl,fun _ _ _ h=>(by cases h),trivial,rfl,fun h=>absurd rfl h,fun _ _ _ _ _ _ _ _ _ _ i h=>absurd h (by simp)⟩
  ·exact h.elim
 | left+1,j,parts,b,log,cells,h,hz,hb=>by
  simp only [rowM] at h
  obtain ⟨⟨b1,parts1⟩,l1,l2,rfl,h1,h2⟩:=M.runs_bind h
  obtain ⟨r,l3,l4,rfl,h3,h4⟩:=M.runs_bind h2
  obtain ⟨rfl,_⟩:=h4
  have e1:(j+1)*t.sz=j*t.sz+t.sz:=by rw [Nat.add_mul,Nat.one_mul]
  have e2:j+1+left=j+(left+1):=by omega
  have e3:(j+1)*t.sz≤(j+(left+1))*t.sz:=Nat.mul_le_mul_right _ (by omega)
  obtain ⟨c1,f1⟩:=fieldM_filled hI h1 (place:=place) (cells:=cells) (hp j) (hz j (Nat.le_refl _) (by omega)) (by omega)
  have hsame:∀ i,j+1≤i→(c1.toList.drop (i*t.sz)).take t.sz=(cells.toList.drop (i*t.sz)).take t.sz:=fun i hi =>
   take_drop_same (fun k hk1 hk2=>f1.out k (.inr (by have:=Nat.mul_le_mul_right t.sz hi; omega)))
  obtain ⟨c2,f2⟩:=rowM_filled hI hp (cells:=c1) h3 (fun i hi1 hi2=>by rw [hsame i hi1]; exact hz i (by omega) (by omega)) (by rw [f1.size,e2]; exact hb)
  refine ⟨c2,f1.fill.trans f2.fill,f2.size.trans f1.size,fun i hi => ?_,?_,?_,by simp [f2.len],fun hne => ?_,fun L' w' d q o0 m k1 k2 k3 k4 i hi => ?_⟩
  ·rw [f2.out i (by rw [e2]; omega),f1.out i (by omega)]
  ·intro s o' sz hm
   rcases List.mem_append.1 hm with hm | hm
   ·exact (f1.src.mono (Nat.le_refl _) (by omega) (fun k hk=>minO_some hk)) s o' sz hm
   ·exact (f2.src.mono (by omega) (by rw [e2]; exact Nat.le_refl _) (fun k hk=>minO_some' hk)) s o' sz hm
  ·exact f1.srt.append (by omega) (fun s o' sz hm=>(f1.src s o' sz hm).2.1) (by rw [← e1]; exact f2.srt)
  ·by_cases h:b1.ms=[]
   ·exact f2.dep (fun e=>hne (by simp [h,e]))
   ·exact ms_depth_field h1 h
  ·cases i with
   | zero =>
    simp only [Nat.add_zero,List.getElem_cons_zero]
    rw [take_drop_same (cur:=c1) (cur':=c2) (fun k hk1 hk2=>f2.out k (.inl (by omega)))]
    exact f1.own L' w' d q o0 m (fun n hn=>minO_le k1 hn) k2 k3 k4.left
   | succ i =>
    simp only [List.length_cons] at hi
    have:=f2.own L' w' d q o0 m (fun n hn=>minO_le' k1 hn) k2 k3 k4.right i (by omega)
    rw [show j+1+i=j+(i+1) by omega] at this
    simpa using this
theorem step_row [Glob] (hI:Inv w0 L0 N vs T a w L) (hC:CtxOk P C) {o:Oper} {X:TypeId} {d len:Nat} {parts:Array (Nat×Operand)} {ups:List (Nat×V)} {log:List Nat} (ho:o.op = .buildSlice X len parts) (hdst:o.dst=some d)
  (hd:d < N) (hid:(T.getD d .dead).idle=true) (h:(rowUps C vs X d len parts.toList).Runs T ups log):Step P o w0 L0 N vs (setAll T ups) a w:=by
 unfold rowUps at h
 split at h
 ·rename_i e t hX
  obtain ⟨b,l1,l2,rfl,h1,h2⟩:=M.runs_bind h
  split at h2
  ·rename_i hc
   obtain ⟨hn,hv,hsm,hsz0⟩:=hc
   obtain ⟨rfl,_⟩:=h2
   obtain ⟨hu,he⟩:=(hC X _ hX).und
   obtain ⟨i,z,i1,i2,i3,i4,i5⟩:=(hC e t he).info
   have hone:∀ v∈t.zcells,v.oneCell'=true:=Own.one (Own.zero (w:=w) (L:=L) (S:=fun _=>True) (s:=0) (n:=0) (t:=t) (q:=[]) (o:=0))
   have hcz:=Form.cells i5 hone
   have hsz:z.cells.size=t.sz:=by rw [← Array.length_toList,hcz,Ty.zcells_len]
   let cells:Array Value:=(Array.range (len*t.sz)).map (z.cells[· % z.cells.size]!)
   have hcells:∀ i,i < len→(cells.toList.drop (i*t.sz)).take t.sz=t.zcells:=by
    intro i hi
    have:=madeZero z.cells len i hi
    rw [hsz] at this
    rw [← hcz]
    show (((Array.range (len*t.sz)).map (z.cells[· % z.cells.size]!)).toList.drop (i*t.sz)).take t.sz=_
    rw [hsz]
    exact this
   have hcs:cells.size=len*t.sz:=by simp [cells]
   obtain ⟨cells',hf⟩:=rowM_filled hI (place:=fun i=>some (i*t.sz,t.sz)) (fun _=>rfl) (cells:=cells) h1 (fun i _ hi=>hcells i (by omega)) (by rw [hcs]; simp)
   have hrun:(execOp a.eval o).run P w = .ok (.value (.slice (some ⟨w.heap.size,0,none⟩) len len)) (w.alloc (.cells cells' e)):=by
    by_cases hl:len=0
    ·subst hl
     have hc0:cells = #[]:=by simp [cells]
     have hc1:cells' = #[]:=by
      have:=hf.size
      rw [hcs] at this
      simpa using this
     have hfl:=hf.fill
     rw [hc0,hc1] at hfl
     rw [hc1]
     simp only [execOp,ho,Instr.buildSlice,Sem.run_bind,run_underlying hu,Result.andThen_ok,(hC e t he).run_sizeOf,Nat.zero_mul]
     simp only [Array.toList_map]
     simp only [Array.range_zero',Array.map_empty,hfl,sizeOf,Go.run_typeInfo w i1]
     simp [hfl,newRow,newObj,Sem.run]
    ·have hb:=run_buildSlice (P:=P) w X e len (parts.map fun (i,x)=>(i,a.eval x)) cells' i z hu i1 i4 (by rw [i2]; omega) (by rw [i2]; intro h; rcases Nat.mul_eq_zero.1 h with h | h <;> omega) (by
      rw [i2]
      have:=hf.fill
      simpa [cells] using this)
     simp [execOp,ho,hb]
   refine Step.value hdst hrun (Inv.gather (q:=[0]) (o0:=0) (m:=b.n.getD t.depth) (nl:=fun k=>if k=w.heap.size then .own d [0] else .free) hI hd hid hf.srt hn hf.src ?_ ?_ ?_ ?_ ?_ rfl ?_ ?_)
   ·intro s hs hvs
    obtain ⟨p,hp,rfl⟩:=List.mem_map.1 hs
    rw [List.all_eq_true] at hv
    have:=hv p hp
    simp [hvs] at this
   ·refine ⟨rfl,rfl,rfl,by simp,Nat.le_refl _,fun k hk _=>Go.RowKit.Below.heap_alloc w _ k hk,fun k hk => ?_,fun k s q hk h => ?_⟩
    ·simp at hk
     rw [if_neg (by omega)]
    ·split at h
     ·injection h with h _; exact .inl h.symm
     ·cases h
   ·exact fun k hk=>Go.RowKit.Below.heap_alloc w _ k hk
   ·intro k k' q' hk h h'
    split at h
    ·rename_i hkk
     injection h with _ h
     subst h
     unfold newLab at h'
     split at h'
     ·exfalso
      obtain ⟨s0,q0,e0,f0⟩:=relab_own h'
      rcases gatherF_key f0 with ⟨_,_,_,_,_,_,_,h8⟩ | ⟨_,h7,h8,_⟩
      ·have:=congrArg List.length h8
       simp at this
      ·exact h7 h8.symm
     ·dsimp only at h'
      split at h'
      ·omega
      ·cases h'
    ·cases h
   ·intro k s q' hk h
    split at h
    ·injection h with h _; exact h.symm
    ·cases h
   ·intro k q' hk
    simp [V.owns,Ty.depth]
   ·intro T' tm'
    refine ⟨by simp,_,rfl,?_⟩
    simp only [Own]
    have hL:newLab (gatherF d [0] 0 (b.n.getD t.depth) b.ms) w L (fun k=>if k=w.heap.size then .own d [0] else .free) w.heap.size = .own d [0]:=by
     unfold newLab
     rw [if_neg (by omega)]
     simp
    refine .inr ⟨w.heap.size,len,cells',by rw [hf.len],by simpa using hL,heap_new _ _,by rw [hf.len]; exact Nat.le_refl _,?_,by rw [hf.size,hcs],fun j hj => ?_⟩
    ·unfold maxLen
     have:len≤len*t.sz:=Nat.le_mul_of_pos_right _ (by omega)
     omega
    ·have:=hf.own (newLab (gatherF d [0] 0 (b.n.getD t.depth) b.ms) w L (fun k=>if k=w.heap.size then .own d [0] else .free)) (w.alloc (.cells cells' e)) d [0] 0 (b.n.getD t.depth) (fun n hn=>by rw [hn]; exact Nat.le_refl _)
      (fun k hk=>newLab_stable hI hk) (fun k hk=>Go.RowKit.Below.heap_alloc w _ k (hI.lt hk)) (gatherF_went hI hn) j hj
     simpa using this
  ·exact h2.elim
 ·exact h.elim
end
end Go.Proofs.YtkanidldnnfloaaGreat.P.Am
set_option linter.unusedVariables false
set_option linter.unusedSimpArgs false
namespace Go.Proofs.YtkanidldnnfloaaGreat.P.Am
abbrev Rec:=List Nat×List (Nat×V)
def Rec.wr (r:Rec):List Nat:=r.2.map (·.1)
def Rec.rd (r:Rec):List Nat:=r.1++r.wr
def stD (D:Nat→Bool):Nat→List Rec→List V→List V
 | _,[],T=>T
 | i,r::rs,T=>stD D (i+1) rs (if D i=true then setAll T r.2 else T)
theorem stD_length [Glob] (D:Nat→Bool):{i:Nat}→{rs:List Rec}→{T:List V}→(stD D i rs T).length=T.length
 | _,[],_=>rfl
 | i,r::rs,T=>by
  simp only [stD]
  rw [stD_length]
  split
  ·exact length_setAll _ _
  ·rfl
theorem setAll_getD_congr [Glob] {ups:List (Nat×V)} {T T':List V} {s:Nat} (hl:T.length=T'.length) (h:T.getD s .dead=T'.getD s .dead):(setAll T ups).getD s .dead=(setAll T' ups).getD s .dead:=by
 unfold setAll
 induction ups generalizing T T' with
 | nil=>exact h
 | cons u l ih =>
  simp only [List.foldl_cons]
  refine ih (by simp [hl]) ?_
  rw [getD_set,getD_set,hl,h]
theorem stD_congr [Glob] {D D':Nat→Bool} {s:Nat}:{i:Nat}→{rs:List Rec}→{T T':List V}→T.length=T'.length→T.getD s .dead=T'.getD s .dead →
  (∀ j r,rs[j]? = some r→s∈r.wr→D (i+j)=D' (i+j))→(stD D i rs T).getD s .dead=(stD D' i rs T').getD s .dead
 | _,[],_,_,_,h,_=>h
 | i,r::rs,T,T',hl,h,H=>by
  simp only [stD]
  refine stD_congr ?_ ?_ (fun j r' hj hs => ?_)
  ·split <;> split <;> simp [length_setAll,hl]
  ·by_cases hs:s∈r.wr
   ·have:=H 0 r rfl hs
    simp only [Nat.add_zero] at this
    rw [this]
    split
    ·exact setAll_getD_congr hl h
    ·exact h
   ·have e1:=getD_setAll r.2 T s hs
    have e2:=getD_setAll r.2 T' s hs
    split <;> split <;> simp only [e1,e2,h]
  ·have:=H (j+1) r' (by simpa using hj) hs
   rwa [show i+1+j=i+(j+1) by omega]
theorem stD_none {D:Nat→Bool}:{i:Nat}→{rs:List Rec}→{T:List V}→(∀ j,i≤j→D j=false)→stD D i rs T=T
 | _,[],_,_=>rfl
 | i,r::rs,T,h=>by
  simp only [stD]
  rw [h i (Nat.le_refl _),if_neg (by simp)]
  exact stD_none (fun j hj=>h j (by omega))
theorem stD_lt_succ [Glob] {n:Nat}:{i:Nat}→{rs:List Rec}→{T:List V}→{r:Rec}→rs[n]? = some r →
  stD (fun j=>decide (j < i+n+1)) i rs T=setAll (stD (fun j=>decide (j < i+n)) i rs T) r.2:=by
 induction n with
 | zero =>
  intro i rs T r h
  cases rs with
  | nil=>simp at h
  | cons r' rs =>
   simp only [List.getElem?_cons_zero,Option.some.injEq] at h
   subst h
   simp only [stD,Nat.add_zero]
   rw [if_pos (by simp),if_neg (by simp),stD_none (fun j hj=>by simp; omega),stD_none (fun j hj=>by simp; omega)]
 | succ n ih =>
  intro i rs T r h
  cases rs with
  | nil=>simp at h
  | cons r' rs =>
   simp only [List.getElem?_cons_succ] at h
   simp only [stD]
   have:=ih (i:=i+1) (T:=if decide (i < i+(n+1))=true then setAll T r'.2 else T) h
   rw [show i+1+n=i+(n+1) by omega] at this
   rw [if_pos (by simp; omega)]
   rw [if_pos (by simp)] at this
   rw [if_pos (by simp)]
   exact this
theorem list_ext {T T':List V} (hl:T.length=T'.length) (h:∀ s,T.getD s .dead=T'.getD s .dead):T=T':=by
 apply List.ext_getElem hl
 intro i h1 h2
 have:=h i
 simpa [List.getD_eq_getElem?_getD,h1,h2] using this
theorem setAll_qok [Glob] {k:Nat} {ups:List (Nat×V)} (hu:∀ u∈ups,qok k u.1 u.2=true):∀ {T:List V},(∀ s,s < T.length→qok k s (T.getD s .dead)=true)→∀ s,s < T.length→qok k s ((setAll T ups).getD s .dead)=true:=by
 unfold setAll
 induction ups with
 | nil=>intro T h s hs; exact h s hs
 | cons u l ih =>
  intro T h s hs
  simp only [List.foldl_cons]
  refine ih (fun u' hu'=>hu u' (by simp [hu'])) (fun s' hs' => ?_) s (by simpa using hs)
  rw [getD_set]
  split
  ·rename_i he
   rw [he.1]
   exact hu u (by simp)
  ·exact h s' (by simpa using hs')
theorem stD_qok [Glob] {k:Nat} {D:Nat→Bool}:{i:Nat}→{rs:List Rec}→{T:List V}→(∀ r∈rs,∀ u∈r.2,qok k u.1 u.2=true)→(∀ s,s < T.length→qok k s (T.getD s .dead)=true)→∀ s,s < T.length→qok k s ((stD D i rs T).getD s .dead)=true
 | _,[],_,_,h=>h
 | i,r::rs,T,hr,h=>by
  simp only [stD]
  intro s hs
  refine stD_qok (fun r' hr'=>hr r' (by simp [hr'])) (fun s' hs' => ?_) s ?_
  ·split
   ·exact setAll_qok (hr r (by simp)) h s' (by split at hs' <;> simpa [length_setAll] using hs')
   ·exact h s' (by split at hs' <;> simpa [length_setAll] using hs')
  ·split
   ·rw [length_setAll]; exact hs
   ·exact hs
theorem stD_ask [Glob] {k:Nat} {D:Nat→Bool} {i:Nat} {rs:List Rec} {T:List V} (hr:∀ r∈rs,∀ u∈r.2,qok k u.1 u.2=true) (h:askOk k T=true):askOk k (stD D i rs T)=true:=by
 unfold askOk at h ⊢
 rw [Bool.and_eq_true] at h ⊢
 rw [stD_length]
 refine ⟨allQ_of fun s hs => ?_,h.2⟩
 rw [Nat.zero_add]
 rw [stD_length] at hs
 exact stD_qok hr (fun s' hs'=>by have:=allQ_get h.1 s' hs'; rwa [Nat.zero_add] at this) s hs
section
variable {ops:Array Oper} {md:Region.Mode}
theorem binds_any {e:Edge} (h:Region.binds .any e=true):Region.binds md e=true:=by
 unfold Region.binds at *
 split <;> simp_all
def Ordered (ops:Array Oper):List Nat→List Nat→Prop
 | _,[]=>True
 | done,i::l=>i ∉ done∧i < ops.size∧(∀ o,ops[i]? = some o→∀ e∈o.after.toList,Region.binds .any e=true→e.on∈done)∧Ordered ops (i::done) l
theorem lin_ordered [Glob]:∀ (fuel t:Nat) (listed:Array Bool) (done:List Nat),listed.size=ops.size→(∀ i,i < ops.size→(listed.getD i false=true↔i∈done))→Ordered ops done (Region.linearise.go md ops fuel t listed []):=by
 intro fuel
 induction fuel with
 | zero=>intro t listed done _ _; simp [Region.linearise.go,Ordered]
 | succ fuel ih =>
  intro t listed done hsz h
  simp only [Region.linearise.go]
  split
  ·rename_i i hi
   rw [linearise_go_acc]
   simp only [List.reverse_cons,List.reverse_nil,List.nil_append,List.singleton_append]
   have hm:=List.mem_of_getElem? hi
   simp only [List.mem_filter,List.mem_range,Bool.and_eq_true,Bool.not_eq_true'] at hm
   obtain ⟨hlt,hl,haf⟩:=hm
   have hl':listed.getD i false=false:=by
    have hlt':i < listed.size:=by omega
    simp only [Array.getD_eq_getD_getElem?,Array.getElem?_eq_getElem hlt',Option.getD_some] at hl ⊢
    exact hl
   refine ⟨fun hd => ?_,hlt,fun o ho e he hb => ?_,?_⟩
   ·rw [(h i hlt).2 hd] at hl'; cases hl'
   ·rw [ho] at haf
    simp only [Option.map_some,Option.getD_some,Array.all_eq_true_iff_forall_mem,Bool.or_eq_true,Bool.not_eq_true'] at haf
    have:=haf e (by simpa using he)
    rw [binds_any hb] at this
    simp only [Bool.true_eq_false,false_or] at this
    have hon:e.on < ops.size:=by
     rcases Nat.lt_or_ge e.on ops.size with h | h
     ·exact h
     ·simp [Array.getD_eq_getD_getElem?,Array.getElem?_eq_none (show listed.size≤e.on by omega)] at this
    exact (h e.on hon).1 this
   ·refine ih _ _ _ (by simp [hsz]) (fun j hj => ?_)
    simp only [Array.getD_eq_getD_getElem?,Array.getElem?_setIfInBounds,List.mem_cons]
    by_cases hji:i=j
    ·subst hji
     simp [hsz,hlt]
    ·have:=h j hj
     simp only [Array.getD_eq_getD_getElem?] at this
     simp [hji,this,Ne.symm hji]
  ·simp [Ordered]
theorem nodup_lt:∀ (n:Nat) (l:List Nat),l.Nodup→(∀ x∈l,x < n)→l.length≤n
 | 0,l,_,h=>by
  cases l with
  | nil=>simp
  | cons x l=>exact absurd (h x (by simp)) (by omega)
 | n+1,l,hn,h=>by
  have h1:=nodup_lt n (l.filter (· != n)) (hn.filter _) (fun x hx=>by
   simp only [List.mem_filter,bne_iff_ne] at hx
   have:=h x hx.1
   omega)
  by_cases hm:n∈l
  ·have:l.length≤(l.filter (· != n)).length+1:=by
    clear h h1
    induction l with
    | nil=>simp
    | cons x l ih =>
     rw [List.nodup_cons] at hn
     by_cases hx:x=n
     ·subst hx
      have:l.filter (· != x)=l:=by
       rw [List.filter_eq_self]
       intro y hy
       simp only [bne_iff_ne]
       rintro rfl
       exact hn.1 hy
      simp [this]
     ·rw [List.filter_cons_of_pos (by simpa using hx)]
      have:=ih hn.2 (by rcases List.mem_cons.1 hm with h | h; exact absurd h.symm hx; exact h)
      simp only [List.length_cons]
      omega
   omega
  ·have:l.filter (· != n)=l:=by
    rw [List.filter_eq_self]
    intro y hy
    simp only [bne_iff_ne]
    rintro rfl
    exact hm hy
   rw [this] at h1
   omega
theorem lin_all [Glob] (hb:∀ (i:Nat) (o:Oper),ops[i]? = some o→∀ e∈o.after.toList,Region.binds md e=true→e.on < i):∀ (fuel t:Nat) (listed:Array Bool) (done:List Nat),listed.size=ops.size→(∀ i,i < ops.size→(listed.getD i false=true↔i∈done)) →
  ops.size≤done.length+fuel→done.Nodup→(∀ i∈done,i < ops.size)→∀ i,i < ops.size→i∈done∨i∈Region.linearise.go md ops fuel t listed []:=by
 intro fuel
 induction fuel with
 | zero =>
  intro t listed done hsz h hle hnd hin i hi
  left
  apply Classical.byContradiction
  intro hni
  have h1:(i::done).Nodup:=List.nodup_cons.2 ⟨hni,hnd⟩
  have:=nodup_lt ops.size (i::done) h1 (fun j hj=>by
   rcases List.mem_cons.1 hj with rfl | hj
   ·exact hi
   ·exact hin j hj)
  simp at this
  omega
 | succ fuel ih =>
  intro t listed done hsz h hle hnd hin i hi
  simp only [Region.linearise.go]
  split
  ·rename_i j hj
   rw [linearise_go_acc]
   simp only [List.reverse_cons,List.reverse_nil,List.nil_append,List.singleton_append,List.mem_cons]
   have hm:=List.mem_of_getElem? hj
   simp only [List.mem_filter,List.mem_range,Bool.and_eq_true,Bool.not_eq_true'] at hm
   obtain ⟨hlt,hl,haf⟩:=hm
   have hjd:j ∉ done:=fun hd=>by
    have:=(h j hlt).2 hd
    have hlt':j < listed.size:=by omega
    simp only [Array.getD_eq_getD_getElem?,Array.getElem?_eq_getElem hlt',Option.getD_some] at hl this
    rw [this] at hl; cases hl
   rcases ih (t / _) (listed.setIfInBounds j true) (j::done) (by simp [hsz]) (fun k hk=>by
    simp only [Array.getD_eq_getD_getElem?,Array.getElem?_setIfInBounds,List.mem_cons]
    by_cases hji:j=k
    ·subst hji
     simp [hsz,hlt]
    ·have:=h k hk
     simp only [Array.getD_eq_getD_getElem?] at this
     simp [hji,this,Ne.symm hji]) (by simp only [List.length_cons]; omega) (List.nodup_cons.2 ⟨hjd,hnd⟩) (fun k hk=>by
     rcases List.mem_cons.1 hk with rfl | hk
     ·exact hlt
     ·exact hin k hk) i hi with h' | h'
   ·rcases List.mem_cons.1 h' with rfl | h'
    ·exact .inr (.inl rfl)
    ·exact .inl h'
   ·exact .inr (.inr h')
  ·rename_i hno
   left
   apply Classical.byContradiction
   intro hni
   have hex:∃ k,k < ops.size∧k ∉ done∧∀ k',k' < k→k'∈done:=by
    have key:∀ n,(∃ k,k < n∧k ∉ done∧k < ops.size)→∃ k,k < ops.size∧k ∉ done∧∀ k',k' < k→k'∈done:=by
     intro n
     induction n with
     | zero=>rintro ⟨k,hk,_⟩; omega
     | succ n ihn =>
      rintro ⟨k,hk,hkd,hks⟩
      by_cases hall:∀ k',k' < k→k'∈done
      ·exact ⟨k,hks,hkd,hall⟩
      ·obtain ⟨k',hk'⟩:=Classical.not_forall.1 hall
       obtain ⟨h1,h2⟩:=Classical.not_imp.1 hk'
       exact ihn ⟨k',by omega,h2,by omega⟩
    exact key (i+1) ⟨i,by omega,hni,hi⟩
   obtain ⟨k,hks,hkd,hall⟩:=hex
   have hready:k∈(List.range ops.size).filter fun i => !listed.getD i true && ((ops[i]?).map (·.after.all fun e => !Region.binds md e || listed.getD e.on false)).getD false:=by
    simp only [List.mem_filter,List.mem_range,Bool.and_eq_true,Bool.not_eq_true']
    refine ⟨hks,?_,?_⟩
    ·have hk':k < listed.size:=by omega
     have h3:¬ (listed.getD k false=true):=fun e=>hkd ((h k hks).1 e)
     simp only [Array.getD_eq_getD_getElem?,Array.getElem?_eq_getElem hk',Option.getD_some] at h3 ⊢
     simpa using h3
    ·rw [Array.getElem?_eq_getElem hks]
     simp only [Option.map_some,Option.getD_some,Array.all_eq_true_iff_forall_mem,Bool.or_eq_true]
     intro e he
     cases hbd:Region.binds md e with
     | false=>exact .inl rfl
     | true =>
      have hlt:=hb k _ (Array.getElem?_eq_getElem hks) e (by simpa using he) hbd
      exact .inr ((h e.on (by omega)).2 (hall _ hlt))
   have hlen:0 < ((List.range ops.size).filter fun i => !listed.getD i true && ((ops[i]?).map (·.after.all fun e => !Region.binds md e || listed.getD e.on false)).getD false).length:=List.length_pos_of_mem hready
   have:=List.getElem?_eq_none_iff.1 hno
   have h4:=Nat.mod_lt t hlen
   omega
theorem sched_ordered [Glob] {mixed:Bool} {t:Nat}:Ordered ops [] (Region.schedule mixed ops t):=by
 unfold Region.schedule
 split
 ·exact lin_ordered _ _ _ _ (by simp) (fun i hi=>by simp [Array.getD_eq_getD_getElem?,hi])
 ·exact lin_ordered _ _ _ _ (by simp) (fun i hi=>by simp [Array.getD_eq_getD_getElem?,hi])
theorem sched_all [Glob] (hb:∀ (i:Nat) (o:Oper),ops[i]? = some o→∀ e∈o.after.toList,Region.binds .any e=true→e.on < i) {t:Nat}:∀ i,i < ops.size→i∈Region.schedule true ops t:=by
 intro i hi
 unfold Region.schedule
 rw [if_pos (by simp)]
 exact (lin_all hb _ _ _ [] (by simp) (fun i hi=>by simp [Array.getD_eq_getD_getElem?,hi]) (by simp) (by simp) (by simp) i hi).resolve_left (by simp)
def preds:List Oper→List Nat→List Nat
 | [],acc=>acc
 | o::l,acc=>preds l (acc++[o.after.foldl (fun s e=>if Region.binds .any e=true then s ||| 2 ^ e.on ||| acc.getD e.on 0 else s) 0])
def Closed (ops:Array Oper) (D:Nat→Prop):Prop:=∀ i,D i→∀ o,ops[i]? = some o→∀ e∈o.after.toList,Region.binds .any e=true→D e.on
theorem fold_bit {acc:List Nat} {k:Nat}:{es:List Edge}→{s0:Nat}→(es.foldl (fun s e=>if Region.binds .any e=true then s ||| 2 ^ e.on ||| acc.getD e.on 0 else s) s0).testBit k=true →
  s0.testBit k=true∨∃ e∈es,Region.binds .any e=true∧(e.on=k∨(acc.getD e.on 0).testBit k=true)
 | [],_,h => .inl h
 | e::es,s0,h=>by
  simp only [List.foldl_cons] at h
  rcases fold_bit h with h | ⟨e',he',h1,h2⟩
  ·split at h
   ·rename_i hb
    simp only [Nat.testBit_or,Bool.or_eq_true] at h
    rcases h with (h | h) | h
    ·exact .inl h
    ·refine .inr ⟨e,by simp,hb,.inl ?_⟩
     rw [Nat.testBit_two_pow] at h
     simpa using h
    ·exact .inr ⟨e,by simp,hb,.inr h⟩
   ·exact .inl h
  ·exact .inr ⟨e',by simp [he'],h1,h2⟩
theorem preds_closed [Glob] {D:Nat→Prop} (hD:Closed ops D):{l:List Oper}→{acc:List Nat}→(∀ j o,l[j]? = some o→ops[acc.length+j]? = some o) →
  (∀ j k,D j→(acc.getD j 0).testBit k=true→D k)→∀ j k,D j→((preds l acc).getD j 0).testBit k=true→D k
 | [],acc,_,h=>h
 | o::l,acc,ho,h=>by
  simp only [preds]
  refine preds_closed hD (fun j o' hj => ?_) (fun j k hj hk => ?_)
  ·have:=ho (j+1) o' (by simpa using hj)
   rw [show acc.length+(j+1)=(acc++[o.after.foldl (fun s e=>if Region.binds .any e=true then s ||| 2 ^ e.on ||| acc.getD e.on 0 else s) 0]).length+j by simp; omega] at this
   exact this
  ·rw [List.getD_eq_getElem?_getD] at hk
   by_cases hlt:j < acc.length
   ·rw [List.getElem?_append_left hlt] at hk
    exact h j k hj (by rw [List.getD_eq_getElem?_getD]; exact hk)
   ·by_cases he:j=acc.length
    ·subst he
     rw [List.getElem?_append_right (Nat.le_refl _)] at hk
     simp only [Nat.sub_self,List.getElem?_cons_zero,Option.getD_some] at hk
     rw [← Array.foldl_toList] at hk
     rcases fold_bit hk with hk | ⟨e,he,hb,hk⟩
     ·simp at hk
     ·have h0:=ho 0 o rfl
      have hon:=hD _ hj o h0 e he hb
      rcases hk with rfl | hk
      ·exact hon
      ·exact h _ _ hon hk
    ·rw [List.getElem?_eq_none (by simp; omega)] at hk
     simp at hk
end
end Go.Proofs.YtkanidldnnfloaaGreat.P.Am
set_option linter.unusedVariables false
set_option linter.unusedSimpArgs false
namespace Go.Proofs.YtkanidldnnfloaaGreat.P.Am
def Act1 (P:Program) (ops:Array Oper) (J:List V→Act→World→Prop) (Q:Exit→Act→World→Prop) (o:Oper) (T T':List V):Prop :=
 ∀ (a:Act) (w:World),J T a w→∀ K:Act→World→Prop,(∀ a' w',J T' a' w'→K a' w') →
  if Region.wanted o (yielded ops a.tmps)=true then o.wp P a w K Q else K (a.put o.dst undef) w
def Tied (ops:Array Oper) (recs:List Rec):Prop :=
 ∀ i j ri rj,i < j→recs[i]? = some ri→recs[j]? = some rj→(∃ s,s < tagK∧((s∈ri.wr∧s∈rj.rd)∨(s∈rj.wr∧s∈ri.rd))) →
  ((preds ops.toList []).getD j 0).testBit i=true
section
variable {P:Program} {ops:Array Oper} {J:List V→Act→World→Prop} {Q:Exit→Act→World→Prop} {N:Nat} {recs:List Rec} {T0:List V}
theorem wpOps_step {i:Nat} {o:Oper} {l:List Nat} {a:Act} {w:World} (ho:ops[i]? = some o)
  (h:if Region.wanted o (yielded ops a.tmps)=true then o.wp P a w (wpOps P ops Q l) Q else wpOps P ops Q l (a.put o.dst undef) w):wpOps P ops Q (i::l) a w:=by
 simp only [wpOps,ho]
 split
 ·rename_i hw
  rw [if_pos hw] at h
  exact .inl h
 ·rename_i hw
  rw [if_neg hw] at h
  exact h
theorem mem_wr_rd {r:Rec} {s:Nat} (h:s∈r.wr):s∈r.rd:=List.mem_append_right _ h
theorem region_any [Glob] (hT0:T0.length=N) (hN:N≤tagK) (hn:recs.length=ops.size) (hask:∀ r∈recs,∀ s∈r.1,tagK≤s→askOk s T0=true∧∀ r'∈recs,∀ u∈r'.2,qok s u.1 u.2=true)
  (hloc:∀ i o r,ops[i]? = some o→recs[i]? = some r→∀ T,T.length=N→(∀ s∈r.rd,s < tagK→T.getD s .dead=(stD (fun j=>decide (j < i)) 0 recs T0).getD s .dead)→(∀ s∈r.1,tagK≤s→askOk s T=true)→Act1 P ops J Q o T (setAll T r.2))
  (hc:Tied ops recs) (hQ:∀ a' w',J (stD (fun _=>true) 0 recs T0) a' w'→Q .normal a' w') :
  ∀ (l done:List Nat),Ordered ops done l→Closed ops (· ∈ done)→(∀ i,i < ops.size→i∈done∨i∈l)→∀ a w,J (stD (fun j=>done.contains j) 0 recs T0) a w→wpOps P ops Q l a w
 | [],done,_,_,hall,a,w,hJ=>by
  simp only [wpOps]
  apply hQ
  have:stD (fun _=>true) 0 recs T0=stD (fun j=>done.contains j) 0 recs T0:=by
   refine list_ext (by rw [stD_length,stD_length]) (fun s=>stD_congr rfl rfl (fun j r hj _ => ?_))
   have hlt:j < ops.size:=by
    rw [← hn]
    exact (List.getElem?_eq_some_iff.1 hj).1
   have:=(hall j hlt).resolve_right (by simp)
   simp [this]
  rw [this]
  exact hJ
 | i::l,done,⟨hid,hlt,haf,hord⟩,hcl,hall,a,w,hJ=>by
  obtain ⟨r,hr⟩:∃ r,recs[i]? = some r:=⟨_,List.getElem?_eq_getElem (by rw [hn]; exact hlt)⟩
  have ho:ops[i]? = some ops[i]:=Array.getElem?_eq_getElem hlt
  refine wpOps_step ho ?_
  have hpred:∀ k,((preds ops.toList []).getD i 0).testBit k=true→k∈i::done→True:=fun _ _ _=>trivial
  have hcl':Closed ops (· ∈ i::done):=by
   intro j hj o' ho' e he hb
   rcases List.mem_cons.1 hj with rfl | hj
   ·exact List.mem_cons_of_mem _ (haf o' ho' e he hb)
   ·exact List.mem_cons_of_mem _ (hcl j hj o' ho' e he hb)
  have hpre:∀ {D:Nat→Prop},Closed ops D→∀ j k,D j→((preds ops.toList []).getD j 0).testBit k=true→D k:=fun hD j k hj hk =>
   preds_closed hD (l:=ops.toList) (acc:=[]) (fun j o hj=>by simpa using hj) (fun j k _ h=>by simp at h) j k hj hk
  have hkey:∀ j rj s,recs[j]? = some rj→j≠i→s < tagK→(s∈rj.wr∧s∈r.rd)→(done.contains j=decide (j < i)):=by
   intro j rj s hj hji hsk hs
   rcases Nat.lt_or_gt_of_ne hji with h | h
   ·have:=hc j i rj r h hj hr ⟨s,hsk,.inl hs⟩
    have:=hpre hcl' i j (by simp) this
    have hjd:j∈done:=by
     rcases List.mem_cons.1 this with rfl | h
     ·exact absurd rfl hji
     ·exact h
    simp [hjd,h]
   ·have hp:=hc i j r rj h hr hj ⟨s,hsk,.inr hs⟩
    have hjd:j ∉ done:=fun hjd=>hid (hpre hcl j i hjd hp)
    simp [hjd]
    omega
  have hagree:∀ s∈r.rd,s < tagK→(stD (fun j=>done.contains j) 0 recs T0).getD s .dead=(stD (fun j=>decide (j < i)) 0 recs T0).getD s .dead:=by
   intro s hs hsk
   refine stD_congr rfl rfl (fun j rj hj hw => ?_)
   simp only [Nat.zero_add]
   by_cases hji:j=i
   ·subst hji
    simp [hid]
   ·exact hkey j rj s hj hji hsk ⟨hw,hs⟩
  have hact:=hloc i _ r ho hr _ (by rw [stD_length,hT0]) hagree (fun s hs hk=>by
   obtain ⟨h1,h2⟩:=hask r (List.mem_of_getElem? hr) s hs hk
   exact stD_ask h2 h1) a w hJ
  refine hact _ (fun a' w' hJ'=>region_any hT0 hN hn hask hloc hc hQ l (i::done) hord hcl' (fun k hk => ?_) a' w' ?_)
  ·rcases hall k hk with h | h
   ·exact .inl (by simp [h])
   ·rcases List.mem_cons.1 h with rfl | h
    ·exact .inl (by simp)
    ·exact .inr h
  ·have:stD (fun j=>(i::done).contains j) 0 recs T0=setAll (stD (fun j=>done.contains j) 0 recs T0) r.2:=by
    refine list_ext (by rw [stD_length,length_setAll,stD_length]) (fun s => ?_)
    by_cases hsk:s < tagK
    case neg=>rw [getD_out (by rw [stD_length,hT0]; omega),getD_out (by rw [length_setAll,stD_length,hT0]; omega)]
    by_cases hs:s∈r.wr
    ·have h1:(setAll (stD (fun j=>done.contains j) 0 recs T0) r.2).getD s .dead=(setAll (stD (fun j=>decide (j < i)) 0 recs T0) r.2).getD s .dead :=
      setAll_getD_congr (by rw [stD_length,stD_length]) (hagree s (mem_wr_rd hs) hsk)
     have h2:=stD_lt_succ (i:=0) (T:=T0) hr
     simp only [Nat.zero_add] at h2
     rw [h1,← h2]
     refine stD_congr rfl rfl (fun j rj hj hw => ?_)
     simp only [Nat.zero_add]
     by_cases hji:j=i
     ·subst hji
      simp
     ·have h3:=hkey j rj s hj hji hsk ⟨hw,mem_wr_rd hs⟩
      simp only [List.contains_cons,h3]
      have:(j == i)=false:=by simpa using hji
      rw [this,Bool.false_or]
      simp
      omega
    ·rw [getD_setAll _ _ _ hs]
     refine stD_congr rfl rfl (fun j rj hj hw => ?_)
     simp only [Nat.zero_add]
     have hji:j≠i:=by
      rintro rfl
      rw [hr] at hj
      injection hj with hj
      subst hj
      exact hs hw
     simp [hji]
   rw [this]
   exact hJ'
def mask:List Nat→Nat
 | []=>0
 | s::l=>cond (Nat.blt s tagK) (2 ^ s ||| mask l) (mask l)
theorem mask_bit {l:List Nat} {s:Nat} (h:s∈l) (hk:s < tagK):(mask l).testBit s=true:=by
 induction l with
 | nil=>cases h
 | cons x l ih =>
  simp only [mask]
  cases hx:Nat.blt x tagK with
  | true =>
   simp only [cond_true,Nat.testBit_or,Bool.or_eq_true]
   rcases List.mem_cons.1 h with rfl | h
   ·left; simp [Nat.testBit_two_pow]
   ·exact .inr (ih h)
  | false =>
   rcases List.mem_cons.1 h with rfl | h
   ·have:Nat.blt s tagK=true:=by rw [Nat.blt_eq]; exact hk
    rw [hx] at this; cases this
   ·exact ih h
def tiedAt (pj rj wj:Nat):Nat→List (Nat×Nat)→Bool
 | _,[]=>true
 | i,(ri,wi)::l=>((wi &&& rj == 0 && wj &&& ri == 0) || pj.testBit i) && tiedAt pj rj wj (i+1) l
def tiedB:List Nat→List (Nat×Nat)→List (Nat×Nat)→Bool
 | pj::ps,done,(rj,wj)::l=>tiedAt pj rj wj 0 done && tiedB ps (done++[(rj,wj)]) l
 | _,_,_=>true
theorem tiedAt_spec {pj rj wj:Nat}:{i:Nat}→{l:List (Nat×Nat)}→tiedAt pj rj wj i l=true→∀ k ri wi,l[k]? = some (ri,wi)→(wi &&& rj=0∧wj &&& ri=0)∨pj.testBit (i+k)=true
 | _,[],_,k,ri,wi,hk=>by simp at hk
 | i,(r,w)::l,h,k,ri,wi,hk=>by
  simp only [tiedAt,Bool.and_eq_true,Bool.or_eq_true,beq_iff_eq] at h
  cases k with
  | zero =>
   simp only [List.getElem?_cons_zero,Option.some.injEq,Prod.mk.injEq] at hk
   obtain ⟨rfl,rfl⟩:=hk
   exact h.1
  | succ k =>
   have:=tiedAt_spec h.2 k ri wi (by simpa using hk)
   rwa [show i+1+k=i+(k+1) by omega] at this
theorem tiedB_spec [Glob]:{ps:List Nat}→{done l:List (Nat×Nat)}→tiedB ps done l=true→ps.length=l.length→∀ k pj rj wj,ps[k]? = some pj→l[k]? = some (rj,wj) →
  ∀ i ri wi,i < done.length+k→(done++l)[i]? = some (ri,wi)→(wi &&& rj=0∧wj &&& ri=0)∨pj.testBit i=true
 | [],_,_,_,_,_,_,_,_,hk,_,_,_,_,_,_=>by simp at hk
 | p::ps,done,[],_,hl,_,_,_,_,_,_,_,_,_,_,_=>by simp at hl
 | p::ps,done,(r,w)::l,h,hl,k,pj,rj,wj,hk,hj,i,ri,wi,hi,hii=>by
  simp only [tiedB,Bool.and_eq_true] at h
  cases k with
  | zero =>
   simp only [List.getElem?_cons_zero,Option.some.injEq,Prod.mk.injEq] at hk hj
   subst hk
   obtain ⟨rfl,rfl⟩:=hj
   rw [List.getElem?_append_left (by simpa using hi)] at hii
   have:=tiedAt_spec h.1 i ri wi hii
   simpa using this
  | succ k =>
   refine tiedB_spec h.2 (by simpa using hl) k pj rj wj (by simpa using hk) (by simpa using hj) i ri wi (by simp; omega) ?_
   simpa using hii
theorem preds_length:{l:List Oper}→{acc:List Nat}→(preds l acc).length=acc.length+l.length
 | [],_=>rfl
 | o::l,acc=>by simp only [preds,preds_length,List.length_append,List.length_cons,List.length_nil]; omega
theorem tied_of [Glob] {recs:List Rec} (hn:recs.length=ops.size) (h:tiedB (preds ops.toList []) [] (recs.map fun r=>(mask r.rd,mask r.wr))=true):Tied ops recs:=by
 intro i j ri rj hij hi hj hs
 have hlt:j < ops.size:=by rw [← hn]; exact (List.getElem?_eq_some_iff.1 hj).1
 have hp:(preds ops.toList [])[j]? = some ((preds ops.toList []).getD j 0):=by
  rw [List.getD_eq_getElem?_getD,List.getElem?_eq_getElem (by rw [preds_length]; simpa using hlt)]
  rfl
 have:=tiedB_spec h (by rw [preds_length]; simp [hn]) j _ (mask rj.rd) (mask rj.wr) hp (by simp [hj]) i (mask ri.rd) (mask ri.wr) (by simpa using hij) (by simp [hi])
 rcases this with ⟨h1,h2⟩ | h
 ·exfalso
  obtain ⟨s,hsk,⟨ha,hb⟩ | ⟨ha,hb⟩⟩:=hs
  ·have:(mask ri.wr &&& mask rj.rd).testBit s=true:=by rw [Nat.testBit_and,mask_bit ha hsk,mask_bit hb hsk]; rfl
   rw [h1] at this
   simp at this
  ·have:(mask rj.wr &&& mask ri.rd).testBit s=true:=by rw [Nat.testBit_and,mask_bit ha hsk,mask_bit hb hsk]; rfl
   rw [h2] at this
   simp at this
 ·exact h
def backB:Nat→List Oper→Bool
 | _,[]=>true
 | i,o::l=>o.after.all (fun e => !Region.binds .any e || decide (e.on < i)) && backB (i+1) l
theorem backB_spec:{i:Nat}→{l:List Oper}→backB i l=true→∀ (k:Nat) (o:Oper),l[k]? = some o→∀ e∈o.after.toList,Region.binds .any e=true→e.on < i+k
 | _,[],_,k,o,hk,_,_,_=>by simp at hk
 | i,x::l,h,k,o,hk,e,he,hbd=>by
  simp only [backB,Bool.and_eq_true] at h
  cases k with
  | zero =>
   simp only [List.getElem?_cons_zero,Option.some.injEq] at hk
   subst hk
   have:=Array.all_eq_true_iff_forall_mem.1 h.1 e (by simpa using he)
   rw [hbd] at this
   simpa using this
  | succ k =>
   have:=backB_spec h.2 k o (by simpa using hk) e he hbd
   omega
theorem backs [Glob] (h:backB 0 ops.toList=true):∀ (i:Nat) (o:Oper),ops[i]? = some o→∀ e∈o.after.toList,Region.binds .any e=true→e.on < i:=fun i o ho e he hbd=>by
 have:=backB_spec h i o (by simpa using ho) e he hbd
 simpa using this
def asksB (T0:List V) (recs:List Rec):Bool:=recs.all fun r=>r.1.all fun s=>cond (Nat.blt s tagK) true (askOk s T0 && recs.all fun r'=>r'.2.all fun u=>qok s u.1 u.2)
theorem asks_of {T0:List V} {recs:List Rec} (h:asksB T0 recs=true):∀ r∈recs,∀ s∈r.1,tagK≤s→askOk s T0=true∧∀ r'∈recs,∀ u∈r'.2,qok s u.1 u.2=true:=by
 intro r hr s hs hk
 unfold asksB at h
 rw [List.all_eq_true] at h
 have h1:=h r hr
 rw [List.all_eq_true] at h1
 have h2:=h1 s hs
 have hb:Nat.blt s tagK=false:=by
  rw [Bool.eq_false_iff]
  intro hb
  rw [Nat.blt_eq] at hb
  exact Nat.not_lt.2 hk hb
 rw [hb,cond_false,Bool.and_eq_true,List.all_eq_true] at h2
 refine ⟨h2.1,fun r' hr' u hu => ?_⟩
 have h3:=h2.2 r' hr'
 rw [List.all_eq_true] at h3
 exact h3 u hu
end
end Go.Proofs.YtkanidldnnfloaaGreat.P.Am
set_option linter.unusedVariables false
set_option linter.unusedSimpArgs false
namespace Go.Proofs.YtkanidldnnfloaaGreat.P.Am
inductive Ex where
 | nrm
 | ext (id:Nat)
 | ret
def keepL (ks:Nat):Nat→List V→List V
 | _,[]=>[]
 | i,v::l=>(cond (ks.testBit i) v .dead)::keepL ks (i+1) l
def keepOk (ks:Nat) (T:List V):Nat→List V→Bool
 | _,[]=>true
 | i,v::l=>(!ks.testBit i || (match v.root with
  | none=>true
  | some r=>ks.testBit r || !(T.getD r .dead).owns)) && keepOk ks T (i+1) l
def frzV (k:Nat):V→V
 | .d l n t x => .d l (min k n) t x
 | .box l n t x => .box l (min k n) t x
 | v=>v
def V.icy:V→Bool
 | .d .. => true
 | .box .. => true
 | _=>false
def V.lvl:V→Nat
 | .d _ n _ _=>n
 | .box _ n _ _=>n
 | _=>0
def noneOn (r:Nat):List V→Bool
 | []=>true
 | v::l => !v.on r && noneOn r l
def iceOk (m:Nat) (T:List V):Nat→List V→Bool
 | _,[]=>true
 | i,v::l=>(!(m.testBit (1000+i) || m.testBit (2000+i)) || (v.icy && noneOn i T)) && iceOk m T (i+1) l
def iceL (m:Nat):Nat→List V→List V
 | _,[]=>[]
 | i,v::l=>(cond (m.testBit (1000+i)) (frzV 0 v) (cond (m.testBit (2000+i)) (frzV 1 v) v))::iceL m (i+1) l
def keepK {R:Type} (ks:Option Nat) (T:List V) (K:List V→Option R):Option R :=
 match ks with
 | none=>K T
 | some m=>cond (keepOk m T 0 T) (cond (decide (m < 2 ^ 1000)) (K (keepL m 0 T)) (cond (iceOk m (keepL m 0 T) 0 (keepL m 0 T)) (K (iceL m 0 (keepL m 0 T))) none)) none
structure Env where
 step:Oper→M (List (Nat×V))
 N:Nat
 pins:Nat→Bool
 keep:Nat→Option Nat
def pinOk (E:Env) (o:Oper):Bool:=match o.dst with
 | some d => !E.pins d
 | none=>true
def skipUps (E:Env) (o:Oper) (T:List V):Option (List Nat×List (Nat×V)):=match o.dst with
 | none=>some ([],[])
 | some d=>cond ((T.getD d .dead).idle && decide (d < E.N)) (some ([d],[(d,.tup [])])) none
def opsK {R:Type} (E:Env) (ops:Array Oper) (draw:Bool) (K:List V→Option R) (T0:List V):List Oper→List V→List Rec→Option R
 | [],T,recs=>cond (!draw || (backB 0 ops.toList && tiedB (preds ops.toList []) [] (recs.map fun r=>(mask r.rd,mask r.wr)) && asksB T0 recs && decide (E.N≤tagK))) (K T) none
 | o::l,T,recs=>cond (pinOk E o) (match o.guard with
  | none=>(E.step o).runK T [] fun log ups=>opsK E ops draw K T0 l (setAll T ups) (recs++[(log,ups)])
  | some (j,want)=>match (ops[j]?).bind (·.dst) with
   | none=>none
   | some g=>match T.getD g .dead with
    | .d l0 n0 .bool b=>cond b
      (cond want
       ((E.step o).runK (T.set g (.d l0 n0 .bool true)) [g] fun log ups=>opsK E ops draw K T0 l (setAll (T.set g (.d l0 n0 .bool true)) ups) (recs++[(log,ups)]))
       ((skipUps E o (T.set g (.d l0 n0 .bool true))).bind fun u=>opsK E ops draw K T0 l (setAll (T.set g (.d l0 n0 .bool true)) u.2) (recs++[(g::u.1,u.2)])))
      (cond want
       ((skipUps E o (T.set g (.d l0 n0 .bool false))).bind fun u=>opsK E ops draw K T0 l (setAll (T.set g (.d l0 n0 .bool false)) u.2) (recs++[(g::u.1,u.2)]))
       ((E.step o).runK (T.set g (.d l0 n0 .bool false)) [g] fun log ups=>opsK E ops draw K T0 l (setAll (T.set g (.d l0 n0 .bool false)) ups) (recs++[(log,ups)])))
    | .tup []=>(skipUps E o T).bind fun u=>opsK E ops draw K T0 l (setAll T u.2) (recs++[(g::u.1,u.2)])
    | _=>none) none
def iterO {α R:Type} (B:(α→Option R)→α→Option R):Nat→α→Option R
 | 0,_=>none
 | n+1,x=>B (iterO B n) x
noncomputable def fixO {α R:Type} (B:(α→Option R)→α→Option R) (x:α):Option R :=
 open Classical in if h:∃ n r,iterO B n x=some r then some (Classical.choose (Classical.choose_spec h)) else none
def TailO {α R:Type} (B:(α→Option R)→α→Option R):Prop :=
 ∀ f x r,B f x=some r→(∀ g,B g x=some r)∨∃ y,f y=some r∧∀ g,g y=some r→B g x=some r
theorem iterO_succ {α R:Type} {B:(α→Option R)→α→Option R} (hB:TailO B):∀ n x r,iterO B n x=some r→iterO B (n+1) x=some r
 | 0,x,r,h=>by cases h
 | n+1,x,r,h=>by
  simp only [iterO] at h
  rcases hB _ _ _ h with h | ⟨y,hy,h⟩
  ·exact h _
  ·exact h _ (iterO_succ hB n y r hy)
theorem iterO_le [Glob] {α R:Type} {B:(α→Option R)→α→Option R} (hB:TailO B) {n m:Nat} (h:n≤m) {x:α} {r:R} (hr:iterO B n x=some r):iterO B m x=some r:=by
 induction h with
 | refl=>exact hr
 | step _ ih=>exact iterO_succ hB _ _ _ ih
theorem fixO_some [Glob] {α R:Type} {B:(α→Option R)→α→Option R} (hB:TailO B) {x:α} {r:R}:fixO B x=some r↔∃ n,iterO B n x=some r:=by
 unfold fixO
 constructor
 ·intro h
  split at h
  ·rename_i hh
   injection h with h
   have:=Classical.choose_spec (Classical.choose_spec hh)
   rw [h] at this
   exact ⟨_,this⟩
  ·cases h
 ·rintro ⟨n,hn⟩
  have hh:∃ n r,iterO B n x=some r:=⟨n,r,hn⟩
  rw [dif_pos hh]
  have h1:=Classical.choose_spec (Classical.choose_spec hh)
  have h2:=iterO_le hB (Nat.le_max_left _ n) h1
  have h3:=iterO_le hB (Nat.le_max_right (Classical.choose hh) n) hn
  rw [h2] at h3
  exact h3
theorem fixO_eq [Glob] {α R:Type} {B:(α→Option R)→α→Option R} (hB:TailO B) (x:α):fixO B x=B (fixO B) x:=by
 have key:∀ r,fixO B x=some r↔B (fixO B) x=some r:=by
  intro r
  constructor
  ·intro h
   obtain ⟨n,hn⟩:=(fixO_some hB).1 h
   cases n with
   | zero=>cases hn
   | succ n =>
    rcases hB _ _ _ hn with h | ⟨y,hy,h⟩
    ·exact h _
    ·exact h _ ((fixO_some hB).2 ⟨n,hy⟩)
  ·intro h
   rcases hB _ _ _ h with h | ⟨y,hy,h⟩
   ·exact (fixO_some hB).2 ⟨1,h _⟩
   ·obtain ⟨n,hn⟩:=(fixO_some hB).1 hy
    exact (fixO_some hB).2 ⟨n+1,h _ hn⟩
 cases h1:fixO B x with
 | some r=>exact ((key r).1 h1).symm
 | none =>
  cases h2:B (fixO B) x with
  | none=>rfl
  | some r=>rw [(key r).2 h2] at h1; cases h1
def firstRegion:Code→Option Nat
 | .region id _ _=>some id
 | .seq a b=>match firstRegion a with
  | some i=>some i
  | none=>firstRegion b
 | .block _ c=>firstRegion c
 | .loop c=>firstRegion c
 | .cond _ a _=>firstRegion a
 | _=>none
def loopKey (c:Code):Nat:=1000000+(firstRegion c).getD 0
def joinKey (c:Code):Nat:=2000000+(firstRegion c).getD 0
noncomputable def denK (E:Env) {R:Type}:Code→(Ex→List V→Option R)→List V→Option R
 | .skip,k,T=>k .nrm T
 | .label _,k,T=>k .nrm T
 | .region id ops draw,k,T=>keepK (E.keep id) T fun T=>opsK E ops draw (k .nrm) T ops.toList T []
 | .seq a b,k,T=>denK E a (fun e T'=>match e with
  | .nrm=>keepK (E.keep (joinKey b)) T' (denK E b k)
  | .ext i=>k (.ext i) T'
  | .ret=>k .ret T') T
 | .cond (.tmp t) a b,k,T=>match T.getD t .dead with
  | .d l0 n0 .bool x=>cond x (denK E a k (T.set t (.d l0 n0 .bool true))) (denK E b k (T.set t (.d l0 n0 .bool false)))
  | _=>none
 | .block id c,k,T=>denK E c (fun e T'=>match e with
  | .nrm=>k .nrm T'
  | .ext i=>cond (i == id) (k .nrm T') (k (.ext i) T')
  | .ret=>k .ret T') T
 | .exit id,k,T=>k (.ext id) T
 | .loop c,k,T=>keepK (E.keep (loopKey c)) T (fixO fun self T=>denK E c (fun e T'=>match e with
  | .nrm=>keepK (E.keep (loopKey c)) T' self
  | .ext i=>k (.ext i) T'
  | .ret=>k .ret T') T)
 | .ret,k,T=>k .ret T
 | _,_,_=>none
theorem keepK_tail {R:Type} {ks:Option Nat} {T:List V} {K:List V→Option R} {r:R} (h:keepK ks T K=some r):∃ T',K T'=some r∧∀ K':List V→Option R,K' T'=some r→keepK ks T K'=some r:=by
 unfold keepK at h ⊢
 cases ks with
 | none=>exact ⟨T,h,fun K' h=>h⟩
 | some m =>
  dsimp only at h ⊢
  cases hc:keepOk m T 0 T with
  | true =>
   rw [hc] at h
   simp only [cond_true] at h ⊢
   cases hd:decide (m < 2 ^ 1000) with
   | true=>rw [hd] at h; exact ⟨_,h,fun K' h=>h⟩
   | false =>
    rw [hd] at h
    simp only [cond_false] at h ⊢
    cases he:iceOk m (keepL m 0 T) 0 (keepL m 0 T) with
    | true=>rw [he] at h; exact ⟨_,h,fun K' h=>h⟩
    | false=>rw [he] at h; cases h
  | false=>rw [hc] at h; cases h
theorem opsK_tail {R:Type} {E:Env} {ops:Array Oper} {draw:Bool} {K:List V→Option R} {T0:List V} {r:R}:{l:List Oper}→{T:List V}→{recs:List Rec}→opsK E ops draw K T0 l T recs=some r →
  ∃ T',K T'=some r∧∀ K':List V→Option R,K' T'=some r→opsK E ops draw K' T0 l T recs=some r
 | [],T,recs,h=>by
  simp only [opsK] at h ⊢
  cases hc:(!draw || (backB 0 ops.toList && tiedB (preds ops.toList []) [] (recs.map fun r=>(mask r.rd,mask r.wr)) && asksB T0 recs && decide (E.N≤tagK))) with
  | true=>rw [hc] at h; exact ⟨T,h,fun K' h=>h⟩
  | false=>rw [hc] at h; cases h
 | o::l,T,recs,h=>by
  have hrun:∀ {T1:List V} {l0:List Nat},((E.step o).runK T1 l0 fun log ups=>opsK E ops draw K T0 l (setAll T1 ups) (recs++[(log,ups)]))=some r →
    ∃ T',K T'=some r∧∀ K':List V→Option R,K' T'=some r→((E.step o).runK T1 l0 fun log ups=>opsK E ops draw K' T0 l (setAll T1 ups) (recs++[(log,ups)]))=some r:=by
   intro T1 l0 h
   obtain ⟨ups,log,h1,h2⟩:=M.runK_some h
   obtain ⟨T',h3,h4⟩:=opsK_tail h2
   exact ⟨T',h3,fun K' hK=>M.runK_of h1 (h4 K' hK)⟩
  have hskip:∀ {T1:List V} {g:Nat},((skipUps E o T1).bind fun u=>opsK E ops draw K T0 l (setAll T1 u.2) (recs++[(g::u.1,u.2)]))=some r →
    ∃ T',K T'=some r∧∀ K':List V→Option R,K' T'=some r→((skipUps E o T1).bind fun u=>opsK E ops draw K' T0 l (setAll T1 u.2) (recs++[(g::u.1,u.2)]))=some r:=by
   intro T1 g h
   obtain ⟨u,h1,h2⟩:=Option.bind_eq_some_iff.1 h
   obtain ⟨T',h3,h4⟩:=opsK_tail h2
   exact ⟨T',h3,fun K' hK=>by rw [h1]; exact h4 K' hK⟩
  simp only [opsK] at h ⊢
  cases hp:pinOk E o with
  | false=>rw [hp] at h; cases h
  | true =>
   rw [hp] at h
   simp only [cond_true] at h ⊢
   split at h
   ·exact hrun h
   ·split at h
    ·cases h
    ·split at h
     ·rename_i j want _ _ g _ _ l0 n0 b _
      cases b with
      | true =>
       simp only [cond_true] at h ⊢
       cases want with
       | true=>exact hrun h
       | false=>exact hskip h
      | false =>
       simp only [cond_false] at h ⊢
       cases want with
       | true=>exact hskip h
       | false=>exact hrun h
     ·exact hskip h
     ·cases h
theorem denK_tail [Glob] {R:Type} {E:Env}:{c:Code}→{k:Ex→List V→Option R}→{T:List V}→{r:R}→denK E c k T=some r →
  ∃ e T',k e T'=some r∧∀ k':Ex→List V→Option R,k' e T'=some r→denK E c k' T=some r
 | .skip,k,T,r,h=>⟨.nrm,T,h,fun k' h=>h⟩
 | .label _,k,T,r,h=>⟨.nrm,T,h,fun k' h=>h⟩
 | .exit id,k,T,r,h=>⟨.ext id,T,h,fun k' h=>h⟩
 | .ret,k,T,r,h=>⟨.ret,T,h,fun k' h=>h⟩
 | .region id ops draw,k,T,r,h=>by
  simp only [denK] at h ⊢
  obtain ⟨T1,h1,h2⟩:=keepK_tail h
  obtain ⟨T',h3,h4⟩:=opsK_tail h1
  exact ⟨.nrm,T',h3,fun k' hk=>h2 _ (h4 (k' .nrm) hk)⟩
 | .seq a b,k,T,r,h=>by
  simp only [denK] at h ⊢
  obtain ⟨e,T1,h1,h2⟩:=denK_tail h
  cases e with
  | nrm =>
   obtain ⟨T2,h5,h6⟩:=keepK_tail h1
   obtain ⟨e,T',h3,h4⟩:=denK_tail h5
   exact ⟨e,T',h3,fun k' hk=>h2 _ (h6 _ (h4 k' hk))⟩
  | ext i=>exact ⟨.ext i,T1,h1,fun k' hk=>h2 _ hk⟩
  | ret=>exact ⟨.ret,T1,h1,fun k' hk=>h2 _ hk⟩
 | .cond c a b,k,T,r,h=>by
  cases c with
  | tmp t =>
   simp only [denK] at h ⊢
   split at h
   ·rename_i x _
    cases x with
    | true=>exact denK_tail h
    | false=>exact denK_tail h
   ·cases h
  | const _=>simp [denK] at h
  | func _=>simp [denK] at h
  | global _=>simp [denK] at h
 | .block id c,k,T,r,h=>by
  simp only [denK] at h ⊢
  obtain ⟨e,T1,h1,h2⟩:=denK_tail h
  cases e with
  | nrm=>exact ⟨.nrm,T1,h1,fun k' hk=>h2 _ hk⟩
  | ext i =>
   dsimp only at h1
   cases hi:i == id with
   | true=>rw [hi] at h1; exact ⟨.nrm,T1,h1,fun k' hk=>h2 _ (by simp only [hi]; exact hk)⟩
   | false=>rw [hi] at h1; exact ⟨.ext i,T1,h1,fun k' hk=>h2 _ (by simp only [hi]; exact hk)⟩
  | ret=>exact ⟨.ret,T1,h1,fun k' hk=>h2 _ hk⟩
 | .loop c,k,T,r,h=>by
  have turn:∀ (k:Ex→List V→Option R),TailO (fun (self:List V→Option R) T=>denK E c (fun e T'=>match e with
    | .nrm=>keepK (E.keep (loopKey c)) T' self
    | .ext i=>k (.ext i) T'
    | .ret=>k .ret T') T):=by
   intro k f x r h
   obtain ⟨e,T1,h1,h2⟩:=denK_tail h
   cases e with
   | nrm =>
    obtain ⟨T2,h3,h4⟩:=keepK_tail h1
    exact .inr ⟨T2,h3,fun g hg=>h2 _ (h4 g hg)⟩
   | ext i=>exact .inl fun g=>h2 _ h1
   | ret=>exact .inl fun g=>h2 _ h1
  simp only [denK] at h ⊢
  obtain ⟨T1,h1,h2⟩:=keepK_tail h
  obtain ⟨n,hn⟩:=(fixO_some (turn k)).1 h1
  have key:∀ n T1,iterO (fun (self:List V→Option R) T=>denK E c (fun e T'=>match e with
    | .nrm=>keepK (E.keep (loopKey c)) T' self
    | .ext i=>k (.ext i) T'
    | .ret=>k .ret T') T) n T1=some r→∃ e T',k e T'=some r∧∀ k':Ex→List V→Option R,k' e T'=some r→iterO (fun (self:List V→Option R) T=>denK E c (fun e T'=>match e with
    | .nrm=>keepK (E.keep (loopKey c)) T' self
    | .ext i=>k' (.ext i) T'
    | .ret=>k' .ret T') T) n T1=some r:=by
   intro n
   induction n with
   | zero=>intro T1 h; cases h
   | succ n ih =>
    intro T1 h
    simp only [iterO] at h ⊢
    obtain ⟨e,T2,h3,h4⟩:=denK_tail h
    cases e with
    | nrm =>
     obtain ⟨T3,h5,h6⟩:=keepK_tail h3
     obtain ⟨e,T',h7,h8⟩:=ih T3 h5
     exact ⟨e,T',h7,fun k' hk=>h4 _ (h6 _ (h8 k' hk))⟩
    | ext i=>exact ⟨.ext i,T2,h3,fun k' hk=>h4 _ hk⟩
    | ret=>exact ⟨.ret,T2,h3,fun k' hk=>h4 _ hk⟩
  obtain ⟨e,T',h3,h4⟩:=key n T1 hn
  exact ⟨e,T',h3,fun k' hk=>h2 _ ((fixO_some (turn k')).2 ⟨n,h4 k' hk⟩)⟩
 | .rangeFunc ..,k,T,r,h=>by simp [denK] at h
 | .scope _,k,T,r,h=>by simp [denK] at h
 | .goto _,k,T,r,h=>by simp [denK] at h
 | .refuse _,k,T,r,h=>by simp [denK] at h
theorem turn_tail [Glob] {R:Type} {E:Env} {c:Code} (k:Ex→List V→Option R):TailO (fun (self:List V→Option R) T=>denK E c (fun e T'=>match e with
  | .nrm=>keepK (E.keep (loopKey c)) T' self
  | .ext i=>k (.ext i) T'
  | .ret=>k .ret T') T):=by
 intro f x r h
 obtain ⟨e,T1,h1,h2⟩:=denK_tail h
 cases e with
 | nrm =>
  obtain ⟨T2,h3,h4⟩:=keepK_tail h1
  exact .inr ⟨T2,h3,fun g hg=>h2 _ (h4 g hg)⟩
 | ext i=>exact .inl fun g=>h2 _ h1
 | ret=>exact .inl fun g=>h2 _ h1
end Go.Proofs.YtkanidldnnfloaaGreat.P.Am
set_option linter.unusedVariables false
set_option linter.unusedSimpArgs false
namespace Go.Proofs.YtkanidldnnfloaaGreat.P.Am
def Ex.ex:Ex→Exit
 | .nrm => .normal
 | .ext i => .exit i
 | .ret => .ret
section
variable {P:Program} {w0:World} {L0:Nat→Lab} {vs:List Nat} {E:Env} {A0:Array Value} {T T':List V} {a:Act} {w:World}
def J [Glob] (w0:World) (L0:Nat→Lab) (vs:List Nat) (E:Env) (A0:Array Value) (T:List V) (a:Act) (w:World):Prop :=
 (∃ L,Inv w0 L0 E.N vs T a w L)∧∀ p,E.pins p=true→a.tmps.getD p undef=A0.getD p undef
def StepOk [Glob] (P:Program) (w0:World) (L0:Nat→Lab) (vs:List Nat) (E:Env):Prop :=
 P.follows .mixedOrders=true∧∀ o T ups log a w L,Inv w0 L0 E.N vs T a w L→(E.step o).Runs T ups log→Step P o w0 L0 E.N vs (setAll T ups) a w
theorem put_other [Glob] {dst:Option Tmp} {v:Value} {s:Nat} (h:dst≠some s):(a.put dst v).tmps.getD s undef=a.tmps.getD s undef:=by
 cases dst with
 | none=>rfl
 | some d =>
  show (a.tmps.setIfInBounds d v).getD s undef=_
  rw [getD_setA,if_neg (fun e=>h (by rw [e.1]))]
theorem wp_pin [Glob] {o:Oper} {K:Act→World→Prop} {Q:Exit→Act→World→Prop} (h:o.wp P a w K Q) :
  o.wp P a w (fun a' w'=>K a' w'∧∀ s,o.dst≠some s→a'.tmps.getD s undef=a.tmps.getD s undef) Q:=by
 unfold Oper.wp at *
 generalize (execOp a.eval o).run P w=r at *
 cases r with
 | ok n w' =>
  cases n <;> simp only [Oper.upon] at h ⊢
  case value v=>exact ⟨h,fun s hs=>put_other hs⟩
  case skip=>exact ⟨h,fun s hs=>put_other hs⟩
  case defer d=>exact ⟨h,fun s hs=>put_other (a:={ a with defers:=d::a.defers }) hs⟩
  case enter f args =>
   refine Calls.mono h (fun e w'' he => ?_)
   cases e with
   | returned v=>exact ⟨he,fun s hs=>put_other hs⟩
   | panicked c=>exact he
   | outgrown=>exact he
  case row=>exact Rows.mono h (fun v w'' he=>⟨he,fun s hs=>put_other hs⟩)
  all_goals exact h
 | halt x w'=>cases x <;> simp only [Oper.upon] at h ⊢ <;> exact h
def SkipRec (E:Env) (o:Oper) (T:List V) (r:Rec):Prop:=r.2=o.dst.toList.map (fun d=>(d,V.tup []))∧∀ d,o.dst=some d→(T.getD d .dead).idle=true∧d < E.N∧d∈r.1
def DoesAt (E:Env) (ops:Array Oper) (o:Oper) (T:List V) (r:Rec):Prop :=
 pinOk E o=true ∧
 ((o.guard=none∧∃ log,(E.step o).Runs T r.2 log∧∀ s∈log,s∈r.1) ∨
  (∃ j want g l0 n0 b,o.guard=some (j,want)∧(ops[j]?).bind (·.dst)=some g∧T.getD g .dead = .d l0 n0 .bool b∧g∈r.1 ∧
  ((b=want∧∃ log,(E.step o).Runs T r.2 log∧∀ s∈log,s∈r.1)∨(b≠want∧SkipRec E o T r))) ∨
  ∃ j want g,o.guard=some (j,want)∧(ops[j]?).bind (·.dst)=some g∧T.getD g .dead = .tup []∧g∈r.1∧SkipRec E o T r)
theorem DoesAt.agree [Glob] {ops:Array Oper} {o:Oper} {r:Rec} (hl:T.length≤tagK) (hl':T'.length=T.length) (h:DoesAt E ops o T r) (hT:∀ s∈r.1,Agr T T' s):DoesAt E ops o T' r:=by
 have hT1:∀ s∈r.1,T'.getD s .dead=T.getD s .dead:=fun s hs=>by
  by_cases hk:s < tagK
  ·exact (hT s hs).1 hk
  ·rw [getD_out (by omega),getD_out (by omega)]
 refine ⟨h.1,?_⟩
 have hskip:SkipRec E o T r→SkipRec E o T' r:=fun ⟨h6,h7⟩=>⟨h6,fun d hd=>by
  obtain ⟨h8,h9,h10⟩:=h7 d hd
  exact ⟨by rw [hT1 d h10]; exact h8,h9,h10⟩⟩
 rcases h.2 with ⟨h1,log,h2,h3⟩ | ⟨j,want,g,l0,n0,b,h1,h2,h3,h4,h5⟩ | ⟨j,want,g,h1,h2,h3,h4,h5⟩
 ·exact .inl ⟨h1,log,M.runs_agree hl hl' h2 (fun s hs=>hT s (h3 s hs)),h3⟩
 ·refine .inr (.inl ⟨j,want,g,l0,n0,b,h1,h2,(hT1 g h4).trans h3,h4,?_⟩)
  rcases h5 with ⟨h5,log,h6,h7⟩ | ⟨h5,h6⟩
  ·exact .inl ⟨h5,log,M.runs_agree hl hl' h6 (fun s hs=>hT s (h7 s hs)),h7⟩
  ·exact .inr ⟨h5,hskip h6⟩
 ·exact .inr (.inr ⟨j,want,g,h1,h2,(hT1 g h4).trans h3,h4,hskip h5⟩)
theorem Inv.yields [Glob] {L:Nat→Lab} (hI:Inv w0 L0 E.N vs T a w L) {ops:Array Oper} {j g:Nat} {l0:Option Nat} {n0:Nat} {b:Bool} (h2:(ops[j]?).bind (·.dst)=some g) (h3:T.getD g .dead = .d l0 n0 .bool b) :
  yielded ops a.tmps j=some b:=by
 have hs:=hI.slots g
 rw [h3] at hs
 have hb:=hs.bool
 unfold yielded
 rw [h2]
 have hlt:g < a.tmps.size:=by
  rcases Nat.lt_or_ge g a.tmps.size with h | h
  ·exact h
  ·exfalso
   rw [hI.size] at h
   rw [getD_out (by rw [hI.len]; exact h)] at h3
   cases h3
 simp only [Option.bind_some,Array.getElem?_eq_getElem hlt]
 simp only [Array.getD_eq_getD_getElem?,Array.getElem?_eq_getElem hlt,Option.getD_some] at hb
 rw [hb]
theorem Inv.noYield [Glob] {L:Nat→Lab} (hI:Inv w0 L0 E.N vs T a w L) {ops:Array Oper} {j g:Nat} (h2:(ops[j]?).bind (·.dst)=some g) (h3:T.getD g .dead = .tup []):yielded ops a.tmps j=none:=by
 have hs:=hI.slots g
 rw [h3] at hs
 obtain ⟨us,hu,_⟩:=hs
 unfold yielded
 rw [h2]
 simp only [Option.bind_some]
 rw [Array.getD_eq_getD_getElem?] at hu
 cases hg:a.tmps[g]? with
 | none=>rfl
 | some c =>
  rw [hg] at hu
  simp only [Option.getD_some] at hu
  rw [hu]
theorem Inv.skip [Glob] {L:Nat→Lab} (hI:Inv w0 L0 E.N vs T a w L) {dst:Option Nat} (h:∀ d,dst=some d→(T.getD d .dead).idle=true∧d < E.N) :
  Inv w0 L0 E.N vs (setAll T (dst.toList.map fun d=>(d,V.tup []))) (a.put dst undef) w L:=by
 cases dst with
 | none=>exact hI
 | some d =>
  obtain ⟨h1,h2⟩:=h d rfl
  exact Inv.set hI h2 h1 (Grows.refl hI d) (.tup []) undef (fun k q hk h=>by rw [hI.free k hk] at h; cases h) (fun r hr=>by simp [V.on,V.root] at hr) ⟨#[],rfl,rfl⟩
theorem pinOk_ne {o:Oper} (h:pinOk E o=true) {p:Nat} (hp:E.pins p=true):o.dst≠some p:=by
 intro e
 unfold pinOk at h
 rw [e] at h
 simp [hp] at h
theorem does_act [Glob] {ops:Array Oper} {Q:Exit→Act→World→Prop} (hst:StepOk P w0 L0 vs E) {o:Oper} {r:Rec} (h:DoesAt E ops o T r):Act1 P ops (J w0 L0 vs E A0) Q o T (setAll T r.2):=by
 intro a w hJ K hK
 obtain ⟨⟨L,hI⟩,hpin⟩:=hJ
 have hstep:∀ log,(E.step o).Runs T r.2 log→o.wp P a w K Q:=by
  intro log hr
  have h1:=hst.2 o T r.2 log a w L hI hr
  have h2:=h1 (fun a' w'=>∃ L',Inv w0 L0 E.N vs (setAll T r.2) a' w' L') Q (fun a' w' L' h=>⟨L',h⟩)
  exact Oper.wp_mono (fun a' w' hh=>hK a' w' ⟨hh.1,fun p hp=>(hh.2 p (pinOk_ne h.1 hp)).trans (hpin p hp)⟩) (wp_pin h2)
 have hskip:SkipRec E o T r→K (a.put o.dst undef) w:=fun ⟨h6,h7⟩=>by
  rw [h6] at hK
  exact hK _ _ ⟨⟨L,hI.skip (fun d hd=>⟨(h7 d hd).1,(h7 d hd).2.1⟩)⟩,fun p hp=>(put_other (pinOk_ne h.1 hp)).trans (hpin p hp)⟩
 rcases h.2 with ⟨h1,log,h2,h3⟩ | ⟨j,want,g,l0,n0,b,h1,h2,h3,h4,h5⟩ | ⟨j,want,g,h1,h2,h3,h4,h5⟩
 ·rw [if_pos (by simp [Region.wanted,h1])]
  exact hstep log h2
 ·have hy:=hI.yields h2 h3
  have hw:Region.wanted o (yielded ops a.tmps)=(b == want):=by
   simp [Region.wanted,h1,hy]
  rw [hw]
  rcases h5 with ⟨rfl,log,h6,h7⟩ | ⟨h5,h6⟩
  ·rw [if_pos (by simp)]
   exact hstep log h6
  ·rw [if_neg (by simpa using h5)]
   exact hskip h6
 ·have hy:=hI.noYield h2 h3
  rw [if_neg (by simp [Region.wanted,h1,hy])]
  exact hskip h5
def Chain (E:Env) (ops:Array Oper):List Oper→List V→List Rec→List V→Prop
 | [],T,[],T'=>T=T'
 | o::l,T,r::rs,T'=>DoesAt E ops o T r∧Chain E ops l (setAll T r.2) rs T'
 | _,_,_,_=>False
theorem set_same [Glob] {T:List V} {g:Nat} {v:V} (h:T.getD g .dead=v) (hv:v ≠ .dead):T.set g v=T:=by
 refine list_ext (by simp) (fun s => ?_)
 rw [getD_set]
 split
 ·rename_i hs
  rw [hs.1,h]
 ·rfl
theorem skipUps_rec {o:Oper} {u:List Nat×List (Nat×V)} {g:Nat} (h1:skipUps E o T=some u):SkipRec E o T (g::u.1,u.2):=by
 unfold skipUps at h1
 split at h1
 ·rename_i hd
  injection h1 with h1
  subst h1
  exact ⟨by simp [hd],fun d hd'=>by rw [hd] at hd'; cases hd'⟩
 ·rename_i d hd
  cases hc:((T.getD d .dead).idle && decide (d < E.N)) with
  | false=>rw [hc] at h1; cases h1
  | true =>
   rw [hc] at h1
   simp only [cond_true,Option.some.injEq] at h1
   subst h1
   simp only [Bool.and_eq_true,decide_eq_true_eq] at hc
   refine ⟨by simp [hd],fun d' hd' => ?_⟩
   rw [hd] at hd'
   injection hd' with hd'
   subst hd'
   exact ⟨hc.1,hc.2,by simp⟩
theorem opsK_chain [Glob] {R:Type} {ops:Array Oper} {draw:Bool} {K:List V→Option R} {T0:List V} {r:R}:{l:List Oper}→{T:List V}→{recs:List Rec}→opsK E ops draw K T0 l T recs=some r →
  ∃ rs T',Chain E ops l T rs T'∧K T'=some r∧rs.length=l.length∧(draw=true→backB 0 ops.toList=true∧tiedB (preds ops.toList []) [] ((recs++rs).map fun r=>(mask r.rd,mask r.wr))=true∧asksB T0 (recs++rs)=true∧E.N≤tagK)
 | [],T,recs,h=>by
  simp only [opsK] at h
  cases hc:(!draw || (backB 0 ops.toList && tiedB (preds ops.toList []) [] (recs.map fun r=>(mask r.rd,mask r.wr)) && asksB T0 recs && decide (E.N≤tagK))) with
  | false=>rw [hc] at h; cases h
  | true =>
   rw [hc] at h
   refine ⟨[],T,rfl,h,rfl,fun hd => ?_⟩
   subst hd
   simp only [Bool.not_true,Bool.false_or,Bool.and_eq_true,decide_eq_true_eq] at hc
   rw [List.append_nil]
   exact ⟨hc.1.1.1,hc.1.1.2,hc.1.2,hc.2⟩
 | o::l,T,recs,h=>by
  simp only [opsK] at h
  cases hp:pinOk E o with
  | false=>rw [hp] at h; cases h
  | true =>
   rw [hp] at h
   simp only [cond_true] at h
   split at h
   ·rename_i hg
    obtain ⟨ups,log,h1,h2⟩:=M.runK_some h
    obtain ⟨rs,T',h3,h4,h5,h6⟩:=opsK_chain h2
    exact ⟨(log.reverse++[],ups)::rs,T',⟨⟨hp,.inl ⟨hg,log,h1,by simp⟩⟩,h3⟩,h4,by simp [h5],by simpa using h6⟩
   ·rename_i j want hg
    split at h
    ·cases h
    ·rename_i g hdst
     split at h
     ·rename_i l0 n0 b hT
      have key:∀ b',T.getD g .dead = .d l0 n0 .bool b'→T.set g (.d l0 n0 .bool b')=T:=fun b' hT=>set_same hT (by simp)
      have hrun:∀ b',T.getD g .dead = .d l0 n0 .bool b'→b'=want→((E.step o).runK (T.set g (.d l0 n0 .bool b')) [g] fun log ups=>opsK E ops draw K T0 l (setAll (T.set g (.d l0 n0 .bool b')) ups) (recs++[(log,ups)]))=some r →
        ∃ rs T',Chain E ops (o::l) T rs T'∧K T'=some r∧rs.length=(o::l).length∧(draw=true→backB 0 ops.toList=true∧tiedB (preds ops.toList []) [] ((recs++rs).map fun r=>(mask r.rd,mask r.wr))=true∧asksB T0 (recs++rs)=true∧E.N≤tagK):=by
       intro b' hT hbw h
       rw [key b' hT] at h
       obtain ⟨ups,log,h1,h2⟩:=M.runK_some h
       obtain ⟨rs,T',h3,h4,h5,h6⟩:=opsK_chain h2
       refine ⟨(log.reverse++[g],ups)::rs,T',⟨⟨hp,.inr (.inl ⟨j,want,g,l0,n0,b',hg,hdst,hT,by simp,.inl ⟨hbw,log,h1,fun s hs=>by simp [hs]⟩⟩)⟩,h3⟩,h4,by simp [h5],by simpa using h6⟩
      have hskip:∀ b',T.getD g .dead = .d l0 n0 .bool b'→b'≠want→((skipUps E o (T.set g (.d l0 n0 .bool b'))).bind fun u=>opsK E ops draw K T0 l (setAll (T.set g (.d l0 n0 .bool b')) u.2) (recs++[(g::u.1,u.2)]))=some r →
        ∃ rs T',Chain E ops (o::l) T rs T'∧K T'=some r∧rs.length=(o::l).length∧(draw=true→backB 0 ops.toList=true∧tiedB (preds ops.toList []) [] ((recs++rs).map fun r=>(mask r.rd,mask r.wr))=true∧asksB T0 (recs++rs)=true∧E.N≤tagK):=by
       intro b' hT hbw h
       rw [key b' hT] at h
       obtain ⟨u,h1,h2⟩:=Option.bind_eq_some_iff.1 h
       obtain ⟨rs,T',h3,h4,h5,h6⟩:=opsK_chain h2
       exact ⟨(g::u.1,u.2)::rs,T',⟨⟨hp,.inr (.inl ⟨j,want,g,l0,n0,b',hg,hdst,hT,by simp,.inr ⟨hbw,skipUps_rec h1⟩⟩)⟩,h3⟩,h4,by simp [h5],by simpa using h6⟩
      cases b with
      | true =>
       simp only [cond_true] at h
       cases want with
       | true=>exact hrun true hT rfl h
       | false=>exact hskip true hT (by simp) h
      | false =>
       simp only [cond_false] at h
       cases want with
       | true=>exact hskip false hT (by simp) h
       | false=>exact hrun false hT rfl h
     ·rename_i hT
      obtain ⟨u,h1,h2⟩:=Option.bind_eq_some_iff.1 h
      obtain ⟨rs,T',h3,h4,h5,h6⟩:=opsK_chain h2
      exact ⟨(g::u.1,u.2)::rs,T',⟨⟨hp,.inr (.inr ⟨j,want,g,hg,hdst,hT,by simp,skipUps_rec h1⟩)⟩,h3⟩,h4,by simp [h5],by simpa using h6⟩
     ·cases h
theorem chain_stD [Glob] {ops:Array Oper}:{l:List Oper}→{T:List V}→{rs:List Rec}→{T':List V}→{k:Nat}→Chain E ops l T rs T' →
  T'=stD (fun _=>true) k rs T∧∀ (i:Nat) (o:Oper) (r:Rec),l[i]? = some o→rs[i]? = some r→DoesAt E ops o (stD (fun j=>decide (j < k+i)) k rs T) r
 | [],T,[],T',k,h=>⟨h.symm,fun i o r hi _=>by simp at hi⟩
 | o::l,T,r::rs,T',k,⟨h1,h2⟩=>by
  obtain ⟨h3,h4⟩:=chain_stD (k:=k+1) h2
  refine ⟨by simpa [stD] using h3,fun i o' r' hi hr => ?_⟩
  cases i with
  | zero =>
   simp only [List.getElem?_cons_zero,Option.some.injEq] at hi hr
   subst hi hr
   rw [stD_none (fun j hj=>by simp; omega)]
   exact h1
  | succ i =>
   have:=h4 i o' r' (by simpa using hi) (by simpa using hr)
   simp only [stD]
   rw [if_pos (by simp)]
   rwa [show k+(i+1)=k+1+i by omega]
 | [],_,_::_,_,_,h=>h.elim
 | _::_,_,[],_,_,h=>h.elim
theorem J.len [Glob] (h:J w0 L0 vs E A0 T a w):T.length=E.N:=by obtain ⟨⟨L,hI⟩,_⟩:=h; exact hI.len
theorem chain_wp [Glob] {ops:Array Oper} {Q:Exit→Act→World→Prop} (hst:StepOk P w0 L0 vs E):{l:List Oper}→{T:List V}→{rs:List Rec}→{i:Nat}→(∀ k o,l[k]? = some o→ops[i+k]? = some o)→Chain E ops l T rs T' →
  (∀ a' w',J w0 L0 vs E A0 T' a' w'→Q .normal a' w')→∀ a w,J w0 L0 vs E A0 T a w→wpOps P ops Q (List.range' i l.length) a w
 | [],T,[],i,_,h,hQ,a,w,hJ=>by
  obtain rfl:T=T':=h
  simp only [List.length_nil,List.range'_zero,wpOps]
  exact hQ a w hJ
 | o::l,T,r::rs,i,ho,⟨h1,h2⟩,hQ,a,w,hJ=>by
  simp only [List.length_cons,List.range'_succ]
  refine wpOps_step (by simpa using ho 0 o rfl) ?_
  refine does_act hst h1 a w hJ _ (fun a' w' hJ'=>chain_wp hst (fun k o hk => ?_) h2 hQ a' w' hJ')
  have:=ho (k+1) o (by simpa using hk)
  rwa [show i+(k+1)=i+1+k by omega] at this
 | [],_,_::_,_,_,h,_,_,_,_=>h.elim
 | _::_,_,[],_,_,h,_,_,_,_=>h.elim
theorem J.drawn [Glob] (h:J w0 L0 vs E A0 T a w) (n:Nat) (hn:w.drawn≤n):J w0 L0 vs E A0 T a { w with drawn:=n }:=by
 obtain ⟨⟨L,hI⟩,hp⟩:=h
 refine ⟨⟨L,hI.size,hI.len,hI.dfr,⟨hI.fr.os,hI.fr.tape,hI.fr.output,hI.fr.size,Nat.le_trans hI.fr.drawn hn,hI.fr.keep,hI.fr.glob⟩,hI.free,hI.inj,hI.owner,hI.roots,fun s => ?_⟩,hp⟩
 exact SRep.keep (w:=w) (w':={ w with drawn:=n }) (L':=L) (T':=T) (tm':=a.tmps) (fun k _=>⟨rfl,rfl⟩) (fun _ _ _=>⟨rfl,rfl⟩) (hI.slots s)
theorem region_sound [Glob] {R:Type} {ops:Array Oper} {draw:Bool} {id:Nat} {K:List V→Option R} {r:R} (hst:StepOk P w0 L0 vs E) (h:opsK E ops draw K T ops.toList T []=some r) (hJ:J w0 L0 vs E A0 T a w) :
  (Code.region id ops draw).wp P (fun e a' w'=>e = .normal∧∃ T',K T'=some r∧J w0 L0 vs E A0 T' a' w') a w:=by
 obtain ⟨rs,T',hch,hK,hlen,hdraw⟩:=opsK_chain h
 have hsz:rs.length=ops.size:=by simpa using hlen
 cases draw with
 | false =>
  refine wp_region ?_
  have:=chain_wp (A0:=A0) (Q:=fun e a' w'=>e = .normal∧∃ T',K T'=some r∧J w0 L0 vs E A0 T' a' w') hst (i:=0) (fun k o hk=>by simpa using hk) hch (fun a' w' hJ'=>⟨rfl,T',hK,hJ'⟩) a w hJ
  rw [List.range_eq_range']
  simpa using this
 | true =>
  obtain ⟨hb,ht,hq,hN⟩:=hdraw rfl
  rw [List.nil_append] at hq
  obtain ⟨h1,h2⟩:=chain_stD (k:=0) hch
  refine wp_region_draw fun t => ?_
  rw [hst.1]
  refine region_any (J:=J w0 L0 vs E A0) (N:=E.N) (recs:=rs) (T0:=T) hJ.len hN hsz (asks_of hq) ?_ (tied_of hsz (by simpa using ht)) ?_ _ [] sched_ordered (fun i hi=>by simp at hi) (fun i hi => .inr (sched_all (backs hb) i hi)) a _ ?_
  ·intro i o rc ho hr T1 hT1 hag hask
   have:=h2 i o rc (by simpa using ho) hr
   simp only [Nat.zero_add] at this
   exact does_act hst (this.agree (by rw [stD_length,hJ.len]; exact hN) (by rw [stD_length,hJ.len,hT1]) (fun s hs=>⟨fun hk=>hag s (List.mem_append_left _ hs) hk,fun hk _=>hask s hs hk⟩))
  ·intro a' w' hJ'
   rw [← h1] at hJ'
   exact ⟨rfl,T',hK,hJ'⟩
  ·rw [stD_none (fun j _=>by simp)]
   exact hJ.drawn _ (Nat.le_succ _)
theorem keepL_get {m:Nat}:{i:Nat}→{l:List V}→(s:Nat)→(keepL m i l).getD s .dead=if (m.testBit (i+s))=true then l.getD s .dead else .dead
 | i,[],s=>by simp [keepL]
 | i,v::l,0=>by
  simp only [keepL,List.getD_cons_zero,Nat.add_zero]
  cases m.testBit i <;> rfl
 | i,v::l,s+1=>by
  simp only [keepL,List.getD_cons_succ]
  rw [keepL_get,show i+1+s=i+(s+1) by omega]
theorem keepL_length {m:Nat}:{i:Nat}→{l:List V}→(keepL m i l).length=l.length
 | _,[]=>rfl
 | i,v::l=>by simp [keepL,keepL_length]
theorem keepOk_spec {m:Nat} {T:List V}:{i:Nat}→{l:List V}→keepOk m T i l=true→∀ s r,m.testBit (i+s)=true→(l.getD s .dead).root=some r→m.testBit r=true∨(T.getD r .dead).owns=false
 | _,[],_,s,r,_,hr=>by simp [V.root] at hr
 | i,v::l,h,s,r,hs,hr=>by
  simp only [keepOk,Bool.and_eq_true,Bool.or_eq_true,Bool.not_eq_true'] at h
  cases s with
  | zero =>
   rw [List.getD_cons_zero] at hr
   rw [hr] at h
   have:=h.1.resolve_left (by rw [show i=i+0 from rfl,hs]; simp)
   simpa using this
  | succ s =>
   refine keepOk_spec h.2 s r (by rwa [show i+1+s=i+(s+1) by omega]) (by simpa using hr)
def frzF (X nb:Nat→Bool) (lev:Nat→Nat):Nat→List Nat→Lab:=fun z q=>cond (X z && (decide (lev z+1≤q.length) || (q.isEmpty && nb z))) .stable (.own z q)
theorem frzF_key {X nb:Nat→Bool} {lev:Nat→Nat} {z z':Nat} {q q':List Nat} (h:frzF X nb lev z q = .own z' q'):z'=z∧q'=q∧(X z=true→q.length≤lev z∧(q=[]→nb z=false)):=by
 unfold frzF at h
 cases hz:X z && (decide (lev z+1≤q.length) || (q.isEmpty && nb z)) with
 | true=>rw [hz] at h; cases h
 | false =>
  rw [hz] at h
  simp only [cond_false] at h
  injection h with h1 h2
  refine ⟨h1.symm,h2.symm,fun e => ?_⟩
  rw [e,Bool.true_and,Bool.or_eq_false_iff,decide_eq_false_iff_not] at hz
  refine ⟨by omega,fun e2 => ?_⟩
  have:=hz.2
  rw [e2] at this
  simpa using this
theorem frzF_fun [Glob] {X nb:Nat→Bool} {lev:Nat→Nat}:Fun (frzF X nb lev) (fun z=>X z=true):=by
 refine ⟨fun z q hX => ?_,fun z q z' q' hX h => ?_,fun z q z2 q2 z' q' h1 h2 => ?_,fun z q => ?_⟩
 ·unfold frzF
  cases hz:X z with
  | true=>exact absurd hz hX
  | false=>rfl
 ·obtain ⟨rfl,_⟩:=frzF_key h; exact hX
 ·obtain ⟨rfl,rfl,_⟩:=frzF_key h1
  obtain ⟨h3,h4,_⟩:=frzF_key h2
  exact ⟨h3,h4⟩
 ·unfold frzF
  cases X z && (decide (lev z+1≤q.length) || (q.isEmpty && nb z)) <;> simp
theorem frzV_root {k:Nat} {v:V}:(frzV k v).root=v.root:=by cases v <;> rfl
theorem Inv.freeze [Glob] {N:Nat} {L:Nat→Lab} (hI:Inv w0 L0 N vs T a w L) {X:Nat→Bool} {lev:Nat→Nat} (hon:∀ z r,X r=true→(T.getD z .dead).on r=false) (hv:∀ s,X s=true→(T.getD s .dead).icy=true)
  (hlev:∀ s,X s=true→lev s≤(T.getD s .dead).lvl)
  (hlen:T'.length=N) (hT:∀ z,T'.getD z .dead=cond (X z) (frzV (lev z) (T.getD z .dead)) (T.getD z .dead)) :
  ∃ L',Inv w0 L0 N vs T' a w L':=by
 let nb:Nat→Bool:=fun z=>match T.getD z .dead with | .box .. => false | _=>true
 have hT1:∀ z,X z=true→T'.getD z .dead=frzV (lev z) (T.getD z .dead):=fun z h=>by rw [hT,h]; rfl
 have hT0:∀ z,X z=false→T'.getD z .dead=T.getD z .dead:=fun z h=>by rw [hT,h]; rfl
 have hro:∀ z r,(T.getD z .dead).root=some r→X r=false:=fun z r h=>by
  cases hr:X r with
  | false=>rfl
  | true =>
   have:=hon z r hr
   unfold V.on at this
   rw [h] at this
   simp at this
 have hSL:∀ (l:Option Nat),(∀ r,l=some r→X r=false)→∀ k,SL L l k→SL (newLab (frzF X nb lev) w L (fun _ => .free)) l k∧w.heap[k]? = w.heap[k]? := by
  rintro l hl k (hk | ⟨r,q,hr,hk⟩)
  ·exact ⟨.inl (newLab_stable hI hk),rfl⟩
  ·exact ⟨.inr ⟨r,q,hr,newLab_id hI frzF_fun hk (fun e=>by rw [hl r hr] at e; cases e)⟩,rfl⟩
 have hin:∀ s (l:Option Nat),X s=true→∀ k d rest,L k = .own s ([]++(0+d)::rest)→w.heap[k]? = w.heap[k]? ∧ (rest.length < lev s→newLab (frzF X nb lev) w L (fun _ => .free) k = .own s ([]++(0+d)::rest))∧(lev s≤rest.length→SL (newLab (frzF X nb lev) w L (fun _ => .free)) l k):=by
  intro s l hs k d rest hk
  have hc:([]++(0+d)::rest:List Nat).length=rest.length+1:=by simp
  unfold SL
  rw [newLab_old hI (by rw [hk]; simp),hk]
  refine ⟨rfl,fun h => ?_,fun h => .inl ?_⟩
  ·show cond _ _ _=_
   rw [hs,hc,decide_eq_false (by omega),show (([]++(0+d)::rest:List Nat).isEmpty)=false from rfl]
   rfl
  ·show cond _ _ _=_
   rw [hs,hc,decide_eq_true (by omega)]
   rfl
 refine ⟨newLab (frzF X nb lev) w L (fun _ => .free),Inv.updF hI frzF_fun (Wd.refl hI _) (fun _ _ _ _ _ h=>by cases h) hI.size hlen hI.dfr ?_ ?_ ?_ ?_ ?_⟩
 ·intro k s' q hs' h
  rw [hT1 _ hs']
  unfold newLab at h
  split at h
  ·obtain ⟨s0,q0,e0,f0⟩:=relab_own h
   obtain ⟨rfl,rfl,h3⟩:=frzF_key f0
   have hb:=h3 hs'
   have hi:=hv _ hs'
   have ho:=hI.owner k _ _ e0
   have hl2:=hlev _ hs'
   have hsl:=hI.slots s'
   have hq:q=[]→nb s'=false:=hb.2
   have hb:=hb.1
   have hnb:nb s'=match T.getD s' .dead with | .box .. => false | _=>true:=rfl
   generalize T.getD s' .dead=u at hi ho hl2 hnb
   have hq:(∃ l n t x,u = .d l n t x)→q≠[]:=by
    rintro ⟨l,n,t,x,rfl⟩ e
    rw [hnb] at hq
    exact absurd (hq e) (by simp)
   cases u with
   | d l n t x =>
    have hq:=hq ⟨l,n,t,x,rfl⟩
    have:=List.length_pos_iff.2 hq
    simp only [V.owns,frzV,Bool.and_eq_true,bne_iff_ne,ne_eq] at ho ⊢
    exact ⟨by omega,ho.2⟩
   | box l n t x=>rfl
   | _=>simp [V.icy] at hi
  ·cases h
 ·intro z r hz ho hr
  rw [hon z r hr] at ho
  cases ho
 ·intro z hz
  rw [hT0 z (by simpa using hz)]
  exact ⟨rfl,rfl⟩
 ·intro z r hz ho
  rw [hT1 z hz] at ho
  refine hI.roots z r ?_
  unfold V.on at ho ⊢
  rwa [frzV_root] at ho
 ·intro z hz
  rw [hT1 z hz]
  have hsl:=hI.slots z
  have hroot:=hro z
  have hi:=hv z hz
  have hl2:=hlev z hz
  have hnbz:nb z=match T.getD z .dead with | .box .. => false | _=>true:=rfl
  generalize T.getD z .dead=u at hsl hroot hi hl2 hnbz
  have hdeep:∀ l:Option Nat,(∀ r,l=some r→X r=false)→(∀ r,l=some r→(T.getD r .dead).deep=true)→∀ r,l=some r→(T'.getD r .dead).deep=true:=by
   intro l hl h r hr
   rw [hT0 r (hl r hr)]
   exact h r hr
  cases u with
  | d l n t x =>
   obtain ⟨h1,cs,h2,h3⟩:=hsl
   have hm:min (lev z) n=lev z:=Nat.min_eq_left hl2
   refine ⟨hdeep l hroot h1,cs,h2,?_⟩
   rw [hm]
   exact Own.moveLow hl2 (hSL l hroot) (fun k d rest _ hk=>hin z l hz k d rest hk) h3
  | box l n t x =>
   obtain ⟨h1,g,cur,e,h2,h3,h4,h5,h6⟩:=hsl
   have hm:min (lev z) n=lev z:=Nat.min_eq_left hl2
   refine ⟨hdeep l hroot h1,g,cur,e,h2,?_,h4,h5,?_⟩
   ·rw [newLab_old hI (by rw [h3]; simp),h3]
    show cond _ _ _=_
    rw [hz,decide_eq_false (by simp),hnbz]
    rfl
   ·rw [hm]
    exact Own.moveLow hl2 (hSL l hroot) (fun k d rest _ hk=>hin z l hz k d rest hk) h6
  | _=>simp [V.icy] at hi
theorem noneOn_spec {r:Nat}:{l:List V}→noneOn r l=true→∀ z,(l.getD z .dead).on r=false
 | [],_,z=>by simp [V.on,V.root]
 | v::l,h,0=>by simp only [noneOn,Bool.and_eq_true,Bool.not_eq_true'] at h; simpa using h.1
 | v::l,h,z+1=>by simp only [noneOn,Bool.and_eq_true] at h; simpa using noneOn_spec h.2 z
theorem iceOk_spec {m:Nat} {T:List V}:{i:Nat}→{l:List V}→iceOk m T i l=true→∀ s,s < l.length→(m.testBit (1000+(i+s)) || m.testBit (2000+(i+s)))=true→(l.getD s .dead).icy=true∧noneOn (i+s) T=true
 | _,[],_,s,hs,_=>by simp at hs
 | i,v::l,h,s,hs,hb=>by
  simp only [iceOk,Bool.and_eq_true,Bool.or_eq_true,Bool.not_eq_true'] at h
  cases s with
  | zero =>
   have:=h.1.resolve_left (by rw [show (m.testBit (1000+i) || m.testBit (2000+i))=true from hb]; simp)
   simpa using this
  | succ s =>
   have:=iceOk_spec h.2 s (by simpa using hs) (by rwa [show i+1+s=i+(s+1) by omega])
   rw [show i+1+s=i+(s+1) by omega] at this
   simpa using this
theorem iceL_get {m:Nat}:{i:Nat}→{l:List V}→(s:Nat)→(iceL m i l).getD s .dead=cond (m.testBit (1000+(i+s))) (frzV 0 (l.getD s .dead)) (cond (m.testBit (2000+(i+s))) (frzV 1 (l.getD s .dead)) (l.getD s .dead))
 | i,[],s=>by
  simp only [iceL,List.getD_nil]
  cases m.testBit (1000+(i+s)) <;> cases m.testBit (2000+(i+s)) <;> rfl
 | i,v::l,0=>by
  simp only [iceL,List.getD_cons_zero,Nat.add_zero]
 | i,v::l,s+1=>by
  simp only [iceL,List.getD_cons_succ]
  rw [iceL_get,show i+1+s=i+(s+1) by omega]
theorem iceL_length {m:Nat}:{i:Nat}→{l:List V}→(iceL m i l).length=l.length
 | _,[]=>rfl
 | i,v::l=>by simp [iceL,iceL_length]
theorem keep_sound [Glob] {R:Type} {ks:Option Nat} {K:List V→Option R} {r:R} (h:keepK ks T K=some r) (hJ:J w0 L0 vs E A0 T a w):∃ T',K T'=some r∧J w0 L0 vs E A0 T' a w:=by
 unfold keepK at h
 split at h
 ·exact ⟨T,h,hJ⟩
 ·rename_i m
  cases hc:keepOk m T 0 T with
  | false=>rw [hc] at h; cases h
  | true =>
   rw [hc] at h
   simp only [cond_true] at h
   obtain ⟨⟨L,hI⟩,hp⟩:=hJ
   have hk:Inv w0 L0 E.N vs (keepL m 0 T) a w _:=Inv.kill hI (fun s => !m.testBit s) (by rw [keepL_length,hI.len]) (fun s=>by
    rw [keepL_get,Nat.zero_add]
    cases m.testBit s <;> rfl) (fun s r hs ho1 ho2=>by
    have:=keepOk_spec hc s r (by simpa using hs) (by simpa [V.on] using ho1)
    rcases this with h | h
    ·simp [h]
    ·rw [h] at ho2; cases ho2)
   cases hd:decide (m < 2 ^ 1000) with
   | true=>rw [hd] at h; exact ⟨_,h,⟨_,hk⟩,hp⟩
   | false =>
    rw [hd] at h
    simp only [cond_false] at h
    cases he:iceOk m (keepL m 0 T) 0 (keepL m 0 T) with
    | false=>rw [he] at h; cases h
    | true =>
     rw [he] at h
     have hfz:∀ v:V,frzV (min 1 v.lvl) v=frzV 1 v:=fun v=>by
      cases v <;> simp [frzV,V.lvl,Nat.min_assoc]
     refine ⟨_,h,Inv.freeze hk (X:=fun s=>(m.testBit (1000+s) || m.testBit (2000+s)) && decide (s < (keepL m 0 T).length)) (lev:=fun s=>cond (m.testBit (1000+s)) 0 (min 1 ((keepL m 0 T).getD s .dead).lvl)) (fun z r hr => ?_) (fun s hs => ?_) (fun s hs => ?_) (by rw [iceL_length,hk.len]) (fun z => ?_),hp⟩
     ·rw [Bool.and_eq_true,decide_eq_true_eq] at hr
      have:=(iceOk_spec he r hr.2 (by rw [Nat.zero_add]; exact hr.1)).2
      rw [Nat.zero_add] at this
      exact noneOn_spec this z
     ·rw [Bool.and_eq_true,decide_eq_true_eq] at hs
      exact (iceOk_spec he s hs.2 (by rw [Nat.zero_add]; exact hs.1)).1
     ·show cond _ _ _≤_
      cases m.testBit (1000+s)
      ·exact Nat.min_le_right _ _
      ·exact Nat.zero_le _
     ·rw [iceL_get,Nat.zero_add]
      by_cases hz:z < (keepL m 0 T).length
      ·rw [decide_eq_true hz,Bool.and_true]
       cases m.testBit (1000+z) <;> cases m.testBit (2000+z)
       ·rfl
       ·exact (hfz _).symm
       ·rfl
       ·rfl
      ·rw [decide_eq_false hz,Bool.and_false,List.getD_eq_getElem?_getD,List.getElem?_eq_none (by omega)]
       cases m.testBit (1000+z) <;> cases m.testBit (2000+z) <;> rfl
def Post [Glob] {R:Type} (w0:World) (L0:Nat→Lab) (vs:List Nat) (E:Env) (A0:Array Value) (k:Ex→List V→Option R) (r:R):Exit→Act→World→Prop :=
 fun e a' w'=>∃ ex T',e=ex.ex∧k ex T'=some r∧J w0 L0 vs E A0 T' a' w'
theorem denK_sound [Glob] {R:Type} (hst:StepOk P w0 L0 vs E) {r:R}:{c:Code}→{k:Ex→List V→Option R}→{T:List V}→denK E c k T=some r→∀ a w,J w0 L0 vs E A0 T a w→c.wp P (Post w0 L0 vs E A0 k r) a w
 | .skip,k,T,h,a,w,hJ=>wp_skip ⟨.nrm,T,rfl,h,hJ⟩
 | .label _,k,T,h,a,w,hJ=>wp_label ⟨.nrm,T,rfl,h,hJ⟩
 | .exit id,k,T,h,a,w,hJ=>wp_exit ⟨.ext id,T,rfl,h,hJ⟩
 | .ret,k,T,h,a,w,hJ=>wp_ret ⟨.ret,T,rfl,h,hJ⟩
 | .region id ops draw,k,T,h,a,w,hJ=>by
  simp only [denK] at h
  obtain ⟨T1,h1,hJ1⟩:=keep_sound h hJ
  refine wp_mono (region_sound hst h1 hJ1) ?_
  rintro e a' w' ⟨rfl,T',hk,hJ'⟩
  exact ⟨.nrm,T',rfl,hk,hJ'⟩
 | .seq x y,k,T,h,a,w,hJ=>by
  simp only [denK] at h
  refine wp_seq (wp_mono (denK_sound hst h a w hJ) ?_)
  rintro e a' w' ⟨ex,T',rfl,hk,hJ'⟩
  cases ex with
  | nrm =>
   obtain ⟨T1,h1,hJ1⟩:=keep_sound hk hJ'
   exact denK_sound hst h1 a' w' hJ1
  | ext i=>exact ⟨.ext i,T',rfl,hk,hJ'⟩
  | ret=>exact ⟨.ret,T',rfl,hk,hJ'⟩
 | .cond c x y,k,T,h,a,w,hJ=>by
  cases c with
  | tmp t =>
   simp only [denK] at h
   split at h
   ·rename_i l0 n0 b hT
    have hb:a.eval (.tmp t) = .bool b:=by
     obtain ⟨⟨L,hI⟩,_⟩:=hJ
     have hs:=hI.slots t
     rw [hT] at hs
     exact hs.bool
    have hset:∀ b',T.getD t .dead = .d l0 n0 .bool b'→T.set t (.d l0 n0 .bool b')=T:=fun b' hT=>set_same hT (by simp)
    refine wp_cond hb ?_
    cases b with
    | true =>
     simp only [cond_true] at h
     rw [hset true hT] at h
     exact denK_sound hst h a w hJ
    | false =>
     simp only [cond_false] at h
     rw [hset false hT] at h
     exact denK_sound hst h a w hJ
   ·cases h
  | const _=>simp [denK] at h
  | func _=>simp [denK] at h
  | global _=>simp [denK] at h
 | .block id c,k,T,h,a,w,hJ=>by
  simp only [denK] at h
  refine wp_block (wp_mono (denK_sound hst h a w hJ) ?_)
  rintro e a' w' ⟨ex,T',rfl,hk,hJ'⟩
  cases ex with
  | nrm=>exact ⟨.nrm,T',rfl,hk,hJ'⟩
  | ext i =>
   dsimp only at hk
   simp only [Ex.ex,Exit.inBlock]
   by_cases hi:i=id
   ·subst hi
    rw [if_pos rfl]
    simp only [beq_self_eq_true,cond_true] at hk
    exact ⟨.nrm,T',rfl,hk,hJ'⟩
   ·rw [if_neg hi]
    have:(i == id)=false:=by simpa using hi
    rw [this] at hk
    exact ⟨.ext i,T',rfl,hk,hJ'⟩
  | ret=>exact ⟨.ret,T',rfl,hk,hJ'⟩
 | .loop c,k,T,h,a,w,hJ=>by
  simp only [denK] at h
  obtain ⟨T1,h1,hJ1⟩:=keep_sound h hJ
  let B:(List V→Option R)→List V→Option R:=fun self T=>denK E c (fun e T'=>match e with
    | .nrm=>keepK (E.keep (loopKey c)) T' self
    | .ext i=>k (.ext i) T'
    | .ret=>k .ret T') T
  let I:Nat→Act→World→Prop:=fun n a w=>∃ T,iterO B n T=some r∧J w0 L0 vs E A0 T a w
  have hex:∃ n,I n a w:=by
   obtain ⟨n,hn⟩:=(fixO_some (turn_tail k)).1 h1
   exact ⟨n,T1,hn,hJ1⟩
  have hmin:∀ a w,(∃ n,I n a w)→∃ n,I n a w∧∀ m,I m a w→n≤m:=by
   intro a w ⟨n,hn⟩
   induction n using Nat.strongRecOn with
   | _ n ih =>
    by_cases hm:∃ m,m < n∧I m a w
    ·obtain ⟨m,hm,hI⟩:=hm
     exact ih m hm hI
    ·refine ⟨n,hn,fun m hI => ?_⟩
     rcases Nat.lt_or_ge m n with h | h
     ·exact absurd ⟨m,h,hI⟩ hm
     ·exact h
  let μ : Act→World→Nat:=fun a w=>open Classical in if h:∃ n,I n a w then Classical.choose (hmin a w h) else 0
  refine wp_loop (fun a w=>∃ n,I n a w) μ hex (fun a w hI => ?_)
  have hμ : μ a w=Classical.choose (hmin a w hI):=dif_pos hI
  obtain ⟨⟨T2,hit,hJ2⟩,hle⟩:=Classical.choose_spec (hmin a w hI)
  rw [← hμ] at hit hle
  generalize hn : μ a w=n at hit hle
  cases n with
  | zero=>cases hit
  | succ n =>
   simp only [iterO,B] at hit
   refine wp_mono (denK_sound hst hit a w hJ2) ?_
   rintro e a' w' ⟨ex,T',rfl,hk,hJ'⟩
   cases ex with
   | nrm =>
    dsimp only at hk
    obtain ⟨T3,h3,hJ3⟩:=keep_sound hk hJ'
    have hI':∃ n,I n a' w':=⟨n,T3,h3,hJ3⟩
    refine ⟨hI',?_⟩
    have hμ' : μ a' w'=Classical.choose (hmin a' w' hI'):=dif_pos hI'
    rw [hμ']
    have:=(Classical.choose_spec (hmin a' w' hI')).2 n ⟨T3,h3,hJ3⟩
    omega
   | ext i=>exact ⟨.ext i,T',rfl,hk,hJ'⟩
   | ret=>exact ⟨.ret,T',rfl,hk,hJ'⟩
 | .rangeFunc ..,k,T,h,_,_,_=>by simp [denK] at h
 | .scope _,k,T,h,_,_,_=>by simp [denK] at h
 | .goto _,k,T,h,_,_,_=>by simp [denK] at h
 | .refuse _,k,T,h,_,_,_=>by simp [denK] at h
end
end Go.Proofs.YtkanidldnnfloaaGreat.P.Am
set_option linter.unusedVariables false
set_option linter.unusedSimpArgs false
namespace Go.Proofs.YtkanidldnnfloaaGreat.P.Am
def modRoot (p:List St):V→(t':Ty)→t'.den→M V
 | .box l n t x,t',y=>(modP p t x t' y).bind fun x2 => .ret (.box l n t x2)
 | .d l n t x,t',y=>match p with
  | .idx sz i::p'=>(modP (.idx sz i::p') t x t' y).bind fun x2 => .ret (.d l n t x2)
  | _ => .fail
 | _,_,_ => .fail
def underB (q:List Nat) (o sz:Nat) (z:List Nat):Bool:=match cut q z with
 | some (y::_)=>decide (o≤y) && decide (y < o+sz)
 | _=>false
def stF (r:Nat) (q:List Nat) (o sz m:Nat) (src:Option Nat):Nat→List Nat→Lab:=fun s z =>
 if s=r then (if src.isSome && underB q o sz z then .other else .own r z)
 else if src=some s then match z with
  | y::rest=>if y < sz then (if rest.length < m then .own r (q++(o+y)::rest) else .stable) else .other
  | [] => .other
 else .own s z
def keepable (root:V) (src:Option Nat):V→Bool
 | .ptr _ p _=>src.isNone || (shallow p && !root.isD)
 | .view _ [] _=>root.isD
 | _=>false
section
variable {P:Program} {C:Ctx} {w w' w0:World} {S S':Nat→Prop} {L L' L0:Nat→Lab} {s N:Nat} {vs:List Nat} {T T':List V} {tm tm':Array Value} {a:Act}
theorem shallow_node:{p:List St}→{q:List Nat}→{o:Nat}→shallow p=true→(node q o p).1=q
 | [],_,_,_=>rfl
 | .fld _ _::p,_,_,h=>shallow_node (p:=p) h
 | .idx _ _::_,_,_,h=>by cases h
theorem node_len:{p:List St}→{q:List Nat}→{o:Nat}→q.length≤(node q o p).1.length
 | [],_,_=>Nat.le_refl _
 | .fld _ _::p,_,_=>node_len (p:=p)
 | .idx _ _::p,q,o=>Nat.le_trans (by simp) (node_len (p:=p) (q:=q++[o]))
theorem deep_node [Glob]:{p:List St}→{o:Nat}→shallow p=false→(node [] o p).1≠[]
 | .fld _ _::p,_,h=>deep_node (p:=p) h
 | .idx sz i::p,o,_=>fun h=>by
  have h1:=node_len (p:=p) (q:=[o]) (o:=i.toNat*sz)
  change (node [o] (i.toNat*sz) p).1=[] at h
  rw [h] at h1
  simp at h1
theorem underB_spec [Glob] {q:List Nat} {o sz:Nat} {z:List Nat}:underB q o sz z=true↔Under q o sz z:=by
 unfold underB
 constructor
 ·intro h
  split at h
  ·rename_i y rest hc
   simp only [Bool.and_eq_true,decide_eq_true_eq] at h
   refine ⟨y - o,rest,by omega,?_⟩
   rw [cut_some hc]
   congr 2
   omega
  ·cases h
 ·rintro ⟨d,rest,hd,rfl⟩
  rw [cut_append]
  simp
  omega
theorem stF_key [Glob] {r:Nat} {q:List Nat} {o sz m:Nat} {src:Option Nat} (hsr:src≠some r) {s s':Nat} {z z':List Nat} (h:stF r q o sz m src s z = .own s' z') :
  (s=r∧s'=r∧z'=z∧(src.isSome=true→¬ Under q o sz z))∨(src=some s∧s'=r∧∃ y rest,z=y::rest∧y < sz∧z'=q++(o+y)::rest)∨(s≠r∧src≠some s∧s'=s∧z'=z):=by
 unfold stF at h
 split at h
 ·rename_i hs
  split at h
  ·cases h
  ·rename_i hc
   injection h with h1 h2
   refine .inl ⟨hs,h1.symm,h2.symm,fun hi hu=>hc ?_⟩
   rw [hi,underB_spec.2 hu]
   rfl
 ·split at h
  ·split at h
   ·split at h
    ·split at h
     ·injection h with h1 h2
      exact .inr (.inl ⟨by assumption,h1.symm,_,_,rfl,by assumption,h2.symm⟩)
     ·cases h
    ·cases h
   ·cases h
  ·injection h with h1 h2
   exact .inr (.inr ⟨by assumption,by assumption,h1.symm,h2.symm⟩)
theorem stF_fun [Glob] {r:Nat} {q:List Nat} {o sz m:Nat} {src:Option Nat} (hsr:src≠some r) {X:Nat→Prop} (hX1:X r) (hX2:∀ s,src=some s→X s):Fun (stF r q o sz m src) X:=by
 refine ⟨fun s z hX => ?_,fun s z s' z' hX h => ?_,fun s z s2 z2 s' z' h1 h2 => ?_,fun s z => ?_⟩
 ·unfold stF
  rw [if_neg (fun e:s=r=>hX (e▸hX1)),if_neg (fun e=>hX (hX2 s e))]
 ·rcases stF_key hsr h with ⟨_,rfl,_⟩ | ⟨_,rfl,_⟩ | ⟨_,_,rfl,_⟩
  ·exact hX1
  ·exact hX1
  ·exact hX
 ·rcases stF_key hsr h1 with ⟨rfl,rfl,rfl,hu⟩ | ⟨e1,rfl,y,rest,rfl,hy,rfl⟩ | ⟨e1,e2,rfl,rfl⟩
  ·rcases stF_key hsr h2 with ⟨rfl,_,h4,_⟩ | ⟨e1,_,y,rest,rfl,hy,he⟩ | ⟨e1,e2,h3,h4⟩
   ·exact ⟨rfl,h4⟩
   ·exact absurd ⟨y,rest,hy,he⟩ (hu (by rw [e1]; rfl))
   ·exact absurd h3.symm e1
  ·rcases stF_key hsr h2 with ⟨rfl,_,h4,hu⟩ | ⟨e2,_,y2,rest2,rfl,hy2,he⟩ | ⟨e2,e3,h3,h4⟩
   ·exact absurd ⟨y,rest,hy,h4.symm⟩ (hu (by rw [e1]; rfl))
   ·have he:=List.append_cancel_left he
    injection he with he1 he2
    rw [e1] at e2
    injection e2 with e2
    exact ⟨e2,by rw [show y=y2 by omega,he2]⟩
   ·exact absurd h3.symm e2
  ·rcases stF_key hsr h2 with ⟨h3,h5,_⟩ | ⟨e3,h5,_⟩ | ⟨e3,e4,h3,h4⟩
   ·exact absurd h5 e1
   ·exact absurd h5 e1
   ·exact ⟨h3,h4⟩
 ·unfold stF
  repeat' split
  all_goals simp
theorem modRoot_same {p:List St} {u u':V} {t':Ty} {y:t'.den} {log:List Nat} (h:(modRoot p u t' y).Runs T u' log):u'.root=u.root∧u'.owns=u.owns∧u'.deep=u.deep∧u'.isD=u.isD:=by
 cases u with
 | box l n t x =>
  obtain ⟨x2,l1,l2,rfl,h1,h2⟩:=M.runs_bind h
  obtain ⟨rfl,_⟩:=h2
  exact ⟨rfl,rfl,rfl,rfl⟩
 | d l n t x =>
  simp only [modRoot] at h
  split at h
  ·obtain ⟨x2,l1,l2,rfl,h1,h2⟩:=M.runs_bind h
   obtain ⟨rfl,_⟩:=h2
   exact ⟨rfl,rfl,rfl,rfl⟩
  ·exact h.elim
 | dead=>exact h.elim
 | tup _=>exact h.elim
 | rp _ _ _=>exact h.elim
 | ptr _ _ _=>exact h.elim
 | view _ _ _=>exact h.elim
 | hole _ _=>exact h.elim
 | part _ _ _ _ _=>exact h.elim
 | odd _ _ _ _=>exact h.elim
 | same _ _=>exact h.elim
theorem modRoot_d {p:List St} {l:Option Nat} {n:Nat} {t:Ty} {x:t.den} {u':V} {t':Ty} {y:t'.den} {log:List Nat} (h:(modRoot p (.d l n t x) t' y).Runs T u' log):∃ x2,u' = .d l n t x2:=by
 simp only [modRoot] at h
 split at h
 ·obtain ⟨x2,l1,l2,rfl,h1,h2⟩:=M.runs_bind h
  obtain ⟨rfl,_⟩:=h2
  exact ⟨x2,rfl⟩
 ·exact h.elim
theorem modRoot_rep {T1 T2:List V} {tm1 tm2:Array Value} {p:List St} {u u':V} {l:Option Nat} {n':Nat} {t':Ty} {x' y:t'.den} {log log2:List Nat} {r g':Nat} {cur cur':Array Value} {e':TypeId} {c:Value}
  (hs:SRep L T1 tm1 r u w c) (hz:(rootD p u).Runs T (l,⟨n',t',x'⟩) log) (hm:(modRoot p u t' y).Runs T u' log2) (hdp:∀ r',u.root=some r'→(T2.getD r' .dead).deep=true)
  (hu:Upd w w' L L' (SL L u.root) (SL L' u.root) r (node [] 0 p).1 (node [] 0 p).2 t'.sz g' cur cur' e')
  (hy:Own w' L' (SL L' u.root) r n' t' y (node [] 0 p).1 (node [] 0 p).2 ((cur'.toList.drop (node [] 0 p).2).take t'.sz)):SRep L' T2 tm2 r u' w' c:=by
 cases u with
 | box l0 n t x =>
  obtain ⟨zz,l1,l2,rfl,h1,h2⟩:=M.runs_bind hz
  obtain ⟨h2,_⟩:=h2
  cases h2
  obtain ⟨x2,l3,l4,rfl,h3,h4⟩:=M.runs_bind hm
  obtain ⟨rfl,_⟩:=h4
  obtain ⟨h0,g,curg,e,k1,k2,k3,k4,k5⟩:=hs
  obtain ⟨cur2,j1,j2,j3,j4,j5⟩:=modP_own (q:=[]) (o:=0) (g1:=g) (cur1:=curg) (e1:=e) hu hy rfl k2 k3 (by omega) (by
   rw [List.drop_zero,List.take_of_length_le (by rw [← k4]; simp)]; exact k5) h1 h3
  refine ⟨fun r' hr'=>hdp r' hr',g,cur2,e,k1,j2,j1,by rw [j3]; exact k4,?_⟩
  rw [List.drop_zero,List.take_of_length_le (by rw [← k4,← j3]; simp)] at j5
  exact j5
 | d l0 n t x =>
  simp only [rootD] at hz
  split at hz
  ·rename_i sz i p'
   obtain ⟨zz,l1,l2,rfl,h1,h2⟩:=M.runs_bind hz
   obtain ⟨h2,_⟩:=h2
   cases h2
   simp only [modRoot] at hm
   obtain ⟨x2,l3,l4,rfl,h3,h4⟩:=M.runs_bind hm
   obtain ⟨rfl,_⟩:=h4
   obtain ⟨h0,cs,k1,k2⟩:=hs
   cases t <;> cases n <;> simp only [getP] at h1 <;> try exact h1.elim
   rename_i e t n
   split at h1
   ·rename_i hsz
    subst hsz
    obtain ⟨y0,hy0,h1⟩:=h1
    simp only [modP,if_true] at h3
    obtain ⟨y9,hy9,h3⟩:=h3
    obtain rfl:y0=y9:=by rw [hy0] at hy9; exact Option.some.inj hy9
    obtain ⟨z2,l5,l6,rfl,h5,h6⟩:=M.runs_bind h3
    obtain ⟨w9,hw9,rfl,_⟩:=h6
    injection hw9 with hw9
    subst hw9
    obtain ⟨hi,hi0,rfl⟩:=getI_some hy0
    simp only [Own] at k2
    rcases k2 with ⟨_,rfl⟩ | ⟨g2,cap,cur2,hcs,hL,hg,m1,m2,m3,m4⟩
    ·exact absurd hi (by simp)
    ·have hb:i.toNat*t.sz+t.sz≤cur2.size:=by
      rw [m3]
      calc i.toNat*t.sz+t.sz=(i.toNat+1)*t.sz:=by rw [Nat.add_mul,Nat.one_mul]
       _≤cap*t.sz:=Nat.mul_le_mul_right _ (by omega)
     have hL2:L g2 = .own r ([]++[0]):=hL
     obtain ⟨cur3,j1,j2,j3,j4,j5⟩:=modP_own hu hy (p:=p') (q:=[]++[0]) (o:=i.toNat*t.sz) (g1:=g2) (cur1:=cur2) (e1:=e) rfl hL2 hg hb (m4 _ hi) h1 h5
     have hr1:Reach ([]++[0]) (i.toNat*t.sz) t.sz (node [] 0 (St.idx t.sz i::p')).1 (node [] 0 (St.idx t.sz i::p')).2 t'.sz:=getP_reach (q:=[]++[0]) (o:=i.toNat*t.sz) h1
     refine ⟨fun r' hr'=>hdp r' hr',cs,k1,?_⟩
     simp only [Own]
     refine .inr ⟨g2,cap,cur3,by rw [hcs]; simp,j2,j1,by simpa using m1,m2,by rw [j3]; exact m3,fun j hj => ?_⟩
     simp only [List.length_set] at hj
     by_cases hji:j=i.toNat
     ·subst hji
      have:(x.set i.toNat z2)[i.toNat]'(by simpa using hi)=z2:=List.getElem_set_self _
      rw [this]
      exact j5
     ·have he:(x.set i.toNat z2)[j]'(by simpa using hj)=x[j]:=List.getElem_set_ne (fun e=>hji e.symm) _
      rw [he]
      have hd:(j*t.sz+t.sz≤i.toNat*t.sz)∨(i.toNat*t.sz+t.sz≤j*t.sz):=by
       rcases Nat.lt_or_gt_of_ne hji with h | h
       ·left
        calc j*t.sz+t.sz=(j+1)*t.sz:=by rw [Nat.add_mul,Nat.one_mul]
         _≤i.toNat*t.sz:=Nat.mul_le_mul_right _ h
       ·right
        calc i.toNat*t.sz+t.sz=(i.toNat+1)*t.sz:=by rw [Nat.add_mul,Nat.one_mul]
         _≤j*t.sz:=Nat.mul_le_mul_right _ h
      rw [take_drop_same (cur:=cur2) (fun i' h1 h2=>j4 i' (by omega))]
      exact Own.sib hu hr1 (by omega) (m4 j hj)
   ·exact h1.elim
  ·exact hz.elim
 | dead=>exact hz.elim
 | tup _=>exact hz.elim
 | rp _ _ _=>exact hz.elim
 | ptr _ _ _=>exact hz.elim
 | view _ _ _=>exact hz.elim
 | hole _ _=>exact hz.elim
 | part _ _ _ _ _=>exact hz.elim
 | odd _ _ _ _=>exact hm.elim
 | same _ _=>exact hz.elim
def putCells (cur:Array Value) (o:Nat) (cs:List Value):Array Value:=(cur.toList.take o++cs++cur.toList.drop (o+cs.length)).toArray
theorem putCells_size {cur:Array Value} {o:Nat} {cs:List Value} (h:o+cs.length≤cur.size):(putCells cur o cs).size=cur.size:=by
 simp [putCells]; omega
theorem putCells_at {cur:Array Value} {o:Nat} {cs:List Value} (h:o+cs.length≤cur.size):((putCells cur o cs).toList.drop o).take cs.length=cs:=by
 have:(cur.toList.take o).length=o:=by simp; omega
 simp only [putCells,List.append_assoc]
 rw [List.drop_left' this,List.take_left' rfl]
theorem putCells_out {cur:Array Value} {o:Nat} {cs:List Value} (h:o+cs.length≤cur.size) (i:Nat) (hi:i < o∨o+cs.length≤i):(putCells cur o cs)[i]? = cur[i]? := by
 have hl:(cur.toList.take o).length=o:=by simp; omega
 simp only [putCells,List.getElem?_toArray]
 rcases hi with hi | hi
 ·rw [List.append_assoc,List.getElem?_append_left (by omega),List.getElem?_take_of_lt hi]
  simp
 ·rw [List.getElem?_append_right (by simp; omega),List.getElem?_drop]
  simp only [List.length_append,hl]
  rw [show o+cs.length+(i - (o+cs.length))=i by omega]
  simp
theorem Inv.store [Glob] (hI:Inv w0 L0 N vs T a w L) {r:Nat} {p:List St} {u u':V} {l:Option Nat} {n' m:Nat} {t':Ty} {x' y:t'.den} {log log2:List Nat} {src:Option Nat} {g':Nat} {cur:Array Value} {e:TypeId} {cs:List Value}
  (hr:T.getD r .dead=u) (hz:(rootD p u).Runs T (l,⟨n',t',x'⟩) log) (hm:(modRoot p u t' y).Runs T u' log2) (hself:u.root≠some r)
  (hg:L g' = .own r (node [] 0 p).1) (hh:w.heap[g']? = some (.cells cur e (0,0))) (hsz:(node [] 0 p).2+t'.sz≤cur.size) (hlen:cs.length=t'.sz)
  (hsrc:∀ s,src=some s→s≠r∧s ∉ vs∧T'.getD s .dead = .dead∧(T.getD s .dead).root=none) (hlenT:T'.length=N) (hTr:T'.getD r .dead=u')
  (hT:∀ s,s≠r→src≠some s→(T.getD s .dead).on r=true→(T'.getD s .dead = .dead∧(T.getD s .dead).owns=false)∨(T'.getD s .dead=T.getD s .dead∧(keepable u src (T.getD s .dead)=true∨(src=none∧shallow p=false∧u.isD=false∧∃ p2 t2,T.getD s .dead = .view r p2 t2∧(node [] 0 p2).1≠(node [] 0 p).1))))
  (hT2:∀ s,s≠r→src≠some s→(T.getD s .dead).on r=false→T'.getD s .dead=T.getD s .dead)
  (hy:Own (w.setRow g' (putCells cur (node [] 0 p).2 cs)) (newLab (stF r (node [] 0 p).1 (node [] 0 p).2 t'.sz m src) w L (fun _ => .free)) (SL (newLab (stF r (node [] 0 p).1 (node [] 0 p).2 t'.sz m src) w L (fun _ => .free)) u.root) r n' t' y (node [] 0 p).1 (node [] 0 p).2 cs) :
  Inv w0 L0 N vs T' a (w.setRow g' (putCells cur (node [] 0 p).2 cs)) (newLab (stF r (node [] 0 p).1 (node [] 0 p).2 t'.sz m src) w L (fun _ => .free)):=by
 obtain ⟨hrt,hown',hdeep',hisd'⟩:=modRoot_same hm
 have hsr:src≠some r:=fun e=>(hsrc r e).1 rfl
 have hsl:=hI.slots r
 rw [hr] at hsl
 obtain ⟨_,hlend,_,howns,hisd⟩:=rootD_inB hz hsl
 have hl:u.root=l:=by
  cases u with
  | box l0 n t x =>
   obtain ⟨zz,l1,l2,rfl,h1,h2⟩:=M.runs_bind hz
   obtain ⟨h2,_⟩:=h2
   cases h2
   rfl
  | d l0 n t x =>
   simp only [rootD] at hz
   split at hz
   ·obtain ⟨zz,l1,l2,rfl,h1,h2⟩:=M.runs_bind hz
    obtain ⟨h2,_⟩:=h2
    cases h2
    rfl
   ·exact hz.elim
  | dead=>exact hz.elim
  | tup _=>exact hz.elim
  | rp _ _ _=>exact hz.elim
  | ptr _ _ _=>exact hz.elim
  | view _ _ _=>exact hz.elim
  | hole _ _=>exact hz.elim
  | part _ _ _ _ _=>exact hz.elim
  | odd _ _ _ _=>exact (oddD_inB hz hsl).2.1.symm
  | same _ _=>exact hz.elim
 let X:Nat→Prop:=fun s=>s=r∨src=some s∨(T.getD s .dead).on r=true
 have hfun:Fun (stF r (node [] 0 p).1 (node [] 0 p).2 t'.sz m src) X:=stF_fun hsr (.inl rfl) (fun s h => .inr (.inl h))
 have hw':∀ k,k≠g'→(w.setRow g' (putCells cur (node [] 0 p).2 cs)).heap[k]? = w.heap[k]? := fun k hk=>setRow_other w g' k _ hk
 have hwd:Wd w (w.setRow g' (putCells cur (node [] 0 p).2 cs)) L (fun _ => .free) X:=by
  refine ⟨rfl,rfl,rfl,by simp [World.setRow],Nat.le_refl _,fun k hk hx=>hw' k ?_,fun _ _=>rfl,fun _ _ _ _ h=>by cases h⟩
  rintro rfl
  exact hx r _ hg (.inl rfl)
 have hlX:∀ r',u.root=some r'→¬ X r':=by
  intro r' hr' hx
  have hd:(T.getD r' .dead).deep=true:=hlend r' (by rw [← hl]; exact hr')
  have ho:=V.owns_of_deep hd
  rcases hx with rfl | hx | hx
  ·exact hself hr'
  ·have:=hI.roots r r' (by rw [hr]; simp [V.on,hr'])
   exact (hsrc r' hx).2.1 this
  ·by_cases hrr:r'=r
   ·exact hself (by rw [← hrr]; exact hr')
   ·by_cases hs':src=some r'
    ·exact (hsrc r' hs').2.1 (hI.roots r r' (by rw [hr]; simp [V.on,hr']))
    ·rcases hT r' hrr hs' hx with ⟨_,h⟩ | ⟨_,h | ⟨_,_,_,p2,t2,h,_⟩⟩
     ·rw [h] at ho; cases ho
     ·generalize T.getD r' .dead=v at h ho
      cases v <;> simp [keepable] at h <;> simp [V.owns] at ho
     ·rw [h] at ho; cases ho
 have hnotT:∀ s,¬ X s→T'.getD s .dead=T.getD s .dead:=by
  intro s hs
  have hs:=not_or.1 hs
  have hs2:=not_or.1 hs.2
  exact hT2 s hs.1 hs2.1 (by simpa using hs2.2)
 refine Inv.updF (X:=X) hI hfun hwd (fun _ _ _ _ _ h=>by cases h) hI.size hlenT hI.dfr ?_ ?_ (fun s hs=>⟨hnotT s hs,rfl⟩) ?_ ?_
 ·
  intro k s q hX h
  by_cases hs:s=r
  ·subst hs; rw [hTr,hown']; exact howns
  ·unfold newLab at h
   split at h
   ·obtain ⟨s0,q0,e0,f0⟩:=relab_own h
    rcases stF_key hsr f0 with ⟨_,rfl,_⟩ | ⟨_,rfl,_⟩ | ⟨h1,h2,rfl,rfl⟩
    ·exact absurd rfl hs
    ·exact absurd rfl hs
    ·have ho:=hI.owner k s q e0
     rcases hX with h3 | h3 | h3
     ·exact absurd h3 hs
     ·exact absurd h3 h2
     ·rcases hT s hs h2 h3 with ⟨_,h⟩ | ⟨h4,_⟩
      ·rw [h] at ho; cases ho
      ·rw [h4]; exact ho
   ·cases h
 ·intro s r' hs hon hr'
  rcases hr' with rfl | hr' | hr'
  ·exact absurd (.inr (.inr hon)) hs
  ·exact absurd (hI.roots s r' hon) (hsrc r' hr').2.1
  ·by_cases hrr:r'=r
   ·subst hrr; exact absurd (.inr (.inr hon)) hs
   ·by_cases hs':src=some r'
    ·exact absurd (hI.roots s r' hon) (hsrc r' hs').2.1
    ·rcases hT r' hrr hs' hr' with ⟨_,h⟩ | ⟨_,h | ⟨_,_,_,p2,t2,h,_⟩⟩
     ·exact h
     ·generalize T.getD r' .dead=v at h
      cases v <;> simp [keepable] at h <;> simp [V.owns]
     ·rw [h]; rfl
 ·intro s r' hX hon
  by_cases hs:s=r
  ·subst hs
   rw [hTr] at hon
   refine hI.roots s r' ?_
   rw [hr]
   simpa [V.on,hrt] using hon
  ·by_cases hs':src=some s
   ·rw [(hsrc s hs').2.2.1] at hon
    simp [V.on,V.root] at hon
   ·cases ho:(T.getD s .dead).on r with
    | false =>
     rw [hT2 s hs hs' ho] at hon
     exact hI.roots s r' hon
    | true =>
     rcases hT s hs hs' ho with ⟨h,_⟩ | ⟨h,_⟩
     ·rw [h] at hon; simp [V.on,V.root] at hon
     ·rw [h] at hon; exact hI.roots s r' hon
 ·intro s hX
  have hLg:newLab (stF r (node [] 0 p).1 (node [] 0 p).2 t'.sz m src) w L (fun _ => .free) g' = .own r (node [] 0 p).1:=by
   rw [newLab_old hI (by rw [hg]; simp),hg]
   simp only [relab,stF]
   rw [if_pos trivial,if_neg]
   intro h
   simp only [Bool.and_eq_true] at h
   obtain ⟨d,rest,_,h⟩:=underB_spec.1 h.2
   have:=congrArg List.length h
   simp at this
  have hnone:∀ k q,src=none→L k = .own r q→newLab (stF r (node [] 0 p).1 (node [] 0 p).2 t'.sz m src) w L (fun _ => .free) k = .own r q:=by
   intro k q hn hk
   rw [newLab_old hI (by rw [hk]; simp),hk]
   simp [relab,stF,hn]
  by_cases hs:s=r
  ·subst hs
   rw [hTr]
   have hat:((putCells cur (node [] 0 p).2 cs).toList.drop (node [] 0 p).2).take t'.sz=cs:=by
    have:=putCells_at (cur:=cur) (o:=(node [] 0 p).2) (cs:=cs) (by omega)
    rwa [hlen] at this
   refine modRoot_rep (cur:=cur) (e':=e) (g':=g') (cur':=putCells cur (node [] 0 p).2 cs) hsl hz hm (fun r' hr' => ?_) ?_ (by rw [hat]; exact hy)
   ·rw [hnotT r' (hlX r' hr')]
    exact hlend r' (by rw [← hl]; exact hr')
   ·refine ⟨fun k hk => ?_,fun k q2 hk hq hu => ?_,hg,hLg,hh,setRow_heap w g' cur _ e _ hh,putCells_size (by omega),fun i hi=>putCells_out (by omega) i (by omega),fun k hk=>hI.inj k g' s _ hk hg⟩
    ·rcases hk with hk | ⟨r',q,hr',hk⟩
     ·exact ⟨.inl (newLab_stable hI hk),hw' k (by rintro rfl; rw [hg] at hk; cases hk)⟩
     ·refine ⟨.inr ⟨r',q,hr',newLab_id hI hfun hk (hlX r' hr')⟩,hw' k ?_⟩
      rintro rfl
      rw [hg] at hk
      injection hk with hk _
      exact hlX r' hr' (.inl hk.symm)
    ·refine ⟨?_,hw' k ?_⟩
     ·rw [newLab_old hI (by rw [hk]; simp),hk]
      simp only [relab,stF]
      rw [if_pos trivial,if_neg]
      intro h
      simp only [Bool.and_eq_true] at h
      exact hu (underB_spec.1 h.2)
     ·rintro rfl
      rw [hg] at hk
      injection hk with _ hk
      exact hq hk.symm
  ·by_cases hs':src=some s
   ·rw [(hsrc s hs').2.2.1]; trivial
   ·have ho:(T.getD s .dead).on r=true:=by
     rcases hX with h | h | h
     ·exact absurd h hs
     ·exact absurd h hs'
     ·exact h
    rcases hT s hs hs' ho with ⟨h,_⟩ | ⟨h,hk | ⟨hn0,hpd,hud,p2,t2,hv2,hsh⟩⟩
    ·rw [h]; trivial
    rotate_left
    ·rw [h]
     have hsl':=hI.slots s
     rw [hv2] at hsl' ⊢
     obtain ⟨hd,h1⟩:=hsl'
     refine ⟨by rw [hTr,hdeep']; rw [hr] at hd; exact hd,.inr ?_⟩
     rcases h1 with ⟨_,_,l1,n1,x1,h2,_⟩ | ⟨g,cur1,e1,h1,h2,h3,h4,h5⟩
     ·rw [hr] at h2
      rw [h2] at hud; cases hud
     ·have hgn:g≠g':=by
       rintro rfl
       rw [h2] at hg
       injection hg with _ hg
       exact hsh hg
      exact ⟨g,cur1,e1,by rw [hTr,hisd',hud]; exact .inl rfl,hnone g _ hn0 h2,by rw [hw' g hgn]; exact h3,h4,h5⟩
    ·rw [h]
     have hsl':=hI.slots s
     generalize hv:T.getD s .dead=v at hk ho hsl'
     cases v with
     | ptr r2 p2 t2 =>
      obtain ⟨g,h1,h2⟩:=hsl'
      have hr2:r2=r:=by simpa [V.on,V.root] using ho
      subst hr2
      refine ⟨g,h1,?_⟩
      have hk:src.isNone=true∨shallow p2=true:=by
       simp only [keepable,Bool.or_eq_true,Bool.and_eq_true] at hk
       exact hk.imp id And.left
      rcases hk with hk | hk
      ·exact hnone g _ (by simpa using hk) h2
      ·rw [shallow_node hk] at h2 ⊢
       rw [newLab_old hI (by rw [h2]; simp),h2]
       simp only [relab,stF]
       rw [if_pos trivial,if_neg]
       intro h
       simp only [Bool.and_eq_true] at h
       obtain ⟨d,rest,_,h⟩:=underB_spec.1 h.2
       have:=congrArg List.length h
       simp at this
     | view r2 p2 t2 =>
      have hr2:r2=r:=by simpa [V.on,V.root] using ho
      subst hr2
      cases p2 with
      | cons _ _=>simp [keepable] at hk
      | nil =>
       obtain ⟨hd,h1⟩:=hsl'
       refine ⟨by rw [hTr,hdeep']; rw [hr] at hd; exact hd,.inl ⟨rfl,?_,?_⟩⟩
       ·rcases h1 with ⟨_,h2,_⟩ | ⟨_,_,_,h2,_⟩
        ·exact h2
        ·rw [hr] at h2
         simp only [keepable] at hk
         rw [hk] at h2
         simp at h2
       ·rcases h1 with ⟨_,_,l1,n1,x1,h2,h3⟩ | ⟨_,_,_,h2,_⟩
        ·rw [hr] at h2
         rw [hTr]
         subst h2
         obtain ⟨x2,rfl⟩:=modRoot_d hm
         exact ⟨_,_,_,rfl,h3⟩
        ·rw [hr] at h2
         simp only [keepable] at hk
         rw [hk] at h2
         simp at h2
     | dead=>simp [keepable] at hk
     | tup _=>simp [keepable] at hk
     | d _ _ _ _=>simp [keepable] at hk
     | box _ _ _ _=>simp [keepable] at hk
     | rp _ _ _=>simp [keepable] at hk
     | hole _ _=>simp [keepable] at hk
     | part _ _ _ _ _=>simp [keepable] at hk
     | odd _ _ _ _=>simp [keepable] at hk
     | same _ _=>simp [keepable] at hk
end
end Go.Proofs.YtkanidldnnfloaaGreat.P.Am
