/- A part of the proof: Am9, Am10, Am11, Am12, Am13, Am14, Am15, Am16, Am17, Am18. No conditions. -/
import Derived.Test.YtkanidldnnfloaaGreatPG1
import Derived.IntWalk
import Derived.Laws.StructEq
import Derived.Laws.BytesString
set_option linter.unusedVariables false
set_option linter.unusedSimpArgs false
namespace Go.Proofs.YtkanidldnnfloaaGreat.P.Am
def aggOf (C:Ctx) (X:TypeId):Option Ty:=match C.ty X with
 | some (.agg t)=>cond t.isArr none (some t)
 | _=>none
def arrOf (C:Ctx) (X:TypeId):Option Ty:=match C.ty X with
 | some (.agg t)=>cond t.isArr (some t) none
 | _=>none
def arrIdx (r:Nat) (p:List St) (t:Ty) (i:Int):Nat→Nat→M V
 | 0,_ => .fail
 | m+1,k=>match compT (k+1) t with
  | some (off,t1) => .ite (decide (i=(k:Int))) (.ret (.ptr r (p++[.fld (k+1) off]) t1)) (arrIdx r p t i m (k+1))
  | none => .fail
def elemT:Ty→Ty
 | .pair a _=>a
 | t=>t
def elemsL (te:Ty):(t:Ty)→t.den→List te.den
 | .pair a b,z=>if h:a=te then (h▸z.1)::elemsL te b z.2 else []
 | .int k,z=>if h:Ty.int k=te then [h▸z] else []
 | .bool,z=>if h:Ty.bool=te then [h▸z] else []
 | .str,z=>if h:Ty.str=te then [h▸z] else []
 | _,_=>[]
theorem elemsL_comp {te:Ty}:{t:Ty}→{z:t.den}→{j:Nat}→{y:te.den}→(elemsL te t z)[j]? = some y→∃ off,comp j t z=some (off,⟨te,y⟩)
 | .pair a b,z,j,y,h=>by
  simp only [elemsL] at h
  split at h
  ·rename_i ht
   subst ht
   cases j with
   | zero =>
    simp only [List.getElem?_cons_zero,Option.some.injEq] at h
    subst h
    exact ⟨0,rfl⟩
   | succ j =>
    obtain ⟨off,h⟩:=elemsL_comp (t:=b) (by simpa using h)
    exact ⟨a.sz+off,by simp [comp,h]⟩
  ·simp at h
 | .int k,z,j,y,h=>by
  simp only [elemsL] at h
  split at h
  ·rename_i ht
   subst ht
   cases j with
   | zero=>simp only [List.getElem?_cons_zero,Option.some.injEq] at h; subst h; exact ⟨0,rfl⟩
   | succ j=>simp at h
  ·simp at h
 | .bool,z,j,y,h=>by
  simp only [elemsL] at h
  split at h
  ·rename_i ht
   subst ht
   cases j with
   | zero=>simp only [List.getElem?_cons_zero,Option.some.injEq] at h; subst h; exact ⟨0,rfl⟩
   | succ j=>simp at h
  ·simp at h
 | .str,z,j,y,h=>by
  simp only [elemsL] at h
  split at h
  ·rename_i ht
   subst ht
   cases j with
   | zero=>simp only [List.getElem?_cons_zero,Option.some.injEq] at h; subst h; exact ⟨0,rfl⟩
   | succ j=>simp at h
  ·simp at h
 | .raw _,_,_,_,h | .unit,_,_,_,h | .agg _,_,_,_,h | .slice _ _,_,_,_,h=>by simp [elemsL] at h
def sliceOf (C:Ctx) (X:TypeId):Option Ty:=match C.ty X with
 | some (.slice _ t)=>some t
 | _=>none
def fieldAddrV (C:Ctx) (X:TypeId) (f:Nat) (t:Nat):V→M V
 | .ptr r p _=>match aggOf C X with
  | some ta=>match compT f ta with
   | some (off,t1) => .ret (.ptr r (p++[.fld f off]) t1)
   | none => .fail
  | none => .fail
 | .box _ _ _ _=>match aggOf C X with
  | some ta=>match compT f ta with
   | some (off,t1) => .ret (.ptr t [.fld f off] t1)
   | none => .fail
  | none => .fail
 | .rp l t' x=>match t',x with
  | .agg ta,x=>if aggOf C X=some ta then match comp f ta x with
    | some (_,⟨t1,x1⟩) => .ret (.rp l t1 x1)
    | none => .fail
   else .fail
  | _,_ => .fail
 | _ => .fail
def nilCheckV (t:Nat):V→M V
 | .ptr r p t' => .ret (.ptr r p t')
 | .rp l t' x => .ret (.rp l t' x)
 | .box _ _ t' _ => .ret (.ptr t [] t')
 | _ => .fail
def indexAddrV (C:Ctx) (X:TypeId) (t:Nat) (i:Int):V→M V
 | .d l n t' x=>match t',x with
  | .slice _ te,xs=>if sliceOf C X=some te then .bnd te (getI xs i) fun y=>if n=0 then .ret (.rp l te y) else .ret (.ptr t [.idx te.sz i] te)
   else .fail
  | _,_ => .fail
 | .view r p t' => .get r fun u=>(viewD p u).bind fun z=>match z.2 with
  | ⟨n,.slice e te,xs⟩=>if .slice e te=t'∧sliceOf C X=some te∧n≠0 then .bnd te (getI xs i) fun _ => .ret (.ptr r (p++[.idx te.sz i]) te) else .fail
  | _ => .fail
 | .ptr r p _=>match arrOf C X with
  | some ta=>arrIdx r p ta i 8 0
  | none => .fail
 | .box _ _ _ _=>match arrOf C X with
  | some ta=>arrIdx t [] ta i 8 0
  | none => .fail
 | _ => .fail
def getB (s:ByteArray) (i:Int):Option Int:=if 0≤i then (s[i.toNat]?).map fun b=>(b.toNat:Int) else none
def lenV (tx:Ty) (t:Nat) (v:V):M V :=
 match tx with
 | .slice _ _=>(readD t v).bind fun z=>match z.2 with
  | ⟨.slice _ _,xs⟩ => .ret (.d none 0 (.int .i64) (xs.length:Int))
  | _ => .fail
 | .str=>match v with
  | .d _ _ .str s => .ret (.d none 0 (.int .i64) (s.size:Int))
  | _ => .fail
 | _ => .fail
section
variable {P:Program} {C:Ctx} {w w' w0:World} {S S':Nat→Prop} {L L' L0:Nat→Lab} {s N:Nat} {vs:List Nat} {T T':List V} {tm tm':Array Value} {a:Act}
theorem PureRes.ptr [Glob] (hI:Inv w0 L0 N vs T a w L) {o:Oper} {r d g:Nat} {p:List St} {t:Ty} (hrun:(execOp a.eval o).run P w = .ok (.value (.pointer (some ⟨g,(node [] 0 p).2,none⟩))) w)
  (hg:L g = .own r (node [] 0 p).1) (hvs:∀ r',(V.ptr r p t).on r'=true→r'∈vs):PureRes P o vs T a w L d (.ptr r p t) :=
 ⟨_,w,L,hrun,Grows.refl hI d,fun k q hk h=>(by rw [hI.free k hk] at h; cases h),hvs,g,rfl,hg⟩
theorem run_fieldAt [Glob] (hC:CtxOk P C) {X:TypeId} {f g o off:Nat} {ta t1:Ty} (h1:aggOf C X=some ta) (h2:compT f ta=some (off,t1)) :
  (Instr.fieldAt X (.pointer (some ⟨g,o,none⟩)) f).run P w = .ok (.pointer (some ⟨g,o+off,none⟩)) w:=by
 unfold aggOf at h1
 split at h1
 ·rename_i t' ht
  cases hia:t'.isArr with
  | true=>rw [hia] at h1; cases h1
  | false =>
  rw [hia] at h1
  injection h1 with h1
  subst h1
  obtain ⟨⟨fs,hu,hf,hn⟩,_⟩:=(hC X _ ht).str hia
  have hlt:=hn f _ h2
  have hfs:fs[f]? = some fs[f]:=Array.getElem?_eq_getElem hlt
  obtain ⟨t2,h3,h4,h5,_⟩:=hf f _ hfs
  rw [h2] at h3
  simp only [Option.some.injEq,Prod.mk.injEq] at h3
  obtain ⟨rfl,rfl⟩:=h3
  have hs:=(hC _ _ h4).run_sizeOf (w:=w)
  simp [Instr.fieldAt,run_underlying hu,hlt,Instr.sureAddr,fieldPlace,hs,h5,Addr.add_lit]
 ·cases h1
theorem node_fld [Glob] (q:List Nat) (o:Nat) (p:List St) (f off:Nat):node q o (p++[.fld f off])=((node q o p).1,(node q o p).2+off):=by
 rw [node_append]; rfl
theorem pure_fieldAddr [Glob] (hI:Inv w0 L0 N vs T a w L) (hC:CtxOk P C) {o:Oper} {X:TypeId} {t f d:Nat} {v:V} {log:List Nat} (ho:o.op = .fieldAddr X (.tmp t) f)
  (hid:(T.getD d .dead).idle=true) (h:(M.get t (fieldAddrV C X f t)).Runs T v log) (hvs:∀ r,v.on r=true→r∈vs):PureRes P o vs T a w L d v:=by
 obtain ⟨log',rfl,h⟩:=h
 have hs:=hI.slots t
 generalize hv:T.getD t .dead=u at h hs
 have key:∀ {g o' off:Nat} {ta t1:Ty},a.tmps.getD t undef = .pointer (some ⟨g,o',none⟩)→aggOf C X=some ta→compT f ta=some (off,t1) →
   (execOp a.eval o).run P w = .ok (.value (.pointer (some ⟨g,o'+off,none⟩))) w:=by
  intro g o' off ta t1 h1 h2 h3
  have h1':a.eval (.tmp t)=_:=h1
  simp [execOp,ho,h1',run_fieldAt hC h2 h3]
 cases u with
 | ptr r p t' =>
  simp only [fieldAddrV] at h
  obtain ⟨g,h1,h2⟩:=hs
  split at h
  ·rename_i ta hta
   split at h
   ·rename_i off t1 hc
    obtain ⟨rfl,_⟩:=h
    refine PureRes.ptr hI (g:=g) ?_ ?_ hvs
    ·rw [key h1 hta hc,node_fld]
    ·rw [node_fld]; exact h2
   ·exact h.elim
  ·exact h.elim
 | box l n t' x =>
  simp only [fieldAddrV] at h
  obtain ⟨_,g,cur,e,h1,h2,_⟩:=hs
  split at h
  ·rename_i ta hta
   split at h
   ·rename_i off t1 hc
    obtain ⟨rfl,_⟩:=h
    refine PureRes.ptr hI (g:=g) ?_ ?_ hvs
    ·rw [key h1 hta hc]; rfl
    ·exact h2
   ·exact h.elim
  ·exact h.elim
 | rp l t' x =>
  simp only [fieldAddrV] at h
  cases t' <;> try exact h.elim
  rename_i ta
  simp only at h
  split at h
  ·rename_i hta
   split at h
   ·rename_i off t1 x1 hc
    obtain ⟨rfl,_⟩:=h
    obtain ⟨h0,g,o',cs,h1,h2,h3,h4⟩:=hs
    simp only [Rd] at h3
    have hcT:compT f ta=some (off,t1):=comp_compT hc
    obtain ⟨h5,h6⟩:=comp_own (n:=0) (q:=[]) (o:=0) (L:=L) (s:=0) hc (Own.of_rd h3)
    refine ⟨_,w,L,key h1 hta hcT,Grows.refl hI d,fun k q hk h=>(by rw [hI.free k hk] at h; cases h),hvs,?_⟩
    refine ⟨fun r hr => ?_,g,o'+off,_,rfl,h2,Own.rd0 h6,fun i v hv => ?_⟩
    ·have:=h0 r hr
     rw [getD_set,if_neg (fun h=>idle_ne hid (V.owns_of_deep this) h.1)]
     exact this
    ·rw [List.getElem?_take] at hv
     split at hv
     ·rw [List.getElem?_drop] at hv
      rw [Nat.add_assoc]
      exact h4 _ _ hv
     ·cases hv
   ·exact h.elim
  ·exact h.elim
 | dead=>exact h.elim
 | tup _=>exact h.elim
 | d _ _ _ _=>exact h.elim
 | view _ _ _=>exact h.elim
 | hole _ _=>exact h.elim
 | part _ _ _ _ _=>exact h.elim
 | odd _ _ _ _=>exact h.elim
 | same _ _=>exact h.elim
 where
 comp_compT:{i:Nat}→{t:Ty}→{x:t.den}→{o1:Nat}→{t1:Ty}→{x1:t1.den}→comp i t x=some (o1,⟨t1,x1⟩)→compT i t=some (o1,t1):=by
  intro i t x o1 t1 x1 h
  have hne:∃ r,compT i t=some r:=by
   clear hC
   revert x
   induction t generalizing i o1 with
   | pair a b iha ihb =>
    intro x h
    cases i with
    | zero=>exact ⟨_,rfl⟩
    | succ i =>
     simp only [comp,Option.map_eq_some_iff] at h
     obtain ⟨⟨o2,t2,x2⟩,h,he⟩:=h
     simp only [Prod.mk.injEq] at he
     obtain ⟨rfl,he⟩:=he
     cases he
     obtain ⟨r,hr⟩:=ihb h
     exact ⟨(a.sz+r.1,r.2),by simp [compT,hr]⟩
   | _=>intro x h; cases i <;> simp_all [comp,compT]
  obtain ⟨⟨o2,t2⟩,hr⟩:=hne
  obtain ⟨x2,hx2⟩:=compT_comp (x:=x) hr
  rw [h] at hx2
  simp only [Option.some.injEq,Prod.mk.injEq] at hx2
  obtain ⟨rfl,hx2⟩:=hx2
  cases hx2
  exact hr
theorem pure_nilCheck [Glob] (hI:Inv w0 L0 N vs T a w L) {o:Oper} {t d:Nat} {v:V} {log:List Nat} (ho:o.op = .nilCheck (.tmp t))
  (hid:(T.getD d .dead).idle=true) (h:(M.get t (nilCheckV t)).Runs T v log) (hvs:∀ r,v.on r=true→r∈vs):PureRes P o vs T a w L d v:=by
 obtain ⟨log',rfl,h⟩:=h
 have hs:=hI.slots t
 generalize hv:T.getD t .dead=u at h hs
 have key:∀ {g o':Nat},a.tmps.getD t undef = .pointer (some ⟨g,o',none⟩)→(execOp a.eval o).run P w = .ok (.value (.pointer (some ⟨g,o',none⟩))) w:=by
  intro g o' h1
  have h1':a.eval (.tmp t)=_:=h1
  simp [execOp,ho,h1']
 cases u with
 | ptr r p t' =>
  obtain ⟨rfl,_⟩:=h
  obtain ⟨g,h1,h2⟩:=hs
  exact PureRes.ptr hI (g:=g) (key h1) h2 hvs
 | rp l t' x =>
  obtain ⟨rfl,_⟩:=h
  obtain ⟨h0,g,o',cs,h1,h2,h3,h4⟩:=hs
  refine ⟨_,w,L,key h1,Grows.refl hI d,fun k q hk h=>(by rw [hI.free k hk] at h; cases h),hvs,fun r hr => ?_,g,o',cs,rfl,h2,h3,h4⟩
  have:=h0 r hr
  rw [getD_set,if_neg (fun h=>idle_ne hid (V.owns_of_deep this) h.1)]
  exact this
 | box l n t' x =>
  obtain ⟨rfl,_⟩:=h
  obtain ⟨_,g,cur,e,h1,h2,_⟩:=hs
  exact PureRes.ptr hI (g:=g) (p:=[]) (key h1) h2 hvs
 | dead=>exact h.elim
 | tup _=>exact h.elim
 | d _ _ _ _=>exact h.elim
 | view _ _ _=>exact h.elim
 | hole _ _=>exact h.elim
 | part _ _ _ _ _=>exact h.elim
 | odd _ _ _ _=>exact h.elim
 | same _ _=>exact h.elim
theorem run_indexAt [Glob] (hC:CtxOk P C) {X:TypeId} {te:Ty} {g o len cap:Nat} {i:Int} {k:IntKind} (h1:sliceOf C X=some te) (h0:0≤i) (hi:i.toNat < len) :
  (Instr.indexAt X (.slice (some ⟨g,o,none⟩) len cap) (.int k i)).run P w = .ok (.pointer (some ⟨g,o+i.toNat*te.sz,none⟩)) w:=by
 unfold sliceOf at h1
 split at h1
 ·rename_i e te' ht
  injection h1 with h1
  subst h1
  obtain ⟨hu,he⟩:=(hC X _ ht).und
  have hs:=(hC _ _ he).run_sizeOf (w:=w)
  simp [Instr.indexAt,run_underlying hu,asIntOf,hs,Addr.add_lit]
  intro hle
  exact absurd (hle h0) (by omega)
 ·cases h1
theorem run_indexArr [Glob] (hC:CtxOk P C) {X:TypeId} {ta t1:Ty} {g o off j:Nat} {k:IntKind} (h1:arrOf C X=some ta) (h2:compT (j+1) ta=some (off,t1)) :
  (Instr.indexAt X (.pointer (some ⟨g,o,none⟩)) (.int k (j:Int))).run P w = .ok (.pointer (some ⟨g,o+off,none⟩)) w:=by
 unfold arrOf at h1
 split at h1
 ·rename_i t' ht
  cases hia:t'.isArr with
  | false=>rw [hia] at h1; cases h1
  | true =>
  rw [hia] at h1
  injection h1 with h1
  subst h1
  obtain ⟨n,e,te,hu,he,hag,hn,hc,hb⟩:=((hC X _ ht).und).resolve_left (fun h=>by rw [hia] at h; cases h.1) |>.2
  have hlt:=hb j _ h2
  rw [hc j hlt] at h2
  simp only [Option.some.injEq,Prod.mk.injEq] at h2
  obtain ⟨rfl,rfl⟩:=h2
  have hs:=(hC _ _ he).run_sizeOf (w:=w)
  simp [Instr.indexAt,run_underlying hu,asIntOf,hs,Addr.add_lit,Instr.sureAddr,hlt]
 ·cases h1
theorem arrIdx_runs {r:Nat} {p:List St} {t:Ty} {i:Int} {v:V} {log:List Nat}:∀ (m k:Nat),(arrIdx r p t i m k).Runs T v log→∃ (j:Nat) (off:Nat) (t1:Ty),i=(j:Int)∧compT (j+1) t=some (off,t1)∧v = .ptr r (p++[.fld (j+1) off]) t1
 | 0,_,h=>h.elim
 | m+1,k,h=>by
  simp only [arrIdx] at h
  split at h
  ·rename_i off t1 hc
   rcases h with ⟨h1,h,_⟩ | ⟨_,h⟩
   ·exact ⟨k,off,t1,of_decide_eq_true h1,hc,h⟩
   ·exact arrIdx_runs m (k+1) h
  ·exact h.elim
theorem pure_indexAddr [Glob] (hI:Inv w0 L0 N vs T a w L) (hC:CtxOk P C) {o:Oper} {X Y:TypeId} {t d:Nat} {y:Operand} {k:IntKind} {i:Int} {v:V} {log:List Nat} (ho:o.op = .indexAddr X (.tmp t) y)
  (hy:a.eval y = .int k i) (hid:(T.getD d .dead).idle=true) (h:(M.get t (indexAddrV C X t i)).Runs T v log) (hvs:∀ r,v.on r=true→r∈vs):PureRes P o vs T a w L d v:=by
 obtain ⟨log',rfl,h⟩:=h
 have hs:=hI.slots t
 generalize hv:T.getD t .dead=u at h hs
 have key:∀ {g o' len cap:Nat} {te:Ty},a.tmps.getD t undef = .slice (some ⟨g,o',none⟩) len cap→sliceOf C X=some te→0≤i→i.toNat < len →
   (execOp a.eval o).run P w = .ok (.value (.pointer (some ⟨g,o'+i.toNat*te.sz,none⟩))) w:=by
  intro g o' len cap te h1 h2 h3 h4
  have h1':a.eval (.tmp t)=_:=h1
  simp [execOp,ho,h1',hy,run_indexAt hC h2 h3 h4]
 cases u with
 | d l n t' x =>
  simp only [indexAddrV] at h
  cases t' <;> try exact h.elim
  rename_i e te
  simp only at h
  split at h
  ·rename_i hte
   obtain ⟨y0,hy0,h⟩:=h
   obtain ⟨hi,hi0,rfl⟩:=getI_some hy0
   obtain ⟨h0,cs,hf,hown⟩:=hs
   split at h
   ·rename_i hn
    subst hn
    obtain ⟨rfl,_⟩:=h
    simp only [Own,Rd] at hown
    obtain ⟨A,c,rfl,h1,h2,h3⟩:=hown
    obtain ⟨g,o',rfl,hS,hel⟩:=h3 (by rintro rfl; simp at hi)
    have hc:a.tmps.getD t undef=_:=((List.cons.inj hf).1).symm
    obtain ⟨es,he1,he2⟩:=hel _ hi
    refine ⟨_,w,L,key hc hte hi0 hi,Grows.refl hI d,fun k q hk h=>(by rw [hI.free k hk] at h; cases h),hvs,fun r hr => ?_,g,_,es,rfl,hS,he1,fun i v hv => ?_⟩
    ·have:=h0 r hr
     rw [getD_set,if_neg (fun h=>idle_ne hid (V.owns_of_deep this) h.1)]
     exact this
    ·rw [Nat.add_assoc]
     exact he2 i v hv
   ·rename_i hn
    obtain ⟨rfl,_⟩:=h
    obtain ⟨m,rfl⟩:∃ m,n=m+1:=⟨n - 1,by omega⟩
    simp only [Own] at hown
    rcases hown with ⟨_,rfl⟩ | ⟨g,cap,cur,rfl,hL,_⟩
    ·simp at hi
    ·have hc:a.tmps.getD t undef=_:=((List.cons.inj hf).1).symm
     refine PureRes.ptr hI (g:=g) ?_ hL hvs
     rw [key hc hte hi0 hi]
     simp [node]
  ·exact h.elim
 | view r p t' =>
  obtain ⟨log2,rfl,h⟩:=h
  obtain ⟨⟨l,n,t2,xs⟩,l1,l2,rfl,h1,h2⟩:=M.runs_bind h
  cases t2 <;> try exact h2.elim
  rename_i e te
  simp only at h2
  split at h2
  ·rename_i hte
   obtain ⟨rfl,hte,hn⟩:=hte
   obtain ⟨y0,hy0,h2⟩:=h2
   obtain ⟨hi,hi0,rfl⟩:=getI_some hy0
   obtain ⟨rfl,_⟩:=h2
   obtain ⟨cs,hf,hown,_⟩:=view_own hI hs h1
   obtain ⟨m,rfl⟩:∃ m,n=m+1:=⟨n - 1,by omega⟩
   simp only [Own] at hown
   rcases hown with ⟨_,rfl⟩ | ⟨g,cap,cur,rfl,hL,_⟩
   ·simp at hi
   ·have hc:a.tmps.getD t undef=_:=((List.cons.inj hf).1).symm
    refine PureRes.ptr hI (g:=g) ?_ ?_ hvs
    ·rw [key hc hte hi0 hi,node_append]
     simp [node]
    ·rw [node_append]
     exact hL
  ·exact h2.elim
 | dead=>exact h.elim
 | tup _=>exact h.elim
 | rp _ _ _=>exact h.elim
 | ptr r p t' =>
  simp only [indexAddrV] at h
  split at h
  ·rename_i ta hta
   obtain ⟨j,off,t1,rfl,hc,rfl⟩:=arrIdx_runs 8 0 h
   obtain ⟨g,h1,h2⟩:=hs
   refine PureRes.ptr hI (g:=g) ?_ ?_ hvs
   ·have h1':a.eval (.tmp t)=_:=h1
    rw [node_fld]
    simp [execOp,ho,h1',hy,run_indexArr hC hta hc]
   ·rw [node_fld]; exact h2
  ·exact h.elim
 | box l n t' x =>
  simp only [indexAddrV] at h
  split at h
  ·rename_i ta hta
   obtain ⟨j,off,t1,rfl,hc,rfl⟩:=arrIdx_runs 8 0 h
   obtain ⟨_,g,cur,e,h1,h2,_⟩:=hs
   refine PureRes.ptr hI (g:=g) ?_ ?_ hvs
   ·have h1':a.eval (.tmp t)=_:=h1
    rw [List.nil_append,show [St.fld (j+1) off]=[]++[St.fld (j+1) off] from rfl,node_fld]
    simp [execOp,ho,h1',hy,run_indexArr hC hta hc,node]
   ·exact h2
  ·exact h.elim
 | hole _ _=>exact h.elim
 | part _ _ _ _ _=>exact h.elim
 | odd _ _ _ _=>exact h.elim
 | same _ _=>exact h.elim
end
end Go.Proofs.YtkanidldnnfloaaGreat.P.Am
set_option linter.unusedVariables false
set_option linter.unusedSimpArgs false
namespace Go.Proofs.YtkanidldnnfloaaGreat.P.Am
def sliceV (C:Ctx) (X:TypeId) (t:Nat) (lo:Int) (hi:Option Int) (v:V):M V :=
 match v with
 | .d _ _ .str s=>if C.ty X=some .str then .chk (decide (0≤lo) && decide (lo≤hi.getD s.size) && decide (hi.getD s.size≤s.size)) (.ret (.d none 0 .str (s.extract lo.toNat (hi.getD s.size).toNat))) else .fail
 | v=>(readD t v).bind fun z=>match z with
  | (l,⟨.slice e te,xs⟩)=>if sliceOf C X=some te then
    .chk (decide (0≤lo) && decide (lo≤hi.getD (xs.length:Int)) && decide (hi.getD (xs.length:Int)≤(xs.length:Int)))
     (.ret (.d l 0 (.slice e te) ((xs.take (hi.getD (xs.length:Int)).toNat).drop lo.toNat)))
   else .fail
  | _ => .fail
def makeV (C:Ctx) (X:TypeId) (n c:Int):M V :=
 match C.ty X with
 | some (.slice e te) => .chk (decide (0≤n) && decide (n≤c) && decide (c*C.bytes e≤140737488355328) && decide (c≤9223372036854775807)) (.ret (.d none (te.depth+1) (.slice e te) (List.replicate n.toNat te.zero)))
 | _ => .fail
def allocV (C:Ctx) (X:TypeId):M V :=
 match C.ty X with
 | some t => .ret (.box none t.depth t t.zero)
 | none => .fail
section
variable {P:Program} {C:Ctx} {w w' w0:World} {S S':Nat→Prop} {L L' L0:Nat→Lab} {s N:Nat} {vs:List Nat} {T T':List V} {tm tm':Array Value} {a:Act}
theorem readD_rd [Glob] (hI:Inv w0 L0 N vs T a w L) {t:Nat} {l:Option Nat} {t':Ty} {x:t'.den} {v:V} {c:Value} {log:List Nat}
  (h:(readD t v).Runs T (l,⟨t',x⟩) log) (hs:SRep L T a.tmps t v w c) (hv:v.owns=true→v=T.getD t .dead) :
  ∃ cs,Form t' cs c∧Rd w (SL L l) t' x cs∧∀ r,l=some r→(T.getD r .dead).deep=true:=by
 cases v with
 | d l0 n0 t0 x0 =>
  simp only [readD] at h
  obtain ⟨h0,cs,hf,hown⟩:=hs
  split at h
  ·rename_i hn
   obtain ⟨h,_⟩:=h
   cases h
   exact ⟨cs,hf,Own.rd0 (Own.at0 (s':=0) (q':=[]) (o':=0) (n':=0) hn hown (.inl rfl)),h0⟩
  ·rename_i hn
   have hn':=not_or.1 hn
   split at h
   ·obtain ⟨h,_⟩:=h
    cases h
    refine ⟨cs,hf,Own.rd (fun k q hk => .inr ⟨t,q,rfl,hk⟩) (fun k hk => ?_) hown,fun r hr => ?_⟩
    ·rcases hk with hk | ⟨_,_,hk,_⟩
     ·exact .inl hk
     ·cases hk
    ·cases hr
     rw [← hv (by simp [V.owns,hn'])]
     simp [V.deep,hn']
   ·exact h.elim
 | view r p t2 =>
  obtain ⟨log',rfl,h⟩:=h
  obtain ⟨⟨l0,n0,t0,x0⟩,l1,l2,rfl,h1,h2⟩:=M.runs_bind h
  simp only at h2
  split at h2
  ·split at h2
   ·rename_i ht
    subst ht
    obtain ⟨h2,_⟩:=h2
    cases h2
    obtain ⟨cs,hf,hown,_,hdp⟩:=view_own hI hs h1
    refine ⟨cs,hf,Own.rd (fun k q hk => .inr ⟨r,q,rfl,hk⟩) (fun k hk => ?_) hown,fun r' hr => ?_⟩
    ·rcases hk with hk | ⟨_,_,hk,_⟩
     ·exact .inl hk
     ·cases hk
    ·cases hr; exact hdp
   ·exact h2.elim
  ·exact h2.elim
 | dead=>exact h.elim
 | tup _=>exact h.elim
 | rp _ _ _=>exact h.elim
 | ptr _ _ _=>exact h.elim
 | box _ _ _ _=>exact h.elim
 | hole _ _=>exact h.elim
 | part _ _ _ _ _=>exact h.elim
 | odd _ _ _ _=>exact h.elim
 | same _ _=>exact h.elim
theorem pure_len [Glob] (hI:Inv w0 L0 N vs T a w L) (hC:CtxOk P C) {o:Oper} {X:TypeId} {t d:Nat} {tx:Ty} {v:V} {log:List Nat} (ho:o.op = .call { callee := .builtin .len,args := #[.tmp t],argTypes := #[X] })
  (hX:C.ty X=some tx) (h:(M.get t (lenV tx t)).Runs T v log):PureRes P o vs T a w L d v:=by
 obtain ⟨log',rfl,h⟩:=h
 have hs:=hI.slots t
 have key:∀ c,(Builtin.len_ #[X] o.type #[a.eval (.tmp t)]).run P w = .ok c w→(execOp a.eval o).run P w = .ok (.value c) w:=by
  intro c hc
  simp [execOp,ho,resolve,invoke,builtin,hc]
 unfold lenV at h
 split at h
 ·obtain ⟨⟨l,t2,x2⟩,l1,l2,rfl,h1,h2⟩:=M.runs_bind h
  cases t2 <;> try exact h2.elim
  obtain ⟨rfl,_⟩:=h2
  obtain ⟨cs,hf,hr,_⟩:=readD_rd hI h1 hs (fun _=>rfl)
  simp only [Rd] at hr
  obtain ⟨A,c,rfl,_⟩:=hr
  have hc:a.eval (.tmp t)=_:=((List.cons.inj hf).1).symm
  refine PureRes.still hI (key _ ?_) (fun _=>rfl) SRep.mkInt
  rw [hc]
  have hu:=(hC X _ hX).und
  simp [Builtin.len_,run_underlying hu.1,goInt]
 ·split at h
  ·rename_i l n sx hv
   obtain ⟨rfl,_⟩:=h
   rw [hv] at hs
   have hc:a.eval (.tmp t)=_:=hs.str
   refine PureRes.still hI (key _ ?_) (fun _=>rfl) SRep.mkInt
   rw [hc]
   have hu:=(hC X _ hX).und
   simp [Builtin.len_,run_underlying hu,goInt]
  ·exact h.elim
 ·exact h.elim
theorem Grows.alloc [Glob] (hI:Inv w0 L0 N vs T a w L) (d:Nat) (q:List Nat) (ob:Obj):Grows w (w.alloc ob) L (fun k=>if k=w.heap.size then .own d q else L k) d:=by
 refine ⟨rfl,rfl,rfl,by simp,Nat.le_refl _,fun k hk => ?_,fun k s q' hk h => ?_,fun k k' q' hk hk' h h' => ?_,fun k hk => ?_⟩
 ·rw [if_neg (by omega)]
  exact ⟨rfl,Go.RowKit.Below.heap_alloc w ob k hk⟩
 ·split at h
  ·injection h with h _; exact h.symm
  ·rw [hI.free k hk] at h; cases h
 ·split at h
  ·split at h'
   ·omega
   ·rw [hI.free k' hk'] at h'; cases h'
  ·rw [hI.free k hk] at h; cases h
 ·simp at hk
  rw [if_neg (by omega)]
  exact hI.free k (by omega)
theorem Form.cells {t:Ty} {cs:List Value} {c:Value} (h:Form t cs c) (h1:∀ v∈cs,v.oneCell'=true):c.cells.toList=cs:=by
 have key:cs=[c]→c.cells.toList=cs:=fun h=>by
  subst h
  have:=h1 c (by simp)
  cases c <;> simp_all [Value.cells,Value.oneCell']
 cases t <;> first | exact key h | (simp only [Form] at h; subst h; rfl)
theorem heap_new (w:World) (ob:Obj):(w.alloc ob).heap[w.heap.size]? = some ob:=by
 show (w.heap.push ob)[w.heap.size]? = _
 simp
theorem pure_alloc [Glob] (hI:Inv w0 L0 N vs T a w L) (hC:CtxOk P C) {o:Oper} {X:TypeId} {d:Nat} {v:V} {log:List Nat} (ho:o.op = .alloc X)
  (h:(allocV C X).Runs T v log):PureRes P o vs T a w L d v:=by
 unfold allocV at h
 split at h
 ·rename_i t hX
  obtain ⟨rfl,_⟩:=h
  obtain ⟨i,z,h1,h2,h3,h4,h5⟩:=(hC X t hX).info
  have hone:∀ v∈t.zcells,v.oneCell'=true:=Own.one (Own.zero (w:=w) (L:=L) (S:=fun _=>True) (s:=0) (n:=0) (t:=t) (q:=[]) (o:=0))
  have hcz:=Form.cells h5 hone
  refine ⟨.pointer (some ⟨w.heap.size,0,none⟩),w.alloc (.cells z.cells X),_,?_,Grows.alloc hI d [] _,fun _ _ _ _=>rfl,fun r hr=>(by simp [V.on,V.root] at hr),?_⟩
  ·simp [execOp,ho,Instr.alloc,zeroValue,Go.run_typeInfo w h1,h4,newVar,newRow,newObj,Sem.run]
  ·refine ⟨by simp,w.heap.size,z.cells,X,rfl,by simp,heap_new _ _,?_,?_⟩
   ·rw [← Array.length_toList,hcz,Ty.zcells_len]
   ·rw [hcz]; exact Own.zero
 ·exact h.elim
theorem madeZero (cz:Array Value) (n:Nat):∀ j,j < n→(((Array.range (n*cz.size)).map (cz[· % cz.size]!)).toList.drop (j*cz.size)).take cz.size=cz.toList:=by
 intro j hj
 apply List.ext_getElem?
 intro i
 rw [List.getElem?_take,List.getElem?_drop]
 have hb:j*cz.size+cz.size≤n*cz.size:=by
  calc j*cz.size+cz.size=(j+1)*cz.size:=by rw [Nat.add_mul,Nat.one_mul]
   _≤n*cz.size:=Nat.mul_le_mul_right _ hj
 split
 ·rename_i hi
  have h2:(j*cz.size+i) % cz.size=i:=by rw [Nat.add_comm,Nat.add_mul_mod_self_right,Nat.mod_eq_of_lt hi]
  simp only [Array.toList_map,Array.toList_range,List.getElem?_map,List.getElem?_range (show j*cz.size+i < n*cz.size by omega),Option.map_some,h2,Array.getElem?_toList]
  rw [Array.getElem?_eq_getElem hi]
  simp [hi]
 ·rename_i hi
  rw [List.getElem?_eq_none (by simpa using hi)]
theorem pure_make [Glob] (hI:Inv w0 L0 N vs T a w L) (hC:CtxOk P C) {o:Oper} {X:TypeId} {x y:Operand} {n c:Int} {k1 k2:IntKind} {d:Nat} {v:V} {log:List Nat} (ho:o.op = .makeSlice X x y)
  (hx:a.eval x = .int k1 n) (hy:a.eval y = .int k2 c) (h:(makeV C X n c).Runs T v log):PureRes P o vs T a w L d v:=by
 unfold makeV at h
 split at h
 ·rename_i e te hX
  obtain ⟨hc,rfl,_⟩:=h
  simp only [Bool.and_eq_true,decide_eq_true_eq] at hc
  obtain ⟨⟨⟨hn0,hnc⟩,hb⟩,hm⟩:=hc
  obtain ⟨hu,he⟩:=(hC X _ hX).und
  obtain ⟨i,z,h1,h2,h3,h4,h5⟩:=(hC e te he).info
  have hone:∀ v∈te.zcells,v.oneCell'=true:=Own.one (Own.zero (w:=w) (L:=L) (S:=fun _=>True) (s:=0) (n:=0) (t:=te) (q:=[]) (o:=0))
  have hcz:=Form.cells h5 hone
  have hsz:z.cells.size=te.sz:=by rw [← Array.length_toList,hcz,Ty.zcells_len]
  have wn:IntKind.i64.wrap n=n:=IntWalk.i64_in _ (by omega)
  have wc:IntKind.i64.wrap c=c:=IntWalk.i64_in _ (by omega)
  let cur:Array Value:=(Array.range (c.toNat*te.sz)).map (z.cells[· % z.cells.size]!)
  refine ⟨.slice (some ⟨w.heap.size,0,none⟩) n.toNat c.toNat,w.alloc (.cells cur e),_,?_,Grows.alloc hI d [0] _,fun _ _ _ _=>(by simp [V.owns,Ty.depth]),fun r hr=>(by simp [V.on,V.root] at hr),?_⟩
  ·have hroom:¬ (c.toNat*i.bytes > roomBytes):=by
    rw [h3]
    unfold roomBytes
    have:((c.toNat*C.bytes e:Nat):Int)≤140737488355328:=by
     rw [Int.natCast_mul,Int.toNat_of_nonneg (by omega)]
     exact hb
    omega
   have hlarge:¬ (c < 0∨(i.bytes:Int)*c > 2 ^ 48):=by
    rw [h3,Int.mul_comm]
    omega
   have hcond:¬ ((decide (c < 0) || decide ((i.bytes:Int)*c > 2 ^ 48))=true∨n < 0∨n > c):=by
    simp only [Bool.or_eq_true,decide_eq_true_eq]
    omega
   by_cases hz:c.toNat*te.sz=0
   ·have hcur:cur = #[]:=by
     show (Array.range (c.toNat*te.sz)).map (z.cells[· % z.cells.size]!) = #[]
     rw [hz]; simp
    rw [hcur]
    simp only [execOp,ho,Instr.makeSlice,hx,hy,asInt,asIntOf,Sem.run_bind,run_underlying hu,Result.andThen_ok,Sem.run_pure,Go.run_typeInfo w h1,wn,wc,Sem.run_ite]
    rw [if_neg (by simp only [Bool.or_eq_true,decide_eq_true_eq] at hcond ⊢; omega)]
    simp [askRoom,hroom,(hC e te he).run_sizeOf,hz,newRow,newObj,Sem.run,Array.range_zero']
   ·simp only [execOp,ho,Instr.makeSlice,hx,hy,asInt,asIntOf,Sem.run_bind,run_underlying hu,Result.andThen_ok,Sem.run_pure,Go.run_typeInfo w h1,wn,wc,Sem.run_ite]
    rw [if_neg (by simp only [Bool.or_eq_true,decide_eq_true_eq] at hcond ⊢; omega)]
    simp [askRoom,hroom,(hC e te he).run_sizeOf,hz,newRow,newObj,Sem.run,zeroValue,Go.run_typeInfo w h1,h4,cur]
  ·refine ⟨by simp,_,rfl,?_⟩
   simp only [Own]
   refine .inr ⟨w.heap.size,c.toNat,cur,by simp,by simp,heap_new _ _,by simp; omega,by unfold maxLen; omega,by simp [cur],fun j hj => ?_⟩
   simp only [List.length_replicate] at hj
   have hcell:((cur.toList.drop (j*te.sz)).take te.sz)=te.zcells:=by
    have:=madeZero z.cells c.toNat j (by omega)
    rw [hsz] at this
    rw [← hcz]
    show (((Array.range (c.toNat*te.sz)).map (z.cells[· % z.cells.size]!)).toList.drop (j*te.sz)).take te.sz=_
    rw [hsz]
    exact this
   rw [hcell,List.getElem_replicate]
   exact Own.zero
 ·exact h.elim
end
end Go.Proofs.YtkanidldnnfloaaGreat.P.Am
set_option linter.unusedVariables false
set_option linter.unusedSimpArgs false
namespace Go.Proofs.YtkanidldnnfloaaGreat.P.Am
def Ty.height:Ty→Nat
 | .pair a b=>max a.height b.height
 | .agg t=>t.height+1
 | .slice _ t=>t.height+1
 | _=>0
def eqD:(t:Ty)→t.den→t.den→Option Bool
 | .int _,x,y=>some (x == y)
 | .bool,x,y=>some (x == y)
 | .str,x,y=>some (x.toList == y.toList)
 | .agg t,x,y=>eqD t x y
 | .pair a b,x,y=>match eqD a x.1 y.1,eqD b x.2 y.2 with
  | some p,some q=>some (p && q)
  | _,_=>none
 | _,_,_=>none
section
variable {P:Program} {C:Ctx} {w w' w0:World} {S S':Nat→Prop} {L L' L0:Nat→Lab} {s N:Nat} {vs:List Nat} {T T':List V} {tm tm':Array Value} {a:Act}
def FT (C:Ctx):Nat→Ty→List Field→Prop
 | off, .pair a b, fl => ∃ f fl', fl = f :: fl' ∧ f.offset = off ∧ C.ty f.type = some a ∧ f.name ≠ "_" ∧ FT C (off + a.sz) b fl'
 | off, t, fl => ∃ f, fl = [f] ∧ f.offset = off ∧ C.ty f.type = some t ∧ f.name ≠ "_"
theorem FT.of : {t : Ty} → {off : Nat} → {fl : List Field} → (∀ (j : Nat) (f : Field), fl[j]? = some f → ∃ o1 t1, compT j t = some (o1, t1) ∧ f.offset = off + o1 ∧ C.ty f.type = some t1 ∧ f.name ≠ "_") →
  (∀ j r,compT j t=some r→j < fl.length)→FT C off t fl
 | .pair a b,off,fl,h1,h2=>by
  have:=h2 0 _ rfl
  match fl,this with
  | f::fl',_ =>
   obtain ⟨o1,t1,h3,h4,h5,h6⟩:=h1 0 f rfl
   simp only [compT,Option.some.injEq,Prod.mk.injEq] at h3
   obtain ⟨rfl,rfl⟩:=h3
   refine ⟨f,fl',rfl,by simpa using h4,h5,h6,FT.of (fun j g hg => ?_) (fun j r hr => ?_)⟩
   ·obtain ⟨o1,t1,h3,h4,h5⟩:=h1 (j+1) g hg
    simp only [compT,Option.map_eq_some_iff] at h3
    obtain ⟨⟨o2,t2⟩,h3,he⟩:=h3
    simp only [Prod.mk.injEq] at he
    obtain ⟨rfl,rfl⟩:=he
    exact ⟨o2,t2,h3,by omega,h5⟩
   ·have:=h2 (j+1) (a.sz+r.1,r.2) (by simp [compT,hr])
    simp at this
    omega
 | .int _,off,fl,h1,h2 | .bool,off,fl,h1,h2 | .str,off,fl,h1,h2 | .raw _,off,fl,h1,h2 | .unit,off,fl,h1,h2 | .agg _,off,fl,h1,h2 | .slice _ _,off,fl,h1,h2=>by
  have:=h2 0 _ rfl
  match fl,this with
  | f::fl',_ =>
   obtain ⟨o1,t1,h3,h4,h5,h6⟩:=h1 0 f rfl
   simp only [compT,Option.some.injEq,Prod.mk.injEq] at h3
   obtain ⟨rfl,rfl⟩:=h3
   match fl' with
   | []=>exact ⟨f,rfl,by simpa using h4,h5,h6⟩
   | g::_ =>
    obtain ⟨_,_,h3,_⟩:=h1 1 g rfl
    simp [compT] at h3
theorem run_part [Glob] (hC:CtxOk P C) {X:TypeId} {t:Ty} {x:t.den} {xs:Array Value} {off:Nat} (hX:C.ty X=some t) (hb:off+t.sz≤xs.size)
  (h:Rd w S t x ((xs.toList.drop off).take t.sz)):∃ c,(part X xs off).run P w = .ok c w∧Form t ((xs.toList.drop off).take t.sz) c:=by
 have hty:=hC X t hX
 cases ha:t.isAgg with
 | true =>
  refine ⟨.agg (xs.extract off (off+t.sz)),?_,?_⟩
  ·unfold part
   simp [hty.run_isAgg,ha,hty.run_sizeOf]
  ·cases t <;> simp [Ty.isAgg] at ha
   simp only [Form,Ty.sz]
   congr 1
   apply Array.ext'
   simp [List.take_drop]
 | false =>
  have hsz:=hty.sz1 ha
  obtain ⟨c,hc,hf⟩:=Form.of_one hsz ha (Rd.len h)
  refine ⟨c,?_,by rw [hc] at hf ⊢; exact hf⟩
  unfold part
  have:xs[off]? = some c:=by
   have h0:((xs.toList.drop off).take t.sz)[0]? = some c:=by rw [hc]; rfl
   rw [List.getElem?_take,if_pos (by omega),List.getElem?_drop] at h0
   simpa using h0
  simp [hty.run_isAgg,ha,this]
theorem Form.agg {t:Ty} {cs:List Value} {c:Value} (h:Form (.agg t) cs c):c = .agg cs.toArray:=h
theorem eq_run [Glob] (hC:CtxOk P C):(t:Ty) →
  (∀ (X:TypeId) (d:Nat) (x y:t.den) (cs1 cs2:List Value) (c1 c2:Value) (b:Bool) (S:Nat→Prop) (S2:Nat→Prop),C.ty X=some t→t.height < d→Form t cs1 c1→Form t cs2 c2→Rd w S t x cs1→Rd w S2 t y cs2→eqD t x y=some b →
   (Op.equalIn d X c1 c2).run P w = .ok b w) ∧
  (∀ (off:Nat) (fl:List Field) (d:Nat) (x y:t.den) (xs ys:Array Value) (b:Bool) (S:Nat→Prop) (S2:Nat→Prop),FT C off t fl→t.height < d→off+t.sz≤xs.size→off+t.sz≤ys.size →
   Rd w S t x ((xs.toList.drop off).take t.sz)→Rd w S2 t y ((ys.toList.drop off).take t.sz)→eqD t x y=some b→(Op.eqFields d xs ys fl).run P w = .ok b w):=by
 have hsingle:∀ t:Ty,(∀ a b,t ≠ .pair a b)→(∀ (X:TypeId) (d:Nat) (x y:t.den) (cs1 cs2:List Value) (c1 c2:Value) (b:Bool) (S:Nat→Prop) (S2:Nat→Prop),C.ty X=some t→t.height < d→Form t cs1 c1→Form t cs2 c2→Rd w S t x cs1→Rd w S2 t y cs2→eqD t x y=some b →
   (Op.equalIn d X c1 c2).run P w = .ok b w) →
  (∀ (off:Nat) (fl:List Field) (d:Nat) (x y:t.den) (xs ys:Array Value) (b:Bool) (S:Nat→Prop) (S2:Nat→Prop),FT C off t fl→t.height < d→off+t.sz≤xs.size→off+t.sz≤ys.size →
   Rd w S t x ((xs.toList.drop off).take t.sz)→Rd w S2 t y ((ys.toList.drop off).take t.sz)→eqD t x y=some b→(Op.eqFields d xs ys fl).run P w = .ok b w):=by
  intro t ht ih off fl d x y xs ys b S S2 hf hd hb1 hb2 h1 h2 he
  have hf' : ∃ f, fl = [f] ∧ f.offset = off ∧ C.ty f.type = some t ∧ f.name ≠ "_" := by
   cases t <;> first | exact hf | exact absurd rfl (ht _ _)
  obtain ⟨f,rfl,rfl,hX,hname⟩:=hf'
  obtain ⟨c1,p1,f1⟩:=run_part (w:=w) hC hX hb1 h1
  obtain ⟨c2,p2,f2⟩:=run_part (w:=w) hC hX hb2 h2
  have:=ih f.type d x y _ _ c1 c2 b S S2 hX hd f1 f2 h1 h2 he
  simp only [Op.eqFields,if_pos hname,Sem.run_bind,p1,p2,Result.andThen_ok,this,Sem.run_ite,Sem.run_pure]
  cases b <;> simp
 intro t
 induction t with
 | int k =>
  refine (fun h=>⟨h,hsingle _ (by simp) h⟩) ?_
  intro X d x y cs1 cs2 c1 c2 b S S2 hX hd f1 f2 h1 h2 he
  obtain ⟨d,rfl⟩:∃ m,d=m+1:=⟨d - 1,by omega⟩
  simp only [Rd] at h1 h2
  subst h1 h2
  obtain rfl:=(List.cons.inj f1).1
  obtain rfl:=(List.cons.inj f2).1
  simp only [eqD,Option.some.injEq] at he
  subst he
  exact run_equalIn_int w d X k k _ _ (hC X _ hX).und
 | bool =>
  refine (fun h=>⟨h,hsingle _ (by simp) h⟩) ?_
  intro X d x y cs1 cs2 c1 c2 b S S2 hX hd f1 f2 h1 h2 he
  obtain ⟨d,rfl⟩:∃ m,d=m+1:=⟨d - 1,by omega⟩
  simp only [Rd] at h1 h2
  subst h1 h2
  obtain rfl:=(List.cons.inj f1).1
  obtain rfl:=(List.cons.inj f2).1
  simp only [eqD,Option.some.injEq] at he
  subst he
  exact run_equalIn_bool' w d X _ _ (hC X _ hX).und
 | str =>
  refine (fun h=>⟨h,hsingle _ (by simp) h⟩) ?_
  intro X d x y cs1 cs2 c1 c2 b S S2 hX hd f1 f2 h1 h2 he
  obtain ⟨d,rfl⟩:∃ m,d=m+1:=⟨d - 1,by omega⟩
  simp only [Rd] at h1 h2
  subst h1 h2
  obtain rfl:=(List.cons.inj f1).1
  obtain rfl:=(List.cons.inj f2).1
  simp only [eqD,Option.some.injEq] at he
  subst he
  exact run_equalIn_string w d X _ _ (hC X _ hX).und
 | raw z=>exact (fun h=>⟨h,hsingle _ (by simp) h⟩) (by intro _ _ _ _ _ _ _ _ _ _ _ _ _ _ _ _ _ he; simp [eqD] at he)
 | unit=>exact (fun h=>⟨h,hsingle _ (by simp) h⟩) (by intro _ _ _ _ _ _ _ _ _ _ _ _ _ _ _ _ _ he; simp [eqD] at he)
 | slice e t=>exact (fun h=>⟨h,hsingle _ (by simp) h⟩) (by intro _ _ _ _ _ _ _ _ _ _ _ _ _ _ _ _ _ he; simp [eqD] at he)
 | agg t ih =>
  refine (fun h=>⟨h,hsingle _ (by simp) h⟩) ?_
  intro X d x y cs1 cs2 c1 c2 b S S2 hX hd f1 f2 h1 h2 he
  obtain ⟨d,rfl⟩:∃ m,d=m+1:=⟨d - 1,by omega⟩
  obtain rfl:=f1.agg
  obtain rfl:=f2.agg
  have hia:t.isArr=false:=by
   cases hia:t.isArr with
   | false=>rfl
   | true =>
    unfold Ty.isArr at hia
    split at hia
    ·simp [eqD] at he
    ·cases hia
  obtain ⟨⟨fs,hu,hfo⟩,hst,_⟩:=(hC X _ hX).str hia
  have hfs:P.fieldsOf X=fs:=by simp [Program.fieldsOf,hu]
  rw [run_equalIn_struct w d X _ _ (by rw [hfs]; exact hu) hst,hfs]
  simp only [Ty.height] at hd
  simp only [Rd] at h1 h2
  refine ih.2 0 fs.toList d x y _ _ b S S2 ?_ (by omega) (by simp [Rd.len h1]) (by simp [Rd.len h2]) ?_ ?_ he
  ·refine FT.of (fun j f hj => ?_) (fun j r hr=>by simpa using hfo.2 j r hr)
   obtain ⟨t1,h3,h4,_,h5⟩:=hfo.1 j f (by simpa using hj)
   exact ⟨f.offset,t1,h3,by omega,h4,h5⟩
  ·simpa [List.take_of_length_le (Nat.le_of_eq (Rd.len h1))] using h1
  ·simpa [List.take_of_length_le (Nat.le_of_eq (Rd.len h2))] using h2
 | pair a b iha ihb =>
  refine ⟨fun X d x y cs1 cs2 c1 c2 b S S2 hX=>((hC X _ hX).und).elim,?_⟩
  intro off fl d x y xs ys r S S2 hf hd hb1 hb2 h1 h2 he
  simp only [FT] at hf
  obtain ⟨f,fl',rfl,rfl,hX,hname,hf⟩:=hf
  simp only [Ty.height] at hd
  simp only [Ty.sz] at hb1 hb2 h1 h2
  simp only [Rd] at h1 h2
  obtain ⟨c0,c1,e1,h10,h11⟩:=h1
  obtain ⟨d0,d1,e2,h20,h21⟩:=h2
  have split_take:∀ {zs:Array Value} {u0 u1:List Value},(zs.toList.drop f.offset).take (a.sz+b.sz)=u0++u1→u0.length=a.sz→u1.length=b.sz →
    (zs.toList.drop f.offset).take a.sz=u0∧(zs.toList.drop (f.offset+a.sz)).take b.sz=u1:=by
   intro zs u0 u1 he hl0 hl1
   constructor
   ·have:=congrArg (List.take a.sz) he
    rw [List.take_take,Nat.min_eq_left (by omega),List.take_left' hl0] at this
    exact this
   ·have:=congrArg (List.drop a.sz) he
    rw [List.drop_take,List.drop_drop,List.drop_left' hl0] at this
    rw [← this]
    congr 1
    omega
  obtain ⟨s1,s2⟩:=split_take e1 (Rd.len h10) (Rd.len h11)
  obtain ⟨t1,t2⟩:=split_take e2 (Rd.len h20) (Rd.len h21)
  rw [← s1] at h10
  rw [← s2] at h11
  rw [← t1] at h20
  rw [← t2] at h21
  obtain ⟨p1,q1,f1⟩:=run_part (w:=w) hC hX (by omega) h10
  obtain ⟨p2,q2,f2⟩:=run_part (w:=w) hC hX (by omega) h20
  simp only [eqD] at he
  split at he
  ·rename_i u v hu hv
   simp only [Option.some.injEq] at he
   subst he
   have k1:=iha.1 f.type d x.1 y.1 _ _ p1 p2 u S S2 hX (by omega) f1 f2 h10 h20 hu
   have k2:=ihb.2 (f.offset+a.sz) fl' d x.2 y.2 xs ys v S S2 hf (by omega) (by omega) (by omega) h11 h21 hv
   simp only [Op.eqFields,if_pos hname,Sem.run_bind,q1,q2,Result.andThen_ok,k1,Sem.run_ite,Sem.run_pure,k2]
   cases u <;> simp
  ·cases he
end
end Go.Proofs.YtkanidldnnfloaaGreat.P.Am
set_option linter.unusedVariables false
set_option linter.unusedSimpArgs false
namespace Go.Proofs.YtkanidldnnfloaaGreat.P.Am
def boolV (op:BinOp) (b:Bool):M V :=
 match op with
 | .eql => .ret (.d none 0 .bool b)
 | .neq => .ret (.d none 0 .bool (!b))
 | _ => .fail
def binV (C:Ctx) (op:BinOp) (X:TypeId):V→V→M V
 | .d l n (.int k) x,.d l' n' (.int k') y=>if isShift op=true then shV op k x y else if k=k' then intV op k x y else .fail
 | .d l n .str x,.d l' n' .str y=>strV op x y
 | .d none n t x,.d none n' t' y=>if h:t'=t then if C.ty X=some t∧t.height < 10000∧t.depth=0 then match eqD t x (h▸y) with
   | some b=>boolV op b
   | none => .fail
  else .fail else .fail
 | _,_ => .fail
def optInt (C:Ctx):Option Operand→M (Option Int)
 | none => .ret none
 | some x=>(opnd C 0 x).bind fun v=>match v with
  | .d _ _ (.int _) i => .ret (some i)
  | _ => .fail
def convV (C:Ctx) (src dst:TypeId) (v:V):M V :=
 match C.ty src,C.ty dst,v with
 | some (.int _),some (.int k),.d _ _ (.int _) n => .ret (.d none 0 (.int k) (k.wrap n))
 | some .str,some .str,.d _ _ .str s => .ret (.d none 0 .str s)
 | _,_,_ => .fail
def okOn (vs:List Nat):V→Bool
 | .d (some r) _ _ _=>vs.contains r
 | .box (some r) _ _ _=>vs.contains r
 | .rp (some r) _ _=>vs.contains r
 | .ptr r _ _=>vs.contains r
 | .view r _ _=>vs.contains r
 | .hole _ _=>false
 | .part _ _ _ _ _=>false
 | .same r _=>vs.contains r
 | _=>true
def strOf (xs:List Int):ByteArray:=xs.foldl (fun r n=>r.push (UInt8.ofNat n.toNat)) ByteArray.empty
def pureM (C:Ctx) (o:Oper):M V :=
 match o.op with
 | .move x=>moveM C o.type x
 | .pick c x y=>(opnd C o.type c).bind fun v=>match v with
  | .d _ _ .bool b=>match b with
   | true=>moveM C o.type x
   | false=>moveM C o.type y
  | _ => .fail
 | .alloc X=>allocV C X
 | .load X (.tmp t) => .get t (loadV C X t)
 | .nilCheck (.tmp t) => .get t (nilCheckV t)
 | .fieldAddr X (.tmp t) f => .get t (fieldAddrV C X f t)
 | .indexAddr X (.tmp t) y=>(opnd C 0 y).bind fun v=>match v with
  | .d _ _ (.int _) i => .get t (indexAddrV C X t i)
  | _ => .fail
 | .index X x y=>(opnd C X x).bind fun u=>(opnd C 0 y).bind fun v=>match u,v with
  | .d _ _ .str s,.d _ _ (.int _) i=>if C.ty X=some .str then .bnd (.int .u8) (getB s i) fun b => .ret (.d none 0 (.int .u8) b) else .fail
  | .d _ _ (.agg (.pair .unit t)) z,.d _ _ (.int _) i=>if arrOf C X=some (.pair .unit t)∧(elemT t).depth=0 then .bnd (elemT t) (getI (elemsL (elemT t) t z.2) i) fun y => .ret (.d none 0 (elemT t) y) else .fail
  | _,_ => .fail
 | .binOp op X x y _=>(opnd C X x).bind fun u=>(opnd C X y).bind fun v=>binV C op X u v
 | .unOp op X x=>(opnd C X x).bind fun u=>unV op u
 | .convert src dst x=>match C.ty src,C.ty dst,x with
  | some (.slice _ (.int .u8)),some .str,.tmp t => .get t fun v=>(readD t v).bind fun z=>match z.2 with
   | ⟨.slice _ (.int .u8),xs⟩ => .ret (.d none 0 .str (strOf xs))
   | _ => .fail
  | _,_,x=>(opnd C src x).bind fun u=>convV C src dst u
 | .makeSlice X x y=>(opnd C 0 x).bind fun u=>(opnd C 0 y).bind fun v=>match u,v with
  | .d _ _ (.int _) n,.d _ _ (.int _) c=>makeV C X n c
  | _,_ => .fail
 | .slice X (.tmp t) lo hi none=>(optInt C lo).bind fun l=>(optInt C hi).bind fun h => .get t fun v=>sliceV C X t (l.getD 0) h v
 | .slice X (.const (.string sx)) lo hi none=>(optInt C lo).bind fun l=>(optInt C hi).bind fun h=>sliceV C X 0 (l.getD 0) h (.d none 0 .str sx)
 | .call c=>match c.callee,c.args.toList,c.argTypes.toList with
  | .builtin .len,[.tmp t],[X]=>match C.ty X with
   | some tx => .get t (lenV tx t)
   | none => .fail
  | _,_,_ => .fail
 | _ => .fail
section
variable {P:Program} {C:Ctx} {w w' w0:World} {S S':Nat→Prop} {L L' L0:Nat→Lab} {s N:Nat} {vs:List Nat} {T T':List V} {tm tm':Array Value} {a:Act}
theorem okOn_mem {v:V} (h:okOn vs v=true):∀ r,v.on r=true→r∈vs:=by
 intro r hr
 cases v with
 | d l n t x=>cases l <;> simp_all [V.on,V.root,okOn]
 | box l n t x=>cases l <;> simp_all [V.on,V.root,okOn]
 | rp l t x=>cases l <;> simp_all [V.on,V.root,okOn]
 | ptr r p t=>simp_all [V.on,V.root,okOn]
 | view r p t=>simp_all [V.on,V.root,okOn]
 | hole v p=>simp [okOn] at h
 | part _ _ _ _ _=>simp [okOn] at h
 | same r t=>simp_all [V.on,V.root,okOn]
 | odd _ _ _ _=>simp [V.on,V.root] at hr
 | dead=>simp [V.on,V.root] at hr
 | tup _=>simp [V.on,V.root] at hr
theorem M.runs_get {α:Type} {T:List V} {t:Nat} {k:V→M α} {b:α} {log:List Nat} (h:(M.get t k).Runs T b log):∃ log',(k (T.getD t .dead)).Runs T b log':=by
 obtain ⟨l,rfl,h⟩:=h
 exact ⟨l,h⟩
theorem opnd_flat_rd [Glob] (hI:Inv w0 L0 N vs T a w L) {X:TypeId} {x:Operand} {n:Nat} {t:Ty} {y:t.den} {log:List Nat} (hd:t.depth=0) (h:(opnd C X x).Runs T (.d none n t y) log) :
  ∃ cs,Form t cs (a.eval x)∧Rd w (SL L none) t y cs:=by
 have key:∀ {s:Nat},SRep L T a.tmps s (.d none n t y) w (a.eval x)→∃ cs,Form t cs (a.eval x)∧Rd w (SL L none) t y cs:=by
  rintro s ⟨_,cs,hf,ho⟩
  exact ⟨cs,hf,Own.rd0 (Own.at0 (s':=0) (q':=[]) (o':=0) (n':=0) (.inr hd) ho (.inl rfl))⟩
 rcases opnd_rep hI h with ⟨t,_,_,h⟩ | ⟨_,h⟩
 ·exact key h
 ·exact key (h L T a.tmps 0 w)
theorem pure_bin [Glob] (hI:Inv w0 L0 N vs T a w L) (hC:CtxOk P C) {o:Oper} {X Y:TypeId} {op:BinOp} {x y:Operand} {u v r:V} {d:Nat} {log log1 log2:List Nat} (ho:o.op = .binOp op X x y Y)
  (hx:(opnd C X x).Runs T u log1) (hy:(opnd C X y).Runs T v log2) (h:(binV C op X u v).Runs T r log):PureRes P o vs T a w L d r:=by
 unfold binV at h
 split at h
 ·split at h
  ·exact pure_shift hI ho (opnd_int hI hx) (opnd_int hI hy) h
  ·split at h
   ·rename_i hk
    subst hk
    exact pure_int hI ho (opnd_int hI hx) (opnd_int hI hy) h
   ·exact h.elim
 ·exact pure_str hI ho (opnd_str hI hx) (opnd_str hI hy) h
 ·rename_i n t x' n' t' y' _ _
  split at h
  ·rename_i ht
   subst ht
   split at h
   ·rename_i hc
    obtain ⟨hX,hh,hd⟩:=hc
    split at h
    ·rename_i b he
     obtain ⟨cs1,f1,r1⟩:=opnd_flat_rd hI hd hx
     obtain ⟨cs2,f2,r2⟩:=opnd_flat_rd hI hd hy
     have hrun:=(eq_run (w:=w) hC t').1 X Op.maxDepth x' y' cs1 cs2 _ _ b _ _ hX hh f1 f2 r1 r2 he
     have hg:(eqGuard op X x y (a.eval x) (a.eval y)).run P w = .ok () w:=by
      cases t' with
      | int k =>
       simp only [Rd] at r1
       subst r1
       obtain hx1:=(List.cons.inj f1).1
       rw [← hx1,eqGuard_at_int]; rfl
      | bool =>
       simp only [Rd] at r1
       subst r1
       obtain hx1:=(List.cons.inj f1).1
       rw [← hx1,eqGuard_at_bool]; rfl
      | str =>
       simp only [Rd] at r1
       subst r1
       obtain hx1:=(List.cons.inj f1).1
       rw [← hx1,eqGuard_at_string]; rfl
      | raw z=>simp [eqD] at he
      | unit=>simp [eqD] at he
      | slice e t=>simp [eqD] at he
      | pair a b=>exact ((hC X _ hX).und).elim
      | agg t =>
       rw [f1.agg,f2.agg]
       have hia:t.isArr=false:=by
        cases hia:t.isArr with
        | false=>rfl
        | true =>
         unfold Ty.isArr at hia
         split at hia
         ·simp [eqD] at he
         ·cases hia
       have hq:=((hC X _ hX).str hia).2.2
       cases op <;> simp [eqGuard,hq]
     have hop:op = .eql∨op = .neq:=by cases op <;> simp_all [boolV,M.Runs]
     have hbin:∀ c,((binOp op X (a.eval x) (a.eval y)).run P w = .ok c w)→(execOp a.eval o).run P w = .ok (.value c) w:=by
      intro c hc
      simp [execOp,ho,hg,hc]
     have hval:∀ (z1 z2:Value),Form t' cs1 z1→Form t' cs2 z2→(Op.equalIn Op.maxDepth X z1 z2).run P w = .ok b w →
       ((binOp .eql X z1 z2).run P w = .ok (.bool b) w∧(binOp .neq X z1 z2).run P w = .ok (.bool !b) w):=by
      intro z1 z2 g1 g2 hr
      cases t' with
      | int k =>
       simp only [Rd] at r1 r2
       subst r1 r2
       obtain rfl:=(List.cons.inj g1).1
       obtain rfl:=(List.cons.inj g2).1
       simp only [eqD,Option.some.injEq] at he
       subst he
       constructor <;> simp [binOp,Op.intCmp]
       rfl
      | bool =>
       simp only [Rd] at r1 r2
       subst r1 r2
       obtain rfl:=(List.cons.inj g1).1
       obtain rfl:=(List.cons.inj g2).1
       constructor <;> simp [binOp,Op.equal,hr]
      | str =>
       simp only [Rd] at r1 r2
       subst r1 r2
       obtain rfl:=(List.cons.inj g1).1
       obtain rfl:=(List.cons.inj g2).1
       simp only [eqD,Option.some.injEq] at he
       subst he
       constructor <;> simp [binOp,Op.stringOp]
      | raw z=>simp [eqD] at he
      | unit=>simp [eqD] at he
      | slice e t=>simp [eqD] at he
      | pair a b=>exact ((hC X _ hX).und).elim
      | agg t =>
       obtain rfl:=g1.agg
       obtain rfl:=g2.agg
       constructor <;> simp [binOp,Op.equal,hr]
     obtain ⟨e1,e2⟩:=hval _ _ f1 f2 hrun
     rcases hop with rfl | rfl
     ·obtain ⟨rfl,_⟩:=h
      exact PureRes.still hI (hbin _ e1) (fun _=>rfl) SRep.mkBool
     ·obtain ⟨rfl,_⟩:=h
      exact PureRes.still hI (hbin _ e2) (fun _=>rfl) SRep.mkBool
    ·exact h.elim
   ·exact h.elim
  ·exact h.elim
 ·exact h.elim
end
end Go.Proofs.YtkanidldnnfloaaGreat.P.Am
set_option linter.unusedVariables false
set_option linter.unusedSimpArgs false
namespace Go.Proofs.YtkanidldnnfloaaGreat.P.Am
section
variable {P:Program} {C:Ctx} {w w' w0:World} {S S':Nat→Prop} {L L' L0:Nat→Lab} {s N:Nat} {vs:List Nat} {T T':List V} {tm tm':Array Value} {a:Act}
theorem move_any [Glob] (hI:Inv w0 L0 N vs T a w L) {o:Oper} {x:Operand} {d:Nat} {v:V} {log:List Nat} (hrun:(execOp a.eval o).run P w = .ok (.value (a.eval x)) w) (hid:(T.getD d .dead).idle=true)
  (h:(moveM C o.type x).Runs T v log) (hvs:∀ r,v.on r=true→r∈vs):PureRes P o vs T a w L d v:=by
 obtain ⟨c,w',L',h1,h2,h3,h4,h5⟩:=pure_move (P:=P) (o:={ o with op := .move x }) (d:=d) hI rfl hid h hvs
 have:(execOp a.eval { o with op := .move x }).run P w = .ok (.value (a.eval x)) w:=by simp [execOp]
 rw [this] at h1
 injection h1 with h1 h1'
 injection h1 with h1
 subst h1 h1'
 exact ⟨_,_,L',hrun,h2,h3,h4,h5⟩
theorem pure_pick [Glob] (hI:Inv w0 L0 N vs T a w L) {o:Oper} {c x y:Operand} {d:Nat} {b:Bool} {v:V} {log:List Nat} (ho:o.op = .pick c x y)
  (hc:a.eval c = .bool b) (hid:(T.getD d .dead).idle=true) (h:(moveM C o.type (if b=true then x else y)).Runs T v log) (hvs:∀ r,v.on r=true→r∈vs):PureRes P o vs T a w L d v :=
 move_any hI (by cases b <;> simp [execOp,ho,hc,asBool]) hid h hvs
theorem pure_conv [Glob] (hI:Inv w0 L0 N vs T a w L) (hC:CtxOk P C) {o:Oper} {src dst:TypeId} {x:Operand} {u v:V} {d:Nat} {log log2:List Nat} (ho:o.op = .convert src dst x)
  (hx:(opnd C src x).Runs T u log) (h:(convV C src dst u).Runs T v log2):PureRes P o vs T a w L d v:=by
 unfold convV at h
 split at h
 ·rename_i k0 k l n k' m hs hd
  obtain ⟨rfl,_⟩:=h
  have h1:=(hC _ _ hs).und
  have h2:=(hC _ _ hd).und
  refine PureRes.still hI ?_ (fun _=>rfl) SRep.mkInt
  simp [execOp,ho,opnd_int hI hx,convert,run_underlying h1,run_underlying h2,Conv.intToInt]
 ·rename_i l n m hs hd
  obtain ⟨rfl,_⟩:=h
  have h1:=(hC _ _ hs).und
  have h2:=(hC _ _ hd).und
  refine PureRes.still hI ?_ (fun _=>rfl) SRep.mkStr
  simp [execOp,ho,opnd_str hI hx,convert,run_underlying h1,run_underlying h2]
 ·exact h.elim
theorem pure_bytes [Glob] (hI:Inv w0 L0 N vs T a w L) (hC:CtxOk P C) {o:Oper} {src dst e:TypeId} {t d:Nat} {v:V} {log:List Nat} (ho:o.op = .convert src dst (.tmp t))
  (hs:C.ty src=some (.slice e (.int .u8))) (hd:C.ty dst=some .str)
  (h:(M.get t fun v=>(readD t v).bind fun z=>match z.2 with
   | ⟨.slice _ (.int .u8),xs⟩=>M.ret (.d none 0 .str (strOf xs))
   | _ => .fail).Runs T v log):PureRes P o vs T a w L d v:=by
 obtain ⟨log',rfl,h⟩:=h
 have hst:=hI.slots t
 obtain ⟨⟨l,t2,x2⟩,l1,l2,rfl,h1,h2⟩:=M.runs_bind h
 dsimp only at h2
 split at h2
 ·rename_i e2 xs heq
  obtain ⟨rfl,_⟩:=h2
  cases heq
  obtain ⟨cs,hf,hr,_⟩:=readD_rd hI h1 hst (fun _=>rfl)
  simp only [Rd] at hr
  obtain ⟨A,c,rfl,hc0,hA,hel⟩:=hr
  have hc:a.eval (.tmp t)=_:=((List.cons.inj hf).1).symm
  obtain ⟨hu,he⟩:=(hC _ _ hs).und
  have hue:=(hC _ _ he).und
  have hud:=(hC _ _ hd).und
  refine PureRes.still hI (c := .string (strOf xs)) ?_ (fun _=>rfl) SRep.mkStr
  have key:(Conv.bytesToString (.slice A xs.length c)).run P w = .ok (.string (strOf xs)) w:=by
   cases A with
   | none =>
    obtain ⟨rfl,_⟩:=hA rfl
    simp [Conv.bytesToString,Sem.run_pure,strOf]
   | some ad =>
    refine run_bytesToString w ad xs.length c xs ?_
    have hlist:∀ (j:Nat) (v:Value),(xs.map (Value.int .u8))[j]? = some v→w.cell? (ad.add j)=some v:=by
     intro j v hv
     rw [List.getElem?_map,Option.map_eq_some_iff] at hv
     obtain ⟨n,hn,rfl⟩:=hv
     obtain ⟨hj,hn⟩:=List.getElem?_eq_some_iff.1 hn
     obtain ⟨g,o,had,_,hel2⟩:=hel (by rintro rfl; simp at hj)
     cases had
     obtain ⟨es,he1,he2⟩:=hel2 j hj
     subst he1
     have:=he2 0 _ rfl
     rw [Addr.add_lit]
     simpa [Ty.sz,hn] using this
    have:=run_loadCells_list (P:=P) w ad (xs.map (Value.int .u8)) hlist
    simpa using this
  simp only [execOp,ho,hc,run_convert_bytes_string w src dst e A xs.length c hu hue hud,Sem.run_bind,key,Result.andThen_ok,Sem.run_pure]
 ·exact h2.elim
theorem pure_index [Glob] (hI:Inv w0 L0 N vs T a w L) (hC:CtxOk P C) {o:Oper} {X:TypeId} {x y:Operand} {sx:ByteArray} {k:IntKind} {i b:Int} {d:Nat} (ho:o.op = .index X x y)
  (hX:C.ty X=some .str) (hx:a.eval x = .string sx) (hy:a.eval y = .int k i) (h:getB sx i=some b):PureRes P o vs T a w L d (.d none 0 (.int .u8) b):=by
 unfold getB at h
 split at h
 ·rename_i h0
  simp only [Option.map_eq_some_iff] at h
  obtain ⟨b0,hb,rfl⟩:=h
  refine PureRes.still hI (c := .int .u8 b0.toNat) ?_ (fun _=>rfl) SRep.mkInt
  have hu:=(hC X _ hX).und
  simp [execOp,ho,Instr.index,hx,hy,asIntOf,run_underlying hu,h0,hb]
 ·cases h
theorem pure_indexV [Glob] (hI:Inv w0 L0 N vs T a w L) (hC:CtxOk P C) {o:Oper} {X:TypeId} {x y:Operand} {l:Option Nat} {n j off d:Nat} {k:IntKind} {t t1:Ty} {z:t.den} {x1:t1.den} {log:List Nat} (ho:o.op = .index X x y)
  (hX:arrOf C X=some t) (hx:(opnd C X x).Runs T (.d l n (.agg t) z) log) (hy:a.eval y = .int k (j:Int)) (hc:comp (j+1) t z=some (off,⟨t1,x1⟩)) (hd:t1.depth=0):PureRes P o vs T a w L d (.d none 0 t1 x1):=by
 unfold arrOf at hX
 split at hX
 ·rename_i t' ht
  cases hia:t'.isArr with
  | false=>rw [hia] at hX; cases hX
  | true =>
  rw [hia] at hX
  injection hX with hX
  subst hX
  obtain ⟨m,e,te,hu,he,hag,hn,hcc,hb⟩:=((hC X _ ht).und).resolve_left (fun h=>by rw [hia] at h; cases h.1) |>.2
  have hcT:=pure_fieldAddr.comp_compT hc
  have hlt:=hb j _ hcT
  rw [hcc j hlt] at hcT
  simp only [Option.some.injEq,Prod.mk.injEq] at hcT
  obtain ⟨rfl,rfl⟩:=hcT
  have hrep:∃ s0,SRep L T a.tmps s0 (.d l n (.agg t') z) w (a.eval x):=by
   rcases opnd_rep hI hx with ⟨s,_,_,hs⟩ | ⟨_,hs⟩
   ·exact ⟨s,hs⟩
   ·exact ⟨0,hs _ _ _ _ _⟩
  obtain ⟨s0,_,cs,hf,how⟩:=hrep
  have hev:=hf.agg
  simp only [Own] at how
  obtain ⟨h5,h6⟩:=comp_own hc how
  have hlen:=how.len
  obtain ⟨c,hc1,hc2⟩:=run_part (w:=w) (xs:=cs.toArray) (off:=j*te.sz) hC he (by simp [hlen]; omega) (Own.rd0 (Own.flat (n':=0) (L':=L) (S':=SL L none) (s':=0) (q':=[]) (o':=0) hd h6))
  refine PureRes.still hI (c:=c) ?_ (fun _=>rfl) ⟨by simp,_,hc2,Own.flat hd h6⟩
  have hs:=(hC _ _ he).run_sizeOf (w:=w)
  simp [execOp,ho,Instr.index,hev,hy,asIntOf,run_underlying hu,hlt,hs,hc1]
 ·cases hX
theorem optInt_ev [Glob] (hI:Inv w0 L0 N vs T a w L) {x:Option Operand} {r:Option Int} {log:List Nat} (h:(optInt C x).Runs T r log) :
  (x=none∧r=none)∨∃ y k i,x=some y∧r=some i∧a.eval y = .int k i:=by
 cases x with
 | none=>obtain ⟨rfl,_⟩:=h; exact .inl ⟨rfl,rfl⟩
 | some y =>
  obtain ⟨u,l1,l2,rfl,h1,h2⟩:=M.runs_bind h
  split at h2
  ·obtain ⟨rfl,_⟩:=h2
   exact .inr ⟨y,_,_,rfl,rfl,opnd_int hI h1⟩
  ·exact h2.elim
theorem run_slice {X:TypeId} {e:TypeId} {te:Ty} (hu:P.underlying X=some (.slice e)) (hs:(sizeOf e).run P w = .ok te.sz w) {A:Option Addr} {len cap:Nat} {lo hi:Option Value} {l h:Int}
  (hl:(lo=none∧l=0)∨∃ k,lo=some (.int k l)) (hh:(hi=none∧h=len)∨∃ k,hi=some (.int k h)) (h0:0≤l) (h1:l≤h) (h2:h≤len) (h3:len≤cap) :
  (Instr.sliceAt X (.slice A len cap) lo hi none).run P w = .ok (.slice (if cap=l.toNat then A else A.map (·.add (l.toNat*te.sz))) (h.toNat - l.toNat) (cap - l.toNat)) w:=by
 have hb:(Instr.sliceBounds true len cap lo hi none).run P w = .ok (l.toNat,h.toNat,cap) w:=by
  unfold Instr.sliceBounds
  rcases hl with ⟨rfl,rfl⟩ | ⟨k,rfl⟩ <;> rcases hh with ⟨rfl,rfl⟩ | ⟨k',rfl⟩
  ·simp
  ·simp only [Instr.sliceBound,asIntOf,Sem.run_bind,Sem.run_pure,Result.andThen_ok,Sem.run_ite]
   rw [if_pos ⟨by omega,by omega⟩]
   simp
  ·simp only [Instr.sliceBound,asIntOf,Sem.run_bind,Sem.run_pure,Result.andThen_ok,Sem.run_ite]
   rw [if_pos ⟨by omega,by omega⟩]
   simp
  ·simp only [Instr.sliceBound,asIntOf,Sem.run_bind,Sem.run_pure,Result.andThen_ok,Sem.run_ite]
   rw [if_pos ⟨by omega,by omega⟩]
   simp only [Result.andThen_ok]
   rw [if_pos ⟨by omega,by omega⟩]
   simp
 simp [Instr.sliceAt,Instr.slice,run_underlying hu,hb,hs]
theorem run_sliceS {X:TypeId} (hu:P.underlying X=some .string) {sx:ByteArray} {lo hi:Option Value} {l h:Int}
  (hl:(lo=none∧l=0)∨∃ k,lo=some (.int k l)) (hh:(hi=none∧h=sx.size)∨∃ k,hi=some (.int k h)) (h0:0≤l) (h1:l≤h) (h2:h≤sx.size) :
  (Instr.sliceAt X (.string sx) lo hi none).run P w = .ok (.string (sx.extract l.toNat h.toNat)) w:=by
 have hb:(Instr.sliceBounds false sx.size sx.size lo hi none).run P w = .ok (l.toNat,h.toNat,sx.size) w:=by
  unfold Instr.sliceBounds
  rcases hl with ⟨rfl,rfl⟩ | ⟨k,rfl⟩ <;> rcases hh with ⟨rfl,rfl⟩ | ⟨k',rfl⟩
  ·simp
  ·simp only [Instr.sliceBound,asIntOf,Sem.run_bind,Sem.run_pure,Result.andThen_ok,Sem.run_ite]
   rw [if_pos ⟨by omega,by omega⟩]
   simp
  ·simp only [Instr.sliceBound,asIntOf,Sem.run_bind,Sem.run_pure,Result.andThen_ok,Sem.run_ite]
   rw [if_pos ⟨by omega,by omega⟩]
   simp
  ·simp only [Instr.sliceBound,asIntOf,Sem.run_bind,Sem.run_pure,Result.andThen_ok,Sem.run_ite]
   rw [if_pos ⟨by omega,by omega⟩]
   simp only [Result.andThen_ok]
   rw [if_pos ⟨by omega,by omega⟩]
   simp
 simp [Instr.sliceAt,Instr.slice,run_underlying hu,hb]
theorem opt_vals {x:Option Operand} {r:Option Int} {z:Int} (h:(x=none∧r=none)∨∃ y k i,x=some y∧r=some i∧a.eval y = .int k i) :
  (x.map a.eval=none∧r.getD z=z)∨∃ k,x.map a.eval=some (.int k (r.getD z)):=by
 rcases h with ⟨rfl,rfl⟩ | ⟨y,k,i,rfl,rfl,h⟩
 ·exact .inl ⟨rfl,rfl⟩
 ·exact .inr ⟨k,by simp [h]⟩
theorem pure_sliceC [Glob] (hI:Inv w0 L0 N vs T a w L) (hC:CtxOk P C) {o:Oper} {X:TypeId} {sx:ByteArray} {d:Nat} {lo hi:Option Operand} {l h:Option Int} {v:V} {log l1 l2:List Nat} (ho:o.op = .slice X (.const (.string sx)) lo hi none)
  (hl:(optInt C lo).Runs T l l1) (hh:(optInt C hi).Runs T h l2)
  (hr:(sliceV C X 0 (l.getD 0) h (.d none 0 .str sx)).Runs T v log):PureRes P o vs T a w L d v:=by
 have el:=opt_vals (z:=0) (optInt_ev hI hl)
 have eh:=fun z=>opt_vals (z:=z) (optInt_ev hI hh)
 have key:∀ c,(Instr.sliceAt X (.string sx) (lo.map a.eval) (hi.map a.eval) none).run P w = .ok c w→(execOp a.eval o).run P w = .ok (.value c) w:=by
  intro c hc
  have hev:a.eval (.const (.string sx)) = .string sx:=rfl
  simp [execOp,ho,hev,hc]
 simp only [sliceV] at hr
 split at hr
 ·rename_i hX
  obtain ⟨hc,rfl,_⟩:=hr
  simp only [Bool.and_eq_true,decide_eq_true_eq] at hc
  obtain ⟨⟨h0,h1⟩,h2⟩:=hc
  have hrun:=run_sliceS (P:=P) (w:=w) (hC X _ hX).und (sx:=sx) el (eh (sx.size:Int)) h0 h1 h2
  exact PureRes.still hI (key _ hrun) (fun _=>rfl) SRep.mkStr
 ·exact hr.elim
theorem pure_slice [Glob] (hI:Inv w0 L0 N vs T a w L) (hC:CtxOk P C) {o:Oper} {X:TypeId} {t d:Nat} {lo hi:Option Operand} {l h:Option Int} {v:V} {log l1 l2:List Nat} (ho:o.op = .slice X (.tmp t) lo hi none)
  (hid:(T.getD d .dead).idle=true) (hl:(optInt C lo).Runs T l l1) (hh:(optInt C hi).Runs T h l2)
  (hr:(sliceV C X t (l.getD 0) h (T.getD t .dead)).Runs T v log) (hvs:∀ r,v.on r=true→r∈vs):PureRes P o vs T a w L d v:=by
 have hs:=hI.slots t
 have el:=opt_vals (z:=0) (optInt_ev hI hl)
 have eh:=fun z=>opt_vals (z:=z) (optInt_ev hI hh)
 have key:∀ c,(Instr.sliceAt X (a.eval (.tmp t)) (lo.map a.eval) (hi.map a.eval) none).run P w = .ok c w→(execOp a.eval o).run P w = .ok (.value c) w:=by
  intro c hc
  simp [execOp,ho,hc]
 unfold sliceV at hr
 split at hr
 ·rename_i l0 n sx hv
  rw [hv] at hs
  split at hr
  ·rename_i hX
   obtain ⟨hc,rfl,_⟩:=hr
   simp only [Bool.and_eq_true,decide_eq_true_eq] at hc
   obtain ⟨⟨h0,h1⟩,h2⟩:=hc
   have hcv:a.eval (.tmp t)=_:=hs.str
   have hrun:=run_sliceS (P:=P) (w:=w) (hC X _ hX).und (sx:=sx) el (eh (sx.size:Int)) h0 h1 h2
   rw [← hcv] at hrun
   exact PureRes.still hI (key _ hrun) (fun _=>rfl) SRep.mkStr
  ·exact hr.elim
 ·obtain ⟨⟨lr,t2,x2⟩,l3,l4,rfl,h1,h2⟩:=M.runs_bind hr
  split at h2
  ·rename_i z l' e te xs he
   cases he
   split at h2
   ·rename_i hte
    obtain ⟨hc,rfl,_⟩:=h2
    simp only [Bool.and_eq_true,decide_eq_true_eq] at hc
    obtain ⟨⟨h0,h1'⟩,h2'⟩:=hc
    obtain ⟨cs,hf,hrd,hdp⟩:=readD_rd hI h1 hs (fun _=>rfl)
    simp only [Rd] at hrd
    obtain ⟨A,cp,rfl,k1,k2,k3⟩:=hrd
    have hcv:a.eval (.tmp t)=_:=((List.cons.inj hf).1).symm
    unfold sliceOf at hte
    split at hte
    ·rename_i e' te' hX
     injection hte with hte
     subst hte
     obtain ⟨hu,he⟩:=(hC X _ hX).und
     have hrun:=run_slice (te:=te') hu ((hC _ _ he).run_sizeOf (w:=w)) (A:=A) (len:=xs.length) (cap:=cp) el (eh (xs.length:Int)) h0 h1' h2' k1
     rw [← hcv] at hrun
     refine ⟨_,w,L,key _ hrun,Grows.refl hI d,fun k q hk h=>(by rw [hI.free k hk] at h; cases h),hvs,fun r hr => ?_,_,rfl,?_⟩
     ·have:=hdp r hr
      rw [getD_set,if_neg (fun h=>idle_ne hid (V.owns_of_deep this) h.1)]
      exact this
     ·simp only [Own,Rd]
      generalize hlo:(l.getD 0)=lo' at *
      generalize hhi:(h.getD (xs.length:Int))=hi' at *
      refine ⟨if cp=lo'.toNat then A else A.map (fun x=>x.add (lo'.toNat*te'.sz)),cp - lo'.toNat,?_,?_,?_,?_⟩
      ·simp only [List.length_drop,List.length_take]
       rw [Nat.min_eq_left (by omega)]
      ·simp only [List.length_drop,List.length_take]; omega
      ·intro hA
       have:A=none:=by
        split at hA
        ·exact hA
        ·simpa using hA
       obtain ⟨rfl,rfl⟩:=k2 this
       simp
      ·intro hx
       have hxs:xs≠[]:=by rintro rfl; simp at hx
       obtain ⟨g,o',rfl,hS,hel⟩:=k3 hxs
       have hlen:lo'.toNat < xs.length:=by
        rcases Nat.lt_or_ge lo'.toNat xs.length with h | h
        ·exact h
        ·exact absurd (List.drop_eq_nil_of_le (by simp; omega)) hx
       refine ⟨g,o'+lo'.toNat*te'.sz,?_,hS,fun j hj => ?_⟩
       ·rw [if_neg (by omega)]
        simp [Addr.add_lit]
       ·simp only [List.length_drop,List.length_take] at hj
        obtain ⟨es,he1,he2⟩:=hel (lo'.toNat+j) (by omega)
        refine ⟨es,by simpa using he1,fun i v hv => ?_⟩
        have:=he2 i v hv
        rw [Nat.add_mul] at this
        rw [← this]
        congr 2
        omega
    ·cases hte
   ·exact h2.elim
  ·exact h2.elim
theorem pure_sound [Glob] (hI:Inv w0 L0 N vs T a w L) (hC:CtxOk P C) {o:Oper} {d:Nat} {v:V} {log:List Nat} (hid:(T.getD d .dead).idle=true) (hvs:∀ r,v.on r=true→r∈vs)
  (h:(pureM C o).Runs T v log):PureRes P o vs T a w L d v:=by
 unfold pureM at h
 split at h
 ·rename_i x ho
  exact pure_move hI ho hid h hvs
 ·rename_i c x y ho
  obtain ⟨u,l1,l2,rfl,h1,h2⟩:=M.runs_bind h
  split at h2
  ·rename_i l n b
   split at h2
   ·exact pure_pick hI ho (opnd_bool hI h1) hid h2 hvs
   ·exact pure_pick hI ho (opnd_bool hI h1) hid h2 hvs
  ·exact h2.elim
 ·rename_i X ho
  exact pure_alloc hI hC ho h
 ·rename_i X t ho
  exact pure_load hI hC ho hid h hvs
 ·rename_i t ho
  exact pure_nilCheck hI ho hid h hvs
 ·rename_i X t f ho
  exact pure_fieldAddr hI hC ho hid h hvs
 ·rename_i X t y ho
  obtain ⟨u,l1,l2,rfl,h1,h2⟩:=M.runs_bind h
  split at h2
  ·exact pure_indexAddr (Y:=0) hI hC ho (opnd_int hI h1) hid h2 hvs
  ·exact h2.elim
 ·rename_i X x y ho
  obtain ⟨u,l1,l2,rfl,h1,h2⟩:=M.runs_bind h
  obtain ⟨u2,l3,l4,rfl,h3,h4⟩:=M.runs_bind h2
  split at h4
  ·split at h4
   ·rename_i hX
    obtain ⟨b,hb,rfl,_⟩:=h4
    exact pure_index hI hC ho hX (opnd_str hI h1) (opnd_int hI h3) hb
   ·exact h4.elim
  ·rename_i l n t z l' n' k i
   split at h4
   ·rename_i hX
    obtain ⟨hX,hd⟩:=hX
    obtain ⟨y0,hy0,rfl,_⟩:=h4
    obtain ⟨hj,hi0,rfl⟩:=getI_some hy0
    obtain ⟨off,hc⟩:=elemsL_comp (List.getElem?_eq_getElem hj)
    have hc2:comp (i.toNat+1) (.pair .unit t) z=some (0+off,⟨elemT t,(elemsL (elemT t) t z.2)[i.toNat]⟩):=by simp [comp,hc,Ty.sz]
    exact pure_indexV hI hC ho hX h1 (by rw [opnd_int hI h3,Int.toNat_of_nonneg hi0]) hc2 hd
   ·exact h4.elim
  ·exact h4.elim
 ·rename_i op X x y Y ho
  obtain ⟨u,l1,l2,rfl,h1,h2⟩:=M.runs_bind h
  obtain ⟨u2,l3,l4,rfl,h3,h4⟩:=M.runs_bind h2
  exact pure_bin hI hC ho h1 h3 h4
 ·rename_i op X x ho
  obtain ⟨u,l1,l2,rfl,h1,h2⟩:=M.runs_bind h
  exact pure_un hI ho h1 h2
 ·rename_i src dst x ho
  split at h
  ·rename_i e t hs hd
   exact pure_bytes hI hC ho hs hd h
  ·obtain ⟨u,l1,l2,rfl,h1,h2⟩:=M.runs_bind h
   exact pure_conv hI hC ho h1 h2
 ·rename_i X x y ho
  obtain ⟨u,l1,l2,rfl,h1,h2⟩:=M.runs_bind h
  obtain ⟨u2,l3,l4,rfl,h3,h4⟩:=M.runs_bind h2
  split at h4
  ·exact pure_make hI hC ho (opnd_int hI h1) (opnd_int hI h3) h4
  ·exact h4.elim
 ·rename_i X t lo hi ho
  obtain ⟨u,l1,l2,rfl,h1,h2⟩:=M.runs_bind h
  obtain ⟨u2,l3,l4,rfl,h3,h4⟩:=M.runs_bind h2
  obtain ⟨l5,h5⟩:=M.runs_get h4
  exact pure_slice hI hC ho hid h1 h3 h5 hvs
 ·rename_i X sx lo hi ho
  obtain ⟨u,l1,l2,rfl,h1,h2⟩:=M.runs_bind h
  obtain ⟨u2,l3,l4,rfl,h3,h4⟩:=M.runs_bind h2
  exact pure_sliceC hI hC ho h1 h3 h4
 ·rename_i c ho
  split at h
  ·rename_i t X h1 h2 h3
   split at h
   ·rename_i tx hX
    have ho':o.op = .call { callee := .builtin .len,args := #[.tmp t],argTypes := #[X] }:=by
     rw [ho]
     obtain ⟨c1,c2,c3⟩:=c
     simp only at h1 h2 h3
     subst h1
     congr 2 <;> apply Array.ext' <;> simpa
    exact pure_len hI hC ho' hX h
   ·exact h.elim
  ·exact h.elim
 ·exact h.elim
end
end Go.Proofs.YtkanidldnnfloaaGreat.P.Am
set_option linter.unusedVariables false
set_option linter.unusedSimpArgs false
namespace Go.Proofs.YtkanidldnnfloaaGreat.P.Am
def relab (f:Nat→List Nat→Lab):Lab→Lab
 | .own s q=>f s q
 | x=>x
def newLab (f:Nat→List Nat→Lab) (w:World) (L nl:Nat→Lab):Nat→Lab:=fun k=>if k < w.heap.size then relab f (L k) else nl k
section
variable {P:Program} {C:Ctx} {w w' w0:World} {S S':Nat→Prop} {L L' L0:Nat→Lab} {s N:Nat} {vs:List Nat} {T T':List V} {tm tm':Array Value} {a:Act}
theorem relab_own {f:Nat→List Nat→Lab} {l:Lab} {s:Nat} {q:List Nat} (h:relab f l = .own s q):∃ s0 q0,l = .own s0 q0∧f s0 q0 = .own s q:=by
 cases l with
 | own s0 q0=>exact ⟨s0,q0,rfl,h⟩
 | stable=>cases h
 | free=>cases h
 | other=>cases h
structure Fun (f:Nat→List Nat→Lab) (X:Nat→Prop):Prop where
 id:∀ s q,¬ X s→f s q = .own s q
 to:∀ s q s' q',X s→f s q = .own s' q'→X s'
 inj:∀ s q s2 q2 s' q',f s q = .own s' q'→f s2 q2 = .own s' q'→s=s2∧q=q2
 nf:∀ s q,f s q ≠ .free
structure Wd (w w':World) (L nl:Nat→Lab) (X:Nat→Prop):Prop where
 os:w'.os=w.os
 tape:w'.tape=w.tape
 output:w'.output=w.output
 size:w.heap.size≤w'.heap.size
 drawn:w.drawn≤w'.drawn
 old:∀ k,k < w.heap.size→(∀ s q,L k = .own s q→¬ X s)→w'.heap[k]? = w.heap[k]?
 free:∀ k,w'.heap.size≤k→nl k = .free
 new:∀ k s q,w.heap.size≤k→nl k = .own s q→X s
theorem Wd.refl [Glob] (hI:Inv w0 L0 N vs T a w L) (X:Nat→Prop):Wd w w L (fun _ => .free) X :=
 ⟨rfl,rfl,rfl,Nat.le_refl _,Nat.le_refl _,fun _ _ _=>rfl,fun _ _=>rfl,fun _ _ _ _ h=>(by cases h)⟩
theorem newLab_old [Glob] {f:Nat→List Nat→Lab} {nl:Nat→Lab} (hI:Inv w0 L0 N vs T a w L) {k:Nat} (h:L k ≠ .free):newLab f w L nl k=relab f (L k):=by
 unfold newLab
 rw [if_pos (hI.lt h)]
theorem newLab_id [Glob] {f:Nat→List Nat→Lab} {nl:Nat→Lab} {X:Nat→Prop} (hI:Inv w0 L0 N vs T a w L) (hf:Fun f X) {k s:Nat} {q:List Nat} (h:L k = .own s q) (hs:¬ X s) :
  newLab f w L nl k = .own s q:=by
 rw [newLab_old hI (by rw [h]; simp),h]
 simp [relab,hf.id s q hs]
theorem newLab_stable [Glob] {f:Nat→List Nat→Lab} {nl:Nat→Lab} (hI:Inv w0 L0 N vs T a w L) {k:Nat} (h:L k = .stable):newLab f w L nl k = .stable:=by
 rw [newLab_old hI (by rw [h]; simp),h]
 rfl
theorem Inv.updF [Glob] {a':Act} {f:Nat→List Nat→Lab} {X:Nat→Prop} {nl:Nat→Lab} (hI:Inv w0 L0 N vs T a w L) (hf:Fun f X) (hw:Wd w w' L nl X)
  (hnl:∀ k k' s q,w.heap.size≤k→nl k = .own s q→newLab f w L nl k' = .own s q→k=k')
  (hsz:a'.tmps.size=N) (hlen:T'.length=N) (hdf:a'.defers=[])
  (hown:∀ k s q,X s→newLab f w L nl k = .own s q→(T'.getD s .dead).owns=true)
  (hon:∀ s r,¬ X s→(T.getD s .dead).on r=true→X r→(T.getD r .dead).owns=false)
  (hsame:∀ s,¬ X s→T'.getD s .dead=T.getD s .dead∧a'.tmps.getD s undef=a.tmps.getD s undef)
  (hroots:∀ s r,X s→(T'.getD s .dead).on r=true→r∈vs)
  (hX:∀ s,X s→SRep (newLab f w L nl) T' a'.tmps s (T'.getD s .dead) w' (a'.tmps.getD s undef)):Inv w0 L0 N vs T' a' w' (newLab f w L nl):=by
 refine Inv.upd X hI hsz hlen hdf ?_ ?_ ?_ ?_ ?_ hsame ?_ ?_ hX
 ·refine ⟨hw.os.trans hI.fr.os,hw.tape.trans hI.fr.tape,hw.output.trans hI.fr.output,Nat.le_trans hI.fr.size hw.size,Nat.le_trans hI.fr.drawn hw.drawn,fun k hk h0 => ?_,hI.fr.glob⟩
  have h1:=hI.fr.keep k hk h0
  have hlt:k < w.heap.size:=Nat.lt_of_lt_of_le hk hI.fr.size
  constructor
  ·unfold newLab
   rw [if_pos hlt,h1.1]
   rcases h0 with h0 | h0 <;> rw [h0] <;> rfl
  ·rw [hw.old k hlt,h1.2]
   intro s q hq
   rw [h1.1] at hq
   rcases h0 with h0 | h0 <;> rw [h0] at hq <;> cases hq
 ·intro k hk
  unfold newLab
  rw [if_neg (by have:=hw.size; omega)]
  exact hw.free k hk
 ·intro k k' s q h h'
  by_cases hk:k < w.heap.size
  ·by_cases hk':k' < w.heap.size
   ·unfold newLab at h h'
    rw [if_pos hk] at h
    rw [if_pos hk'] at h'
    obtain ⟨s0,q0,e0,f0⟩:=relab_own h
    obtain ⟨s1,q1,e1,f1⟩:=relab_own h'
    obtain ⟨rfl,rfl⟩:=hf.inj _ _ _ _ _ _ f0 f1
    exact hI.inj k k' _ _ e0 e1
   ·have h2:nl k' = .own s q:=by unfold newLab at h'; rwa [if_neg hk'] at h'
    exact (hnl k' k s q (by omega) h2 h).symm
  ·have h2:nl k = .own s q:=by unfold newLab at h; rwa [if_neg hk] at h
   exact hnl k k' s q (by omega) h2 h'
 ·intro k s q h
  by_cases hs:X s
  ·exact hown k s q hs h
  ·rw [(hsame s hs).1]
   unfold newLab at h
   split at h
   ·obtain ⟨s0,q0,e0,f0⟩:=relab_own h
    by_cases h0:X s0
    ·exact absurd (hf.to _ _ _ _ h0 f0) hs
    ·rw [hf.id s0 q0 h0] at f0
     injection f0 with f0 f1
     subst f0 f1
     exact hI.owner k _ _ e0
   ·exact absurd (hw.new k s q (by omega) h) hs
 ·intro s hs k hk
  have hlt:k < w.heap.size:=hI.lt (by rcases hk with hk | ⟨r,q,hk,_⟩ <;> rw [hk] <;> simp)
  rcases hk with hk | ⟨r,q,hk,hr⟩
  ·refine ⟨by rw [newLab_stable hI hk,hk],hw.old k hlt fun s q h => ?_⟩
   rw [hk] at h; cases h
  ·have hXr:¬ X r:=by
    rcases hr with rfl | hr
    ·exact hs
    ·intro hx
     have h1:=hon s r hs hr hx
     rw [hI.owner k r q hk] at h1
     cases h1
   refine ⟨by rw [newLab_id hI hf hk hXr,hk],hw.old k hlt fun s q h => ?_⟩
   rw [hk] at h
   injection h with h _
   subst h
   exact hXr
 ·intro s r h
  by_cases hs:X s
  ·exact hroots s r hs h
  ·rw [(hsame s hs).1] at h
   exact hI.roots s r h
 ·intro s r hs hr ho
  have hXr:¬ X r:=fun hx=>by
   rw [hon s r hs hr hx] at ho
   cases ho
  exact hsame r hXr
def cut:List Nat→List Nat→Option (List Nat)
 | [],z=>some z
 | x::q,y::z=>if x=y then cut q z else none
 | _::_,[]=>none
theorem cut_append (q z:List Nat):cut q (q++z)=some z:=by
 induction q with
 | nil=>rfl
 | cons x q ih=>simp [cut,ih]
theorem cut_some {q z y:List Nat} (h:cut q z=some y):z=q++y:=by
 induction q generalizing z with
 | nil=>simp only [cut,Option.some.injEq] at h; rw [h]; rfl
 | cons x q ih =>
  cases z with
  | nil=>simp [cut] at h
  | cons y' z =>
   simp only [cut] at h
   split at h
   ·rename_i he
    rw [he,ih h]; rfl
   ·cases h
def mvF (r:Nat) (q:List Nat) (o sz m d:Nat):Nat→List Nat→Lab:=fun s z =>
 if s=r then match cut q z with
  | some (y::rest)=>if o≤y∧y < o+sz then (if rest.length < m then .own d ((y - o)::rest) else .stable) else .other
  | _ => .other
 else if s=d then .other else .own s z
theorem mvF_key [Glob] {r d:Nat} {q:List Nat} {o sz m:Nat} {s:Nat} {z:List Nat} {s':Nat} {z':List Nat} (hh:mvF r q o sz m d s z = .own s' z') :
  (s=r∧∃ i rest,z=q++(o+i)::rest∧s'=d∧z'=i::rest)∨(s≠d∧s≠r∧s'=s∧z'=z):=by
 unfold mvF at hh
 split at hh
 ·rename_i hs
  subst hs
  split at hh
  ·rename_i y0 rest hc
   split at hh
   ·rename_i hb
    split at hh
    ·injection hh with h1 h2
     refine .inl ⟨rfl,y0 - o,rest,?_,h1.symm,h2.symm⟩
     rw [cut_some hc]
     congr 2
     omega
    ·cases hh
   ·cases hh
  ·cases hh
 ·split at hh
  ·cases hh
  ·rename_i hs1 hs2
   injection hh with h1 h2
   exact .inr ⟨hs2,hs1,h1.symm,h2.symm⟩
theorem mvF_fun [Glob] {r d:Nat} {q:List Nat} {o sz m:Nat} (h:r≠d):Fun (mvF r q o sz m d) (fun s=>s=r∨s=d):=by
 refine ⟨fun s q hs => ?_,fun s q s' q' hs h => ?_,fun s z s2 z2 s' z' h1 h2 => ?_,fun s z => ?_⟩
 ·have:=not_or.1 hs
  simp [mvF,this]
 ·rcases mvF_key h with ⟨_,_,_,_,rfl,_⟩ | ⟨h1,h2,_⟩
  ·exact .inr rfl
  ·exact absurd hs (not_or.2 ⟨h2,h1⟩)
 ·rcases mvF_key h1 with ⟨rfl,i,rest,rfl,rfl,rfl⟩ | ⟨hs,hr,rfl,rfl⟩
  ·rcases mvF_key h2 with ⟨rfl,i2,rest2,rfl,_,h4⟩ | ⟨hs2,hr2,h3,_⟩
   ·injection h4 with h4 h5
    subst h4 h5
    exact ⟨rfl,rfl⟩
   ·exact absurd h3.symm hs2
  ·rcases mvF_key h2 with ⟨rfl,i2,rest2,rfl,h3,_⟩ | ⟨hs2,hr2,h3,h4⟩
   ·exact absurd h3 hs
   ·exact ⟨h3,h4⟩
 ·unfold mvF
  repeat' split
  all_goals simp
theorem mvF_at [Glob] {r d:Nat} {q:List Nat} {o sz m i:Nat} {rest:List Nat} (h:i < sz):mvF r q o sz m d r (q++(o+i)::rest)=if rest.length < m then .own d (i::rest) else .stable:=by
 unfold mvF
 rw [if_pos rfl,cut_append]
 simp only
 rw [if_pos ⟨by omega,by omega⟩,show o+i - o=i by omega]
theorem Own.taken [Glob] {r d:Nat} {q:List Nat} {o:Nat} {n m:Nat} {t:Ty} {x:t.den} {cs:List Value} {nl:Nat→Lab} {S:Nat→Prop} (hm:m≤n) (hI:Inv w0 L0 N vs T a w L)
  (hS:∀ k,S k→L k = .stable) (h:Own w L S r n t x q o cs):Own w (newLab (mvF r q o t.sz m d) w L nl) (SL (newLab (mvF r q o t.sz m d) w L nl) none) d m t x [] 0 cs :=
 Own.moveLow hm (fun k hk=>⟨.inl (newLab_stable hI (hS k hk)),rfl⟩) (fun k i rest hi hk=>by
  have:newLab (mvF r q o t.sz m d) w L nl k=if rest.length < m then .own d (i::rest) else .stable:=(newLab_old hI (by rw [hk]; simp)).trans (by rw [hk]; exact mvF_at hi)
  refine ⟨rfl,fun h => ?_,fun h => .inl ?_⟩
  ·rw [this,if_pos h]; simp
  ·rw [this,if_neg (by omega)]) h
end
end Go.Proofs.YtkanidldnnfloaaGreat.P.Am
set_option linter.unusedVariables false
set_option linter.unusedSimpArgs false
namespace Go.Proofs.YtkanidldnnfloaaGreat.P.Am
def rnF (r d:Nat):Nat→List Nat→Lab:=fun s z=>if s=r then .own d z else if s=d then .other else .own s z
def killed (kp:Nat→V→Bool) (T:List V):List V:=T.mapIdx fun s v=>if kp s v then .dead else v
def killOk (kp:Nat→V→Bool) (T:List V):Bool :=
 (T.mapIdx fun s v=>kp s v || ((match v.root with
  | none=>true
  | some r => !(kp r (T.getD r .dead) && (T.getD r .dead).owns)))).all id
def noOn (r s:Nat) (T:List V):Bool:=(T.mapIdx fun s' v=>s' == s || v.root != some r).all id
section
variable {P:Program} {C:Ctx} {w w' w0:World} {S S':Nat→Prop} {L L' L0:Nat→Lab} {s N:Nat} {vs:List Nat} {T T':List V} {tm tm':Array Value} {a:Act}
theorem getD_mapIdx (g:Nat→V→V) (hg:∀ s,g s .dead = .dead) (T:List V) (s:Nat):(T.mapIdx g).getD s .dead=g s (T.getD s .dead):=by
 simp only [List.getD_eq_getElem?_getD,List.getElem?_mapIdx]
 cases T[s]? <;> simp [hg]
theorem getD_killed [Glob] (kp:Nat→V→Bool) (T:List V) (s:Nat):(killed kp T).getD s .dead=if kp s (T.getD s .dead)=true then .dead else T.getD s .dead:=by
 unfold killed
 rw [getD_mapIdx _ (by intro s; split <;> rfl)]
theorem all_mapIdx {g:Nat→V→Bool} {T:List V} (h:(T.mapIdx g).all id=true) (s:Nat) (hs:s < T.length):g s (T.getD s .dead)=true:=by
 rw [List.all_eq_true] at h
 have:g s (T.getD s .dead)∈T.mapIdx g:=by
  rw [List.mem_iff_getElem?]
  refine ⟨s,?_⟩
  simp [List.getElem?_mapIdx,List.getElem?_eq_getElem hs]
 exact h _ this
theorem getD_out {T:List V} {s:Nat} (h:T.length≤s):T.getD s .dead = .dead:=by
 simp [List.getD_eq_getElem?_getD,List.getElem?_eq_none h]
theorem Inv.killP [Glob] (hI:Inv w0 L0 N vs T a w L) {kp:Nat→V→Bool} (h:killOk kp T=true):∃ L',Inv w0 L0 N vs (killed kp T) a w L':=by
 refine ⟨_,Inv.kill hI (fun s=>kp s (T.getD s .dead)) (by simp [killed,hI.len]) (fun s=>getD_killed kp T s) (fun s r hs ho1 ho2 => ?_)⟩
 by_cases hlt:s < T.length
 ·have h1:=all_mapIdx h s hlt
  rw [hs,Bool.false_or] at h1
  have hr:(T.getD s .dead).root=some r:=by simpa [V.on] using ho1
  rw [hr] at h1
  simp only [ho2,Bool.and_true,Bool.not_eq_true'] at h1
  exact h1
 ·rw [getD_out (by omega)] at ho1
  simp [V.on,V.root] at ho1
theorem noOn_on [Glob] {r s:Nat} (h:noOn r s T=true):∀ s',s'≠s→(T.getD s' .dead).on r=false:=by
 intro s' hs
 by_cases hlt:s' < T.length
 ·have h1:=all_mapIdx h s' hlt
  simp only [Bool.or_eq_true,beq_iff_eq,hs,false_or,bne_iff_ne] at h1
  simpa [V.on] using h1
 ·rw [getD_out (by omega)]
  rfl
theorem Inv.take [Glob] (hI:Inv w0 L0 N vs T a w L) {s r n:Nat} {p:List St} {t:Ty} {x:t.den} {log:List Nat} (hs:T.getD s .dead = .view r p t) (hsN:s < N) (hv:(viewD p (T.getD r .dead)).Runs T (none,⟨n,t,x⟩) log)
  (hn:n≠0) (hd:t.depth≠0) (hno:noOn r s T=true):∃ L',Inv w0 L0 N vs ((T.set r .dead).set s (.d none n t x)) a w L':=by
 have hsr:=hI.slots s
 rw [hs] at hsr
 obtain ⟨cs,hf,hown,_,hdp⟩:=view_own hI hsr hv
 have hrown:=V.owns_of_deep hdp
 have hrs:r≠s:=by
  rintro rfl
  rw [hs] at hrown
  cases hrown
 have hTs:((T.set r .dead).set s (.d none n t x)).getD s .dead = .d none n t x:=by
  rw [getD_set,if_pos ⟨rfl,by simp [hI.len,hsN]⟩]
 have hTr:((T.set r .dead).set s (.d none n t x)).getD r .dead = .dead:=by
  rw [getD_set,if_neg (fun h=>hrs h.1),getD_set]
  split
  ·rfl
  ·rename_i h
   exact getD_out (Nat.le_of_not_lt fun hl=>h ⟨rfl,hl⟩)
 refine ⟨_,Inv.updF (f:=mvF r (node [] 0 p).1 (node [] 0 p).2 t.sz n s) (X:=fun z=>z=r∨z=s) (nl:=fun _ => .free) hI (mvF_fun hrs) (Wd.refl hI _) (fun _ _ _ _ _ h=>by cases h) hI.size (by simp [hI.len]) hI.dfr ?_ ?_ ?_ ?_ ?_⟩
 ·intro k z q hz h
  rcases hz with rfl | rfl
  ·unfold newLab at h
   split at h
   ·obtain ⟨s0,q0,e0,f0⟩:=relab_own h
    exfalso
    rcases mvF_key f0 with ⟨_,_,_,_,h1,_⟩ | ⟨_,h1,h2,_⟩
    ·exact hrs h1
    ·exact h1 h2.symm
   ·cases h
  ·rw [hTs]
   simp [V.owns,hn,hd]
 ·intro z r' hz hon hr'
  rcases hr' with rfl | rfl
  ·exact absurd hon (by rw [noOn_on hno z (fun h=>hz (.inr h))]; simp)
  ·rw [hs]; rfl
 ·intro z hz
  have hz':=not_or.1 hz
  rw [getD_set,if_neg (fun h=>hz'.2 h.1),getD_set,if_neg (fun h=>hz'.1 h.1)]
  exact ⟨rfl,rfl⟩
 ·intro z r' hz hon
  rcases hz with rfl | rfl
  ·rw [hTr] at hon; simp [V.on,V.root] at hon
  ·rw [hTs] at hon; simp [V.on,V.root] at hon
 ·intro z hz
  rcases hz with rfl | rfl
  ·rw [hTr]; trivial
  ·rw [hTs]
   exact ⟨by simp,cs,hf,Own.taken (Nat.le_refl _) hI (fun k hk=>by
    rcases hk with hk | ⟨_,_,hk,_⟩
    ·exact hk
    ·cases hk) hown⟩
theorem rnF_key {r d s s':Nat} {z z':List Nat} (hh:rnF r d s z = .own s' z'):(s=r∧s'=d∧z'=z)∨(s≠d∧s≠r∧s'=s∧z'=z):=by
 unfold rnF at hh
 split at hh
 ·injection hh with h1 h2; exact .inl ⟨by assumption,h1.symm,h2.symm⟩
 ·split at hh
  ·cases hh
  ·injection hh with h1 h2; exact .inr ⟨by assumption,by assumption,h1.symm,h2.symm⟩
theorem rnF_fun [Glob] {r d:Nat} (h:r≠d):Fun (rnF r d) (fun s=>s=r∨s=d):=by
 refine ⟨fun s q hs => ?_,fun s q s' q' hs h => ?_,fun s z s2 z2 s' z' h1 h2 => ?_,fun s z => ?_⟩
 ·have:=not_or.1 hs
  simp [rnF,this]
 ·rcases rnF_key h with ⟨_,rfl,_⟩ | ⟨h1,h2,_⟩
  ·exact .inr rfl
  ·exact absurd hs (not_or.2 ⟨h2,h1⟩)
 ·rcases rnF_key h1 with ⟨rfl,rfl,rfl⟩ | ⟨hs,hr,rfl,rfl⟩
  ·rcases rnF_key h2 with ⟨rfl,_,h4⟩ | ⟨hs2,hr2,h3,_⟩
   ·exact ⟨rfl,h4⟩
   ·exact absurd h3.symm hs2
  ·rcases rnF_key h2 with ⟨rfl,h3,_⟩ | ⟨hs2,hr2,h3,h4⟩
   ·exact absurd h3 hs
   ·exact ⟨h3,h4⟩
 ·unfold rnF
  repeat' split
  all_goals simp
theorem rn_own [Glob] {r d:Nat} {nl:Nat→Lab} (hI:Inv w0 L0 N vs T a w L) {k:Nat} {q:List Nat} (h:L k = .own r q):newLab (rnF r d) w L nl k = .own d q:=by
 rw [newLab_old hI (by rw [h]; simp),h]
 simp [relab,rnF]
theorem SL.rn [Glob] {r d:Nat} {nl:Nat→Lab} {l:Option Nat} (hI:Inv w0 L0 N vs T a w L) (hrd:r≠d) (hr:l≠some r) (hd:l≠some d):∀ k,SL L l k→SL (newLab (rnF r d) w L nl) l k∧w.heap[k]? = w.heap[k]? := by
 rintro k (h | ⟨s,q,rfl,h⟩)
 ·exact ⟨.inl (newLab_stable hI h),rfl⟩
 ·refine ⟨.inr ⟨s,q,rfl,newLab_id hI (rnF_fun hrd) h (not_or.2 ⟨fun e=>hr (by rw [e]),fun e=>hd (by rw [e])⟩)⟩,rfl⟩
theorem TRep.rn [Glob] {r d:Nat} {nl:Nat→Lab} (hI:Inv w0 L0 N vs T a w L) (hrd:r≠d):{l:List (Nat×Option (Nat×(t:Ty)×t.den))}→{o:Nat}→{vs:List Value}→TRep w L r o l vs→TRep w (newLab (rnF r d) w L nl) d o l vs
 | [],_,_,h=>h
 | (sz,c)::l,o,vs,⟨v,vs',h1,h2,h3⟩=>⟨v,vs',h1,fun n t x hc=>by
   obtain ⟨h4,cs,h5,h6⟩:=h2 n t x hc
   exact ⟨h4,cs,h5,Own.move (SL.rn hI hrd (by simp) (by simp)) (fun k d rest _ hk=>⟨rn_own hI hk,rfl⟩) h6⟩,TRep.rn hI hrd h3⟩
theorem MixF.rn [Glob] {r d:Nat} {nl:Nat→Lab} (hI:Inv w0 L0 N vs T a w L) (hrd:r≠d):{t:Ty}→{m:Nat}→{x:t.den}→{o:Nat}→{cs:List Value}→MixF w L r m t x o cs→MixF w (newLab (rnF r d) w L nl) d m t x o cs:=by
 intro t
 induction t with
 | pair a b _ ih =>
  intro m x o cs h
  obtain ⟨c0,c1,h1,h2,h3⟩:=h
  exact ⟨c0,c1,h1,Own.move (SL.rn hI hrd (by simp) (by simp)) (fun k d rest _ hk=>⟨rn_own hI hk,rfl⟩) h2,ih h3⟩
 | _=>intro m x o cs h; simp only [MixF] at h ⊢; exact Own.move (SL.rn hI hrd (by simp) (by simp)) (fun k d rest _ hk=>⟨rn_own hI hk,rfl⟩) h
theorem OddRep.rn [Glob] {r d:Nat} {nl:Nat→Lab} (hI:Inv w0 L0 N vs T a w L) (hrd:r≠d) {k0 n:Nat} {t:Ty} {x:t.den} {c:Value} (h:OddRep w L r k0 n t x c):OddRep w (newLab (rnF r d) w L nl) d k0 n t x c:=by
 unfold OddRep at h ⊢
 split at h
 ·rcases h with h | ⟨g,cap,cur,h1,h2,h3,h4,h5,h6,h7⟩
  ·exact .inl h
  ·exact .inr ⟨g,cap,cur,h1,rn_own hI h2,h3,h4,h5,h6,fun j hj hx=>Own.move (SL.rn hI hrd (by simp) (by simp)) (fun k d rest _ hk=>⟨rn_own hI hk,rfl⟩) (h7 j hj hx)⟩
 ·obtain ⟨g,cur,e,h1,h2,h3,h4,h5⟩:=h
  exact ⟨g,cur,e,h1,rn_own hI h2,h3,h4,MixF.rn hI hrd h5⟩
 ·exact h.elim
theorem Inv.moveTo [Glob] (hI:Inv w0 L0 N vs T a w L) {t d:Nat} {v:V} (ht:T.getD t .dead=v) (hv:v.owns=true) (hst:∀ u p,v ≠ .hole u p) (hpt:∀ r i n t x,v ≠ .part r i n t x) (hd:d < N) (hid:(T.getD d .dead).idle=true)
  (hno:noOn t t T=true) (hrt:v.root≠some t) (hrd:v.root≠some d):∃ L',Inv w0 L0 N vs ((T.set t .dead).set d v) (a.put (some d) (a.tmps.getD t undef)) w L':=by
 have htd:t≠d:=idle_ne hid (by rw [ht]; exact hv)
 have hTd:((T.set t .dead).set d v).getD d .dead=v:=by rw [getD_set,if_pos ⟨rfl,by simp [hI.len,hd]⟩]
 have hTt:((T.set t .dead).set d v).getD t .dead = .dead:=by
  rw [getD_set,if_neg (fun h=>htd h.1),getD_set]
  split
  ·rfl
  ·rename_i h
   exact getD_out (Nat.le_of_not_lt fun hl=>h ⟨rfl,hl⟩)
 refine ⟨_,Inv.updF (f:=rnF t d) (X:=fun z=>z=t∨z=d) (nl:=fun _ => .free) hI (rnF_fun htd) (Wd.refl hI _) (fun _ _ _ _ _ h=>by cases h) (by simp [Act.put,hI.size]) (by simp [hI.len]) hI.dfr ?_ ?_ ?_ ?_ ?_⟩
 ·intro k z q hz h
  rcases hz with rfl | rfl
  ·unfold newLab at h
   split at h
   ·obtain ⟨s0,q0,e0,f0⟩:=relab_own h
    exfalso
    rcases rnF_key f0 with ⟨_,h1,_⟩ | ⟨_,h1,h2,_⟩
    ·exact htd h1
    ·exact h1 h2.symm
   ·cases h
  ·rw [hTd]; exact hv
 ·intro z r' hz hon hr'
  rcases hr' with rfl | rfl
  ·exact absurd hon (by rw [noOn_on hno z (fun h=>hz (.inl h))]; simp)
  ·exact V.not_owns hid
 ·intro z hz
  have hz':=not_or.1 hz
  rw [getD_set,if_neg (fun h=>hz'.2 h.1),getD_set,if_neg (fun h=>hz'.1 h.1)]
  refine ⟨rfl,?_⟩
  show (a.tmps.setIfInBounds d _).getD z undef=_
  rw [getD_setA,if_neg (fun h=>hz'.2 h.1)]
 ·intro z r' hz hon
  rcases hz with rfl | rfl
  ·rw [hTt] at hon; simp [V.on,V.root] at hon
  ·rw [hTd] at hon
   exact hI.roots t r' (by rw [ht]; exact hon)
 ·intro z hz
  rcases hz with rfl | rfl
  ·rw [hTt]; trivial
  ·rw [hTd]
   show SRep _ _ (a.tmps.setIfInBounds z (a.tmps.getD t undef)) z v w ((a.tmps.setIfInBounds z (a.tmps.getD t undef)).getD z undef)
   rw [getD_setA,if_pos ⟨rfl,by rw [hI.size]; exact hd⟩]
   have hs:=hI.slots t
   rw [ht] at hs
   have hdeep:∀ r',v.root=some r'→(T.getD r' .dead).deep=true→(((T.set t .dead).set z v).getD r' .dead).deep=true:=by
    intro r' hr' h
    have h1:r'≠z:=idle_ne hid (V.owns_of_deep h)
    have h2:r'≠t:=fun e=>hrt (by rw [hr',e])
    rw [getD_set,if_neg (fun h=>h1 h.1),getD_set,if_neg (fun h=>h2 h.1)]
    exact h
   cases v with
   | d l n t' x =>
    obtain ⟨h0,cs,hf,ho⟩:=hs
    exact ⟨fun r hr=>hdeep r hr (h0 r hr),cs,hf,Own.move (SL.rn hI htd hrt hrd) (fun k i rest _ hk=>⟨rn_own hI hk,rfl⟩) ho⟩
   | box l n t' x =>
    obtain ⟨h0,g,cur,e,h1,h2,h3,h4,h5⟩:=hs
    exact ⟨fun r hr=>hdeep r hr (h0 r hr),g,cur,e,h1,rn_own hI h2,h3,h4,Own.move (SL.rn hI htd hrt hrd) (fun k i rest _ hk=>⟨rn_own hI hk,rfl⟩) h5⟩
   | tup l =>
    obtain ⟨us,h1,h2⟩:=hs
    exact ⟨us,h1,TRep.rn hI htd h2⟩
   | hole u p=>exact absurd rfl (hst u p)
   | part r i n t x=>exact absurd rfl (hpt r i n t x)
   | odd k n t' x=>exact OddRep.rn hI htd hs
   | same r t'=>cases hv
   | dead=>cases hv
   | rp _ _ _=>cases hv
   | ptr _ _ _=>cases hv
   | view _ _ _=>cases hv
end
end Go.Proofs.YtkanidldnnfloaaGreat.P.Am
set_option linter.unusedVariables false
set_option linter.unusedSimpArgs false
namespace Go.Proofs.YtkanidldnnfloaaGreat.P.Am
structure Bd (t:Ty) where
 x:t.den
 n:Option Nat
 ms:List (Nat×Nat×Nat)
def minO:Option Nat→Option Nat→Option Nat
 | none,y=>y
 | x,none=>x
 | some a,some b=>some (min a b)
def partM (C:Ctx) (t:Ty) (o:Nat) (x:Operand):M (Bd t) :=
 (opnd C 0 x).bind fun v=>match v with
 | .d none n t' y=>if h:t'=t then
   if t.depth=0 then .ret ⟨h▸y,none,[]⟩
   else if n=0 then .ret ⟨h▸y,some 0,[]⟩
   else match x with
    | .tmp s => .ret ⟨h▸y,if t.depth≤n then none else some n,[(s,o,t.sz)]⟩
    | _ => .fail
  else .fail
 | _ => .fail
def fieldM (C:Ctx) (i o:Nat) (t:Ty) (parts:List (Nat×Operand)):M (Bd t×List (Nat×Operand)) :=
 match parts with
 | (j,x)::rest=>if j=i then (partM C t o x).bind fun b => .ret (b,rest) else .ret (⟨t.zero,none,[]⟩,parts)
 | [] => .ret (⟨t.zero,none,[]⟩,[])
def buildM (C:Ctx):(i o:Nat)→(t:Ty)→List (Nat×Operand)→M (Bd t)
 | i,o,.pair a b,parts=>(fieldM C i o a parts).bind fun p=>(buildM C (i+1) (o+a.sz) b p.2).bind fun r => .ret ⟨(p.1.x,r.x),minO p.1.n r.n,p.1.ms++r.ms⟩
 | i,o,t,parts=>(fieldM C i o t parts).bind fun p=>if p.2.isEmpty then .ret p.1 else .fail
section
variable {P:Program} {C:Ctx} {w w' w0:World} {S S':Nat→Prop} {L L' L0:Nat→Lab} {s N:Nat} {vs:List Nat} {T T':List V} {tm tm':Array Value} {a:Act}
def Went (L L':Nat→Lab) (d:Nat) (q:List Nat) (o0 m:Nat) (ms:List (Nat×Nat×Nat)):Prop :=
 ∀ src o sz,(src,o,sz)∈ms→∀ k y rest,y < sz→L k = .own src (y::rest)→(rest.length < m→L' k = .own d (q++(o0+o+y)::rest))∧(m≤rest.length→L' k = .stable)
theorem partM_own [Glob] (hI:Inv w0 L0 N vs T a w L) {t:Ty} {o:Nat} {x:Operand} {b:Bd t} {log:List Nat} (h:(partM C t o x).Runs T b log) :
  ∃ cs,Form t cs (a.eval x)∧(∀ v∈cs,v.oneCell'=true)∧cs.length=t.sz∧(∀ s o' sz,(s,o',sz)∈b.ms→o'=o∧sz=t.sz∧∃ n,T.getD s .dead = .d none n t b.x∧n≠0∧t.depth≠0)∧b.ms.length≤1 ∧
   ∀ (L':Nat→Lab) (w':World) d q o0 m,(∀ n,b.n=some n→m≤n)→(∀ k,L k = .stable→L' k = .stable)→(∀ k,L k ≠ .free→w'.heap[k]? = w.heap[k]?)→Went L L' d q o0 m b.ms →
    Own w' L' (SL L' none) d m t b.x q (o0+o) cs:=by
 obtain ⟨v,l1,l2,rfl,h1,h2⟩:=M.runs_bind h
 have hstab:∀ {L':Nat→Lab} {w':World},(∀ k,L k = .stable→L' k = .stable)→(∀ k,L k ≠ .free→w'.heap[k]? = w.heap[k]?)→∀ k,SL L none k→SL L' none k∧w'.heap[k]? = w.heap[k]? := by
  intro L' w' hs hw k hk
  rcases hk with hk | ⟨_,_,hk,_⟩
  ·exact ⟨.inl (hs k hk),hw k (by rw [hk]; simp)⟩
  ·cases hk
 split at h2
 ·rename_i n t' y
  split at h2
  ·rename_i ht
   subst ht
   have hrep:∃ s0,SRep L T a.tmps s0 (.d none n t' y) w (a.eval x)∧(∀ s,x = .tmp s→s0=s∧T.getD s .dead = .d none n t' y):=by
    have hc:∀ {x:Operand},(opnd C 0 x).Runs T (.d none n t' y) l1→(∀ s,x ≠ .tmp s)→∃ s0,SRep L T a.tmps s0 (.d none n t' y) w (a.eval x)∧(∀ s,x = .tmp s→s0=s∧T.getD s .dead = .d none n t' y):=by
     intro x h1 hx
     rcases opnd_rep hI h1 with ⟨s,rfl,hv,hs⟩ | ⟨_,hs⟩
     ·exact absurd rfl (hx s)
     ·exact ⟨0,hs _ _ _ _ _,fun s he=>absurd he (hx s)⟩
    cases x with
    | tmp s =>
     obtain ⟨_,_,hv,_⟩:=h1
     refine ⟨s,?_,fun s' he=>by cases he; exact ⟨rfl,hv.symm⟩⟩
     rw [hv]
     exact hI.slots s
    | const c=>exact hc h1 (by simp)
    | func f=>exact hc h1 (by simp)
    | global g=>exact hc h1 (by simp)
   obtain ⟨s0,⟨_,cs,hf,ho⟩,hx⟩:=hrep
   refine ⟨cs,hf,Own.one ho,Own.len ho,?_⟩
   split at h2
   ·rename_i hd
    obtain ⟨rfl,_⟩:=h2
    refine ⟨by simp,by simp,fun L' w' d q o0 m _ hs hw _ => ?_⟩
    exact Own.flat hd ho
   ·rename_i hd
    split at h2
    ·rename_i hn
     subst hn
     obtain ⟨rfl,_⟩:=h2
     refine ⟨by simp,by simp,fun L' w' d q o0 m hm hs hw _ => ?_⟩
     obtain rfl:m=0:=by have:=hm 0 rfl; omega
     exact Own.of_rd (Rd.move (hstab hs hw) (Own.rd0 ho))
    ·rename_i hn
     split at h2
     ·rename_i s
      obtain ⟨rfl,_⟩:=h2
      obtain ⟨rfl,hT⟩:=hx s rfl
      refine ⟨fun s o' sz hm => ?_,by simp,fun L' w' d q o0 m hm hs hw hwent => ?_⟩
      ·simp only [List.mem_singleton,Prod.mk.injEq] at hm
       obtain ⟨rfl,rfl,rfl⟩:=hm
       exact ⟨rfl,rfl,n,hT,hn,hd⟩
      ·have hmn:m≤n∨t'.depth≤n:=by
        by_cases hdn:t'.depth≤n
        ·exact .inr hdn
        ·exact .inl (hm n (by simp [hdn]))
       obtain ⟨k9,c9,ho9⟩:=Own.atLeast hmn ho
       refine Own.moveLow c9 (hstab hs hw) (fun k i rest hi hk => ?_) ho9
       have hk':L k = .own s0 (i::rest):=by simpa using hk
       have:=hwent s0 o t'.sz (by simp) k i rest hi hk'
       exact ⟨hw k (by rw [hk]; simp),this.1,fun h => .inl (this.2 h)⟩
     ·exact h2.elim
  ·exact h2.elim
 ·exact h2.elim
theorem fill_step {place:Nat→Option (Nat×Nat)} {cells:Array Value} {i off size:Nat} {v:Value} {rest:List (Nat×Value)} (hp:place i=some (off,size)) (hs:v.cells.size=size) (hb:off+size≤cells.size) :
  ∃ cells',Instr.fill place cells ((i,v)::rest)=Instr.fill place cells' rest∧cells'.size=cells.size∧(cells'.toList.drop off).take size=v.cells.toList ∧
   ∀ j,(j < off∨off+size≤j)→cells'[j]? = cells[j]? := by
 let cells':Array Value:=v.cells.zipIdx.foldl (fun cs (c,j)=>cs.setIfInBounds (off+j) c) cells
 have key:∀ (l:List (Value×Nat)) (cs:Array Value),(l.foldl (fun cs (c,j)=>cs.setIfInBounds (off+j) c) cs).size=cs.size:=by
  intro l
  induction l with
  | nil=>intro cs; rfl
  | cons c l ih=>intro cs; simp only [List.foldl_cons]; rw [ih]; simp
 have out:∀ (l:List (Value×Nat)) (cs:Array Value) (j:Nat),(∀ c∈l,off+c.2≠j)→(l.foldl (fun cs (c,j)=>cs.setIfInBounds (off+j) c) cs)[j]? = cs[j]? := by
  intro l
  induction l with
  | nil=>intro cs j _; rfl
  | cons c l ih =>
   intro cs j h
   simp only [List.foldl_cons]
   rw [ih _ _ (fun c' hc=>h c' (by simp [hc])),Array.getElem?_setIfInBounds,if_neg (h c (by simp))]
 have inn:∀ (l:List Value) (b:Nat) (cs:Array Value),off+b+l.length≤cs.size→∀ i,i < l.length→((l.zipIdx b).foldl (fun cs (c,j)=>cs.setIfInBounds (off+j) c) cs)[off+b+i]? = l[i]? := by
  intro l
  induction l with
  | nil=>intro b cs _ i hi; simp at hi
  | cons c l ih =>
   intro b cs hb i hi
   simp only [List.zipIdx_cons,List.foldl_cons]
   cases i with
   | zero =>
    rw [out]
    ·simp only [List.length_cons] at hb
     simp [Array.getElem?_setIfInBounds]
     omega
    ·intro c' hc
     have:=List.le_snd_of_mem_zipIdx hc
     omega
   | succ i =>
    simp only [List.length_cons] at hb hi
    have:=ih (b+1) (cs.setIfInBounds (off+b) c) (by simp; omega) i (by omega)
    rw [show off+(b+1)+i=off+b+(i+1) by omega] at this
    rw [this]
    simp
 refine ⟨cells',?_,?_,?_,?_⟩
 ·simp only [Instr.fill,hp]
  rw [if_neg (by simp only [Bool.or_eq_true,decide_eq_true_eq,ne_eq]; omega)]
 ·show (v.cells.zipIdx.foldl _ cells).size=_
  rw [← Array.foldl_toList]
  exact key _ _
 ·apply List.ext_getElem?
  intro j
  rw [List.getElem?_take]
  split
  ·rename_i hj
   rw [List.getElem?_drop]
   have:=inn v.cells.toList 0 cells (by simp; omega) j (by simp; omega)
   simp only [Nat.add_zero] at this
   rw [← this]
   show cells'.toList[off+j]? = _
   rw [Array.getElem?_toList]
   show (v.cells.zipIdx.foldl _ cells)[off+j]? = _
   rw [← Array.foldl_toList]
   congr 2
   simp
  ·rw [List.getElem?_eq_none (by simp; omega)]
 ·intro j hj
  show (v.cells.zipIdx.foldl _ cells)[j]? = _
  rw [← Array.foldl_toList]
  refine out _ _ _ (fun c hc => ?_)
  have h2:c.2 < v.cells.size:=by
   rw [Array.toList_zipIdx] at hc
   have:=List.snd_lt_of_mem_zipIdx hc
   simpa using this
  omega
end
end Go.Proofs.YtkanidldnnfloaaGreat.P.Am
set_option linter.unusedVariables false
set_option linter.unusedSimpArgs false
namespace Go.Proofs.YtkanidldnnfloaaGreat.P.Am
def Srt:Nat→List (Nat×Nat×Nat)→Prop
 | _,[]=>True
 | b,(_,o,sz)::ms=>b≤o∧Srt (o+sz) ms
section
variable {P:Program} {C:Ctx} {w w' w0:World} {S S':Nat→Prop} {L L' L0:Nat→Lab} {s N:Nat} {vs:List Nat} {T T':List V} {tm tm':Array Value} {a:Act}
def SrcOk (T:List V) (lo hi:Nat) (n:Option Nat) (ms:List (Nat×Nat×Nat)):Prop :=
 ∀ s o sz,(s,o,sz)∈ms→lo≤o∧o+sz≤hi∧∃ m t x,T.getD s .dead = .d none m t x∧m≠0∧t.depth≠0∧t.sz=sz∧n=n
structure Filled (T:List V) (a:Act) (w:World) (L:Nat→Lab) (place:Nat→Option (Nat×Nat)) (cells:Array Value) (vals:List (Nat×Value)) (o:Nat) (t:Ty) (b:Bd t) (cells':Array Value) (vals':List (Nat×Value)):Prop where
 fill:Instr.fill place cells vals=Instr.fill place cells' vals'
 size:cells'.size=cells.size
 out:∀ j,(j < o∨o+t.sz≤j)→cells'[j]? = cells[j]?
 src:SrcOk T o (o+t.sz) b.n b.ms
 srt:Srt o b.ms
 own:∀ (L':Nat→Lab) (w':World) d q o0 m,(∀ n,b.n=some n→m≤n)→(∀ k,L k = .stable→L' k = .stable)→(∀ k,L k ≠ .free→w'.heap[k]? = w.heap[k]?)→Went L L' d q o0 m b.ms →
  Own w' L' (SL L' none) d m t b.x q (o0+o) ((cells'.toList.drop o).take t.sz)
theorem fieldM_filled [Glob] (hI:Inv w0 L0 N vs T a w L) {i o:Nat} {t:Ty} {parts parts':List (Nat×Operand)} {b:Bd t} {log:List Nat} (h:(fieldM C i o t parts).Runs T (b,parts') log)
  {place:Nat→Option (Nat×Nat)} {cells:Array Value} (hp:place i=some (o,t.sz)) (hz:(cells.toList.drop o).take t.sz=t.zcells) (hb:o+t.sz≤cells.size) :
  ∃ cells',Filled T a w L place cells (parts.map fun p=>(p.1,a.eval p.2)) o t b cells' (parts'.map fun p=>(p.1,a.eval p.2)):=by
 have hzero:∀ {parts:List (Nat×Operand)},b=⟨t.zero,none,[]⟩→∃ cells',Filled T a w L place cells (parts.map fun p=>(p.1,a.eval p.2)) o t b cells' (parts.map fun p=>(p.1,a.eval p.2)):=by
  rintro parts rfl
  refine ⟨cells,rfl,rfl,fun _ _=>rfl,?_,trivial,fun L' w' d q o0 m _ _ _ _ => ?_⟩
  ·intro s o sz h; cases h
  ·rw [hz]; exact Own.zero
 unfold fieldM at h
 split at h
 ·rename_i j x rest
  split at h
  ·rename_i hj
   subst hj
   obtain ⟨b1,l1,l2,rfl,h1,h2⟩:=M.runs_bind h
   obtain ⟨h2,_⟩:=h2
   injection h2 with h2 h3
   subst h2 h3
   obtain ⟨cs,hf,hone,hlen,hsrc,hlen1,hown⟩:=partM_own hI h1
   have hc:=Form.cells hf hone
   obtain ⟨cells',k1,k2,k3,k4⟩:=fill_step (rest:=parts'.map fun p=>(p.1,a.eval p.2)) hp (by rw [← Array.length_toList,hc]; exact hlen) hb
   refine ⟨cells',k1,k2,k4,fun s o' sz hm => ?_,?_,fun L' w' d q o0 m e1 e2 e3 e4 => ?_⟩
   ·obtain ⟨rfl,rfl,n,hT,hn,hd⟩:=hsrc s o' sz hm
    exact ⟨Nat.le_refl _,Nat.le_refl _,n,t,_,hT,hn,hd,rfl,rfl⟩
   ·match hms:b.ms,hlen1 with
    | [],_=>trivial
    | [(s,o',sz)],_ =>
     obtain ⟨rfl,_⟩:=hsrc s o' sz (by rw [hms]; simp)
     exact ⟨Nat.le_refl _,trivial⟩
   ·rw [k3,hc]
    exact hown L' w' d q o0 m e1 e2 e3 e4
  ·obtain ⟨h,_⟩:=h
   injection h with h1 h2
   subst h2
   exact hzero h1
 ·obtain ⟨h,_⟩:=h
  injection h with h1 h2
  subst h2
  exact hzero h1
theorem minO_le {x y:Option Nat} {m n:Nat} (h:∀ n,minO x y=some n→m≤n) (hx:x=some n):m≤n:=by
 subst hx
 cases y with
 | none=>exact h n rfl
 | some k=>have:=h _ rfl; omega
theorem minO_le' {x y:Option Nat} {m n:Nat} (h:∀ n,minO x y=some n→m≤n) (hy:y=some n):m≤n:=by
 subst hy
 cases x with
 | none=>exact h n rfl
 | some k=>have:=h _ rfl; omega
theorem Srt.append {ms ms':List (Nat×Nat×Nat)} {b c:Nat} (h:Srt b ms) (hc:b≤c) (h1:∀ s o sz,(s,o,sz)∈ms→o+sz≤c) (h2:Srt c ms'):Srt b (ms++ms'):=by
 induction ms generalizing b with
 | nil =>
  cases ms' with
  | nil=>trivial
  | cons x l =>
   obtain ⟨s,o,sz⟩:=x
   exact ⟨Nat.le_trans hc h2.1,h2.2⟩
 | cons x l ih =>
  obtain ⟨s,o,sz⟩:=x
  refine ⟨h.1,ih h.2 (h1 s o sz (by simp)) (fun s o sz hm=>h1 s o sz (by simp [hm]))⟩
theorem SrcOk.mono {lo hi lo' hi':Nat} {n n':Option Nat} {ms:List (Nat×Nat×Nat)} (h:SrcOk T lo hi n ms) (h1:lo'≤lo) (h2:hi≤hi') (h3:∀ k,n=some k→∃ k',n'=some k'∧k'≤k):SrcOk T lo' hi' n' ms:=by
 intro s o sz hm
 obtain ⟨e1,e2,m,t,x,e3,e4,e5,e6,_⟩:=h s o sz hm
 exact ⟨by omega,by omega,m,t,x,e3,e4,e5,e6,rfl⟩
theorem minO_some {x y:Option Nat} {k:Nat} (h:x=some k):∃ k',minO x y=some k'∧k'≤k:=by
 subst h
 cases y with
 | none=>exact ⟨k,rfl,Nat.le_refl _⟩
 | some j=>exact ⟨min k j,rfl,by omega⟩
theorem minO_some' {x y:Option Nat} {k:Nat} (h:y=some k):∃ k',minO x y=some k'∧k'≤k:=by
 subst h
 cases x with
 | none=>exact ⟨k,rfl,Nat.le_refl _⟩
 | some j=>exact ⟨min j k,rfl,by omega⟩
theorem Went.left {d:Nat} {q:List Nat} {o0 m:Nat} {ms ms':List (Nat×Nat×Nat)} (h:Went L L' d q o0 m (ms++ms')):Went L L' d q o0 m ms:=fun s o sz hm=>h s o sz (List.mem_append_left _ hm)
theorem Went.right {d:Nat} {q:List Nat} {o0 m:Nat} {ms ms':List (Nat×Nat×Nat)} (h:Went L L' d q o0 m (ms++ms')):Went L L' d q o0 m ms':=fun s o sz hm=>h s o sz (List.mem_append_right _ hm)
theorem buildM_filled [Glob] (hI:Inv w0 L0 N vs T a w L) {place:Nat→Option (Nat×Nat)}:{t:Ty}→{i o:Nat}→{parts:List (Nat×Operand)}→{b:Bd t}→{log:List Nat}→{cells:Array Value} →
  (buildM C i o t parts).Runs T b log→(∀ j r,compT j t=some r→place (i+j)=some (o+r.1,r.2.sz))→(cells.toList.drop o).take t.sz=t.zcells→o+t.sz≤cells.size →
  ∃ cells',Filled T a w L place cells (parts.map fun p=>(p.1,a.eval p.2)) o t b cells' []
 | .pair ta tb,i,o,parts,b,log,cells,h,hp,hz,hb=>by
  simp only [buildM] at h
  obtain ⟨⟨b1,parts1⟩,l1,l2,rfl,h1,h2⟩:=M.runs_bind h
  obtain ⟨r,l3,l4,rfl,h3,h4⟩:=M.runs_bind h2
  obtain ⟨rfl,_⟩:=h4
  simp only [Ty.sz,Ty.zcells] at hb hz
  have hza:(cells.toList.drop o).take ta.sz=ta.zcells:=by
   have:=congrArg (List.take ta.sz) hz
   rw [List.take_take,Nat.min_eq_left (by omega),List.take_left' (Ty.zcells_len ta)] at this
   exact this
  have hzb:(cells.toList.drop (o+ta.sz)).take tb.sz=tb.zcells:=by
   have:=congrArg (List.drop ta.sz) hz
   rw [List.drop_take,List.drop_drop,List.drop_left' (Ty.zcells_len ta)] at this
   rw [← this]
   congr 1
   omega
  obtain ⟨c1,f1⟩:=fieldM_filled hI h1 (place:=place) (cells:=cells) (by have:=hp 0 _ rfl; simpa using this) hza (by omega)
  obtain ⟨c2,f2⟩:=buildM_filled hI (place:=place) (cells:=c1) h3 (fun j r hr=>by
   have:=hp (j+1) (ta.sz+r.1,r.2) (by simp [compT,hr])
   rw [show i+1+j=i+(j+1) by omega,this]
   simp only [Option.some.injEq,Prod.mk.injEq,and_true]
   omega) (by
    rw [take_drop_same (cur:=cells) (cur':=c1) (fun i h1 h2=>f1.out i (by omega))]
    exact hzb) (by rw [f1.size]; omega)
  refine ⟨c2,f1.fill.trans f2.fill,f2.size.trans f1.size,fun j hj => ?_,?_,?_,fun L' w' d q o0 m e1 e2 e3 e4 => ?_⟩
  ·simp only [Ty.sz] at hj
   rw [f2.out j (by omega),f1.out j (by omega)]
  ·intro s o' sz hm
   rcases List.mem_append.1 hm with hm | hm
   ·exact (f1.src.mono (Nat.le_refl _) (by simp only [Ty.sz]; omega) (fun k hk=>minO_some hk)) s o' sz hm
   ·exact (f2.src.mono (by omega) (by simp only [Ty.sz]; omega) (fun k hk=>minO_some' hk)) s o' sz hm
  ·exact f1.srt.append (by omega) (fun s o' sz hm=>(f1.src s o' sz hm).2.1) f2.srt
  ·simp only [Own,Ty.sz]
   refine ⟨(c2.toList.drop o).take ta.sz,(c2.toList.drop (o+ta.sz)).take tb.sz,?_,?_,?_⟩
   ·rw [← List.drop_drop,← List.take_add]
   ·rw [take_drop_same (cur:=c1) (cur':=c2) (fun i h1 h2=>f2.out i (by omega))]
    exact f1.own L' w' d q o0 m (fun n hn=>minO_le e1 hn) e2 e3 e4.left
   ·rw [Nat.add_assoc]
    exact f2.own L' w' d q o0 m (fun n hn=>minO_le' e1 hn) e2 e3 e4.right
 | .int _,i,o,parts,b,log,cells,h,hp,hz,hb | .bool,i,o,parts,b,log,cells,h,hp,hz,hb | .str,i,o,parts,b,log,cells,h,hp,hz,hb | .raw _,i,o,parts,b,log,cells,h,hp,hz,hb | .unit,i,o,parts,b,log,cells,h,hp,hz,hb | .agg _,i,o,parts,b,log,cells,h,hp,hz,hb | .slice _ _,i,o,parts,b,log,cells,h,hp,hz,hb=>by
  simp only [buildM] at h
  obtain ⟨⟨b1,parts1⟩,l1,l2,rfl,h1,h2⟩:=M.runs_bind h
  simp only at h2
  split at h2
  ·rename_i he
   obtain ⟨rfl,_⟩:=h2
   have:parts1=[]:=by simpa using he
   subst this
   exact fieldM_filled hI h1 (place:=place) (cells:=cells) (by have:=hp 0 _ rfl; simpa using this) hz hb
  ·exact h2.elim
end
end Go.Proofs.YtkanidldnnfloaaGreat.P.Am
set_option linter.unusedVariables false
set_option linter.unusedSimpArgs false
namespace Go.Proofs.YtkanidldnnfloaaGreat.P.Am
def gatherF (d:Nat) (q:List Nat) (o0 m:Nat) (ms:List (Nat×Nat×Nat)):Nat→List Nat→Lab:=fun s z =>
 match ms.find? (fun p=>p.1 == s) with
 | some p=>match z with
  | y::rest=>if y < p.2.2 then (if rest.length < m then .own d (q++(o0+p.2.1+y)::rest) else .stable) else .other
  | [] => .other
 | none=>if s=d then .other else .own s z
def setAll (T:List V) (ups:List (Nat×V)):List V:=ups.foldl (fun T u=>T.set u.1 u.2) T
def nodupB:List Nat→Bool
 | []=>true
 | x::l => !l.contains x && nodupB l
section
variable {P:Program} {C:Ctx} {w w' w0:World} {S S':Nat→Prop} {L L' L0:Nat→Lab} {s N:Nat} {vs:List Nat} {T T':List V} {tm tm':Array Value} {a:Act}
theorem find_mem {ms:List (Nat×Nat×Nat)} {s:Nat} {p:Nat×Nat×Nat} (h:ms.find? (fun p=>p.1 == s)=some p):p∈ms∧p.1=s:=by
 refine ⟨List.mem_of_find?_eq_some h,?_⟩
 have:=List.find?_some h
 simpa using this
theorem find_of_mem {ms:List (Nat×Nat×Nat)} (hn:nodupB (ms.map (·.1))=true) {p:Nat×Nat×Nat} (h:p∈ms):ms.find? (fun p'=>p'.1 == p.1)=some p:=by
 induction ms with
 | nil=>cases h
 | cons x l ih =>
  simp only [List.map_cons,nodupB,Bool.and_eq_true,Bool.not_eq_true'] at hn
  rcases List.mem_cons.1 h with rfl | h
  ·simp
  ·have hne:x.1≠p.1:=fun e=>by
    have:(l.map (·.1)).contains x.1=true:=by
     rw [List.contains_iff_mem,e]
     exact List.mem_map_of_mem h
    rw [hn.1] at this
    cases this
   rw [List.find?_cons_of_neg (by simpa using hne)]
   exact ih hn.2 h
theorem Srt.disj {ms:List (Nat×Nat×Nat)} {b:Nat} (h:Srt b ms) (hn:nodupB (ms.map (·.1))=true):∀ p p',p∈ms→p'∈ms→p.1≠p'.1→p.2.1+p.2.2≤p'.2.1∨p'.2.1+p'.2.2≤p.2.1:=by
 have lower:∀ {ms:List (Nat×Nat×Nat)} {b:Nat},Srt b ms→∀ p∈ms,b≤p.2.1:=by
  intro ms
  induction ms with
  | nil=>intro b _ p hp; cases hp
  | cons x l ih =>
   obtain ⟨s,o,sz⟩:=x
   intro b h p hp
   rcases List.mem_cons.1 hp with rfl | hp
   ·exact h.1
   ·have:=ih h.2 p hp
    have:=h.1
    omega
 induction ms generalizing b with
 | nil=>intro p p' hp; cases hp
 | cons x l ih =>
  obtain ⟨s,o,sz⟩:=x
  simp only [List.map_cons,nodupB,Bool.and_eq_true,Bool.not_eq_true'] at hn
  intro p p' hp hp' hne
  rcases List.mem_cons.1 hp with rfl | hp
  ·rcases List.mem_cons.1 hp' with rfl | hp'
   ·exact absurd rfl hne
   ·exact .inl (lower h.2 p' hp')
  ·rcases List.mem_cons.1 hp' with rfl | hp'
   ·exact .inr (lower h.2 p hp)
   ·exact ih h.2 hn.2 p p' hp hp' hne
theorem gatherF_key {d:Nat} {q:List Nat} {o0 m:Nat} {ms:List (Nat×Nat×Nat)} {s:Nat} {z:List Nat} {s':Nat} {z':List Nat} (h:gatherF d q o0 m ms s z = .own s' z') :
  (∃ p y rest,ms.find? (fun p=>p.1 == s)=some p∧z=y::rest∧y < p.2.2∧s'=d∧z'=q++(o0+p.2.1+y)::rest)∨(ms.find? (fun p=>p.1 == s)=none∧s≠d∧s'=s∧z'=z):=by
 unfold gatherF at h
 split at h
 ·rename_i p hp
  split at h
  ·split at h
   ·split at h
    ·injection h with h1 h2
     exact .inl ⟨p,_,_,hp,rfl,by assumption,h1.symm,h2.symm⟩
    ·cases h
   ·cases h
  ·cases h
 ·rename_i hp
  split at h
  ·cases h
  ·injection h with h1 h2
   exact .inr ⟨hp,by assumption,h1.symm,h2.symm⟩
theorem gatherF_fun [Glob] {d:Nat} {q:List Nat} {o0 m b:Nat} {ms:List (Nat×Nat×Nat)} (hs:Srt b ms) (hn:nodupB (ms.map (·.1))=true):Fun (gatherF d q o0 m ms) (fun s=>s=d∨s∈ms.map (·.1)):=by
 refine ⟨fun s z hX => ?_,fun s z s' z' hX h => ?_,fun s z s2 z2 s' z' h1 h2 => ?_,fun s z => ?_⟩
 ·have hX:=not_or.1 hX
  have:ms.find? (fun p=>p.1 == s)=none:=by
   rw [List.find?_eq_none]
   intro p hp he
   exact hX.2 (by rw [List.mem_map]; exact ⟨p,hp,by simpa using he⟩)
  simp [gatherF,this,hX.1]
 ·rcases gatherF_key h with ⟨_,_,_,_,_,_,rfl,_⟩ | ⟨h1,h2,rfl,_⟩
  ·exact .inl rfl
  ·exact hX
 ·rcases gatherF_key h1 with ⟨p,y,rest,hp,rfl,hy,rfl,rfl⟩ | ⟨hp,hd,rfl,rfl⟩
  ·rcases gatherF_key h2 with ⟨p',y',rest',hp',rfl,hy',_,he⟩ | ⟨_,hd2,h3,_⟩
   ·have he:=List.append_cancel_left he
    injection he with he1 he2
    subst he2
    obtain ⟨m1,e1⟩:=find_mem hp
    obtain ⟨m2,e2⟩:=find_mem hp'
    by_cases hne:p.1=p'.1
    ·have hpp:p=p':=by
      have f1:=find_of_mem hn m1
      have f2:=find_of_mem hn m2
      rw [hne] at f1
      rw [f1] at f2
      exact Option.some.inj f2
     subst hpp
     exact ⟨e1.symm.trans e2,by rw [show y=y' by omega]⟩
    ·have:=hs.disj hn p p' m1 m2 hne
     omega
   ·exact absurd h3.symm hd2
  ·rcases gatherF_key h2 with ⟨_,_,_,_,_,_,h3,_⟩ | ⟨_,_,h3,h4⟩
   ·exact absurd h3 hd
   ·exact ⟨h3,h4⟩
 ·unfold gatherF
  repeat' split
  all_goals simp
theorem gatherF_went [Glob] {d:Nat} {q:List Nat} {o0 m:Nat} {ms:List (Nat×Nat×Nat)} {nl:Nat→Lab} (hI:Inv w0 L0 N vs T a w L) (hn:nodupB (ms.map (·.1))=true) :
  Went L (newLab (gatherF d q o0 m ms) w L nl) d q o0 m ms:=by
 intro s o sz hm k y rest hy hk
 have hf:=find_of_mem hn hm
 have:newLab (gatherF d q o0 m ms) w L nl k=if rest.length < m then .own d (q++(o0+o+y)::rest) else .stable:=by
  rw [newLab_old hI (by rw [hk]; simp),hk]
  simp only [relab,gatherF,hf]
  rw [if_pos hy]
 refine ⟨fun h => ?_,fun h => ?_⟩
 ·rw [this,if_pos h]
 ·rw [this,if_neg (by omega)]
theorem getD_setAll [Glob] (ups:List (Nat×V)) (T:List V) (s:Nat) (h:s ∉ ups.map (·.1)):(setAll T ups).getD s .dead=T.getD s .dead:=by
 unfold setAll
 induction ups generalizing T with
 | nil=>rfl
 | cons u l ih =>
  simp only [List.map_cons,List.mem_cons,not_or] at h
  simp only [List.foldl_cons]
  rw [ih _ h.2,getD_set,if_neg (fun e=>h.1 e.1)]
theorem length_setAll (ups:List (Nat×V)) (T:List V):(setAll T ups).length=T.length:=by
 unfold setAll
 induction ups generalizing T with
 | nil=>rfl
 | cons u l ih=>simp only [List.foldl_cons]; rw [ih]; simp
theorem setAll_append (u1 u2:List (Nat×V)) (T:List V):setAll T (u1++u2)=setAll (setAll T u1) u2:=by
 simp [setAll,List.foldl_append]
theorem getD_deads [Glob] (ss:List Nat) (T:List V) (s:Nat) (h:s∈ss):(setAll T (ss.map fun s=>(s,V.dead))).getD s .dead = .dead:=by
 unfold setAll
 induction ss generalizing T with
 | nil=>cases h
 | cons x l ih =>
  simp only [List.map_cons,List.foldl_cons]
  by_cases hl:s∈l
  ·exact ih _ hl
  ·rcases List.mem_cons.1 h with rfl | h
   ·have:=getD_setAll (l.map fun s=>(s,V.dead)) (T.set s .dead) s (by simpa using hl)
    unfold setAll at this
    rw [this,getD_set]
    split
    ·rfl
    ·rename_i hh
     exact getD_out (Nat.le_of_not_lt fun hl=>hh ⟨rfl,hl⟩)
   ·exact absurd h hl
theorem Inv.gather [Glob] (hI:Inv w0 L0 N vs T a w L) {d:Nat} {q:List Nat} {o0 m b hi:Nat} {n:Option Nat} {ms:List (Nat×Nat×Nat)} {nl:Nat→Lab} {v:V} {c:Value} (hd:d < N) (hid:(T.getD d .dead).idle=true)
  (hs:Srt b ms) (hn:nodupB (ms.map (·.1))=true) (hsrc:SrcOk T b hi n ms) (hvs:∀ s,s∈ms.map (·.1)→s ∉ vs)
  (hw:Wd w w' L nl (fun s=>s=d∨s∈ms.map (·.1))) (hold:∀ k,k < w.heap.size→w'.heap[k]? = w.heap[k]?) (hnl:∀ k k' q',w.heap.size≤k→nl k = .own d q'→newLab (gatherF d q o0 m ms) w L nl k' = .own d q'→k=k') (hnd:∀ k s q',w.heap.size≤k→nl k = .own s q'→s=d)
  (hv:v.root=none) (hvo:∀ k q',newLab (gatherF d q o0 m ms) w L nl k = .own d q'→v.owns=true)
  (hr:∀ T' tm',SRep (newLab (gatherF d q o0 m ms) w L nl) T' tm' d v w' c) :
  Inv w0 L0 N vs (setAll T (ms.map (fun p=>(p.1,V.dead))++[(d,v)])) (a.put (some d) c) w' (newLab (gatherF d q o0 m ms) w L nl):=by
 have hdm:d ∉ ms.map (·.1):=fun h=>by
  obtain ⟨p,hp,rfl⟩:=List.mem_map.1 h
  obtain ⟨_,_,m',t,x,h1,h2,h3,_⟩:=hsrc p.1 p.2.1 p.2.2 hp
  rw [h1] at hid
  simp [V.idle,V.owns,h2,h3] at hid
 have hmm:ms.map (fun p=>(p.1,V.dead))=(ms.map (·.1)).map fun s=>(s,V.dead):=by simp [List.map_map]
 have hT:setAll T (ms.map (fun p=>(p.1,V.dead))++[(d,v)])=(setAll T ((ms.map (·.1)).map fun s=>(s,V.dead))).set d v:=by
  rw [setAll_append,hmm]; rfl
 have hlen:(setAll T ((ms.map (·.1)).map fun s=>(s,V.dead))).length=N:=by rw [length_setAll,hI.len]
 have hTd:(setAll T (ms.map (fun p=>(p.1,V.dead))++[(d,v)])).getD d .dead=v:=by
  rw [hT,getD_set,if_pos ⟨rfl,by rw [hlen]; exact hd⟩]
 have hTs:∀ s,s∈ms.map (·.1)→(setAll T (ms.map (fun p=>(p.1,V.dead))++[(d,v)])).getD s .dead = .dead:=by
  intro s hs
  rw [hT,getD_set,if_neg (fun e=>hdm (by rw [← e.1]; exact hs))]
  exact getD_deads _ _ _ hs
 have hno:(T.getD d .dead).owns=false:=V.not_owns hid
 refine Inv.updF (X:=fun s=>s=d∨s∈ms.map (·.1)) hI (gatherF_fun hs hn) hw ?_ (by simp [Act.put,hI.size]) (by rw [hT,List.length_set,hlen]) hI.dfr ?_ ?_ ?_ ?_ ?_
 ·intro k k' s q' hk h h'
  obtain rfl:=hnd k s q' hk h
  exact hnl k k' q' hk h h'
 ·intro k s q' hX h
  rcases hX with rfl | hX
  ·rw [hTd]; exact hvo k q' h
  ·exfalso
   unfold newLab at h
   split at h
   ·obtain ⟨s0,q0,e0,f0⟩:=relab_own h
    rcases gatherF_key f0 with ⟨_,_,_,_,_,_,rfl,_⟩ | ⟨h1,h2,rfl,_⟩
    ·exact hdm hX
    ·rw [List.find?_eq_none] at h1
     obtain ⟨p,hp,rfl⟩:=List.mem_map.1 hX
     exact h1 p hp (by simp)
   ·obtain rfl:=hnd k s q' (by omega) h
    exact hdm hX
 ·intro s r hX hon hr
  rcases hr with rfl | hr
  ·exact hno
  ·exact absurd (hI.roots s r hon) (hvs r hr)
 ·intro s hX
  have hX':=not_or.1 hX
  rw [hT,getD_set,if_neg (fun e=>hX'.1 e.1),getD_setAll _ _ _ (by simpa [List.map_map] using hX'.2)]
  refine ⟨rfl,?_⟩
  show (a.tmps.setIfInBounds d c).getD s undef=_
  rw [getD_setA,if_neg (fun e=>hX'.1 e.1)]
 ·intro s r hX hon
  rcases hX with rfl | hX
  ·rw [hTd] at hon
   simp [V.on,hv] at hon
  ·rw [hTs s hX] at hon
   simp [V.on,V.root] at hon
 ·intro s hX
  rcases hX with rfl | hX
  ·rw [hTd]
   show SRep _ _ _ _ _ _ ((a.tmps.setIfInBounds s c).getD s undef)
   rw [getD_setA,if_pos ⟨rfl,by rw [hI.size]; exact hd⟩]
   exact hr _ _
  ·rw [hTs s hX]; trivial
end
end Go.Proofs.YtkanidldnnfloaaGreat.P.Am
