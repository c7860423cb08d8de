/- A part of the proof: Am52, Am53. No conditions. -/
import Derived.Test.YtkanidldnnfloaaGreatPG7
import Derived.Shelf.GgSortFunc.InsertionK
import Derived.Shelf.SlSortCmp.NoneTotal
set_option linter.unusedVariables false
set_option linter.unusedSimpArgs false
namespace Go.Proofs.YtkanidldnnfloaaGreat.P.Am
open Go.Sort Go.Proofs Go.Shelf Go.RowKit
section
variable {P:Program} {ρ : Ren}
theorem sortWorldK_old {α:Type} [Inhabited α] {enc:α→List Value} {k:Nat} {w:World} {blk off m:Nat} {dk:Array α} {os:Array Obj} {i:Nat} (hi:i < w.heap.size) (hb:i≠blk) :
  (sortWorldK enc k w blk off m dk os).heap[i]? = w.heap[i]? := by
 unfold sortWorldK
 rw [heap_grow_old _ _ (by unfold putRowK; rw [size_putRow]; exact hi)]
 unfold putRowK putRow mapBlock
 simp only [Array.getElem?_modify,if_neg (Ne.symm hb)]
 rfl
theorem sortWorldK_row {α:Type} [Inhabited α] {enc:α→List Value} {k:Nat} {w:World} {blk off m:Nat} {dk:Array α} {os:Array Obj} {cur:Array Value} {e:TypeId} {fr:Nat×Nat} (h:w.heap[blk]? = some (.cells cur e fr)) :
  (sortWorldK enc k w blk off m dk os).heap[blk]? = some (.cells (Sort.putCells id off (flatK enc k dk) cur) e fr):=by
 have hb:blk < w.heap.size:=by
  rcases Nat.lt_or_ge blk w.heap.size with h1 | h1
  ·exact h1
  ·rw [Array.getElem?_eq_none h1] at h; cases h
 unfold sortWorldK
 rw [heap_grow_old _ _ (by unfold putRowK; rw [size_putRow]; exact hb)]
 unfold putRowK putRow mapBlock
 simp only [Array.getElem?_modify,if_true]
 rw [show (Sort.ahead w m).heap[blk]? = w.heap[blk]? from rfl,h]
 rfl
theorem sortWorldK_size {α:Type} [Inhabited α] {enc:α→List Value} {k:Nat} {w:World} {blk off m:Nat} {dk:Array α} {os:Array Obj}:(sortWorldK enc k w blk off m dk os).heap.size=w.heap.size+os.size:=by
 unfold sortWorldK
 rw [size_grow]
 unfold putRowK
 rw [size_putRow]
 rfl
theorem row_win {α:Type} [Inhabited α] {enc:α→List Value} {k:Nat} (hk:∀ x,(enc x).length=k) {dk:Array α} {cur:Array Value} (hc:dk.size*k≤cur.size) {j:Nat} (hj:j < dk.size) :
  ((Sort.putCells id 0 (flatK enc k dk) cur).toList.drop (j*k)).take k=enc dk[j]! := by
 apply List.ext_getElem?
 intro i
 by_cases hi:i < k
 ·have hb:j*k+i < dk.size*k:=by
   have:=Nat.mul_le_mul_right k (show j+1≤dk.size from hj)
   rw [Nat.add_mul,Nat.one_mul] at this; omega
  rw [win_at hi,Array.getElem?_toList]
  unfold Sort.putCells
  rw [Array.getElem?_mapIdx,Array.getElem?_eq_getElem (show j*k+i < cur.size by omega),Option.map_some,if_pos ⟨Nat.zero_le _,by rw [size_flatK]; omega⟩,Nat.sub_zero,get_flatK _ _ _ _ hb]
  have e1:(j*k+i) / k=j:=(blk_iff k j _ (by omega)).1 ⟨by omega,by omega⟩
  have e2:(j*k+i) % k=i:=by rw [Nat.mod_eq_sub_div_mul,e1]; omega
  rw [e1,e2,List.getElem?_eq_getElem (by rw [hk]; exact hi),List.getElem!_eq_getElem?_getD,List.getElem?_eq_getElem (by rw [hk]; exact hi)]
  rfl
 ·rw [List.getElem?_eq_none (by rw [List.length_take]; omega),List.getElem?_eq_none (by rw [hk]; omega)]
def cmpOf (u:Ty) (sem2:(pTy [(.agg u,.ro),(.agg u,.ro)]).den→Option (Ty.pair (rTy [(.int .i64,0)]) (mTy [(.agg u,.ro),(.agg u,.ro)])).den) (a b:u.den):Int :=
 match sem2 (a,(b,())) with
 | some r=>r.1.1
 | none=>0
noncomputable def sortSem (e:TypeId) (u:Ty) (n:Nat) (g:FuncId) (sem2:(pTy [(.agg u,.ro),(.agg u,.ro)]).den→Option (Ty.pair (rTy [(.int .i64,0)]) (mTy [(.agg u,.ro),(.agg u,.ro)])).den) :
  (pTy [(.slice e (.agg u),.mut n),(.raw 1,.ro)]).den→Option (Ty.pair (rTy []) (mTy [(.slice e (.agg u),.mut n),(.raw 1,.ro)])).den :=
 fun x=>open Classical in
  if x.2.1=Value.func (.func g) #[] #[]∧((∀ a∈(x.1:List u.den),∀ b∈(x.1:List u.den),sem2 (a,(b,()))=some ((cmpOf u sem2 a b,()),()))∧OrdOn (fun a=>a∈(x.1:List u.den)) (cmpOf u sem2))∧(x.1:List u.den).length < 4611686018427387904
  then some ((),(sortBy (cmpOf u sem2) (x.1:List u.den),())) else none
theorem perm_index {n:Nat} {d':Array (Fin n)} (hp:d'.toList.Perm (List.finRange n)):d'.size=n∧(∀ j (h:j < d'.size),d'.toList.idxOf d'[j]=j)∧∀ e:Fin n,d'.toList.idxOf e < n∧∃ h:d'.toList.idxOf e < d'.size,d'[d'.toList.idxOf e]=e:=by
 have hs:d'.size=n:=by have:=hp.length_eq; simpa using this
 have hnd:d'.toList.Nodup:=hp.nodup_iff.2 (List.nodup_finRange n)
 refine ⟨hs,fun j h => ?_,fun e => ?_⟩
 ·have:=hnd.idxOf_getElem j (by simpa using h)
  simpa using this
 ·have hm:e∈d'.toList:=hp.mem_iff.2 (List.mem_finRange e)
  have:=List.idxOf_lt_length_of_mem hm
  refine ⟨by simpa [hs] using this,by simpa using this,?_⟩
  rw [← Array.getElem_toList]
  exact List.getElem_idxOf this
end
end Go.Proofs.YtkanidldnnfloaaGreat.P.Am
set_option linter.unusedVariables false
set_option linter.unusedSimpArgs false
namespace Go.Proofs.YtkanidldnnfloaaGreat.P.Am
open Go.Sort Go.Proofs Go.Shelf Go.RowKit
section
variable {P:Program} {ρ : Ren}
theorem writeM [Glob] {w:World} {L0:Nat→Lab} {t1 t2:Ty} {n:Nat} (h:Legit w L0 [(t1,.mut n),(t2,.ro)]) {k s:Nat} {q:List Nat} (hk:L0 k = .own s q):∃ t m,([(t1,Mode.mut n),(t2,.ro)]:List (Ty×Mode))[s]? = some (t,m)∧m.back=true:=by
 obtain ⟨t,m,h1,h2 | ⟨n',rfl⟩⟩:=h.write hk
 ·exact ⟨t,m,h1,h2⟩
 ·match s,h1 with
  | 0,h1=>simp at h1
  | 1,h1=>simp at h1
  | s+2,h1=>simp at h1
def sortLab (w w':World) (L0:Nat→Lab) (sz:Nat) (pos:Nat→Nat):Nat→Lab:=fun k =>
 if k < w.heap.size then match L0 k with
  | .own 0 (0::o::rest) => .own 0 (0::(pos (o / sz)*sz+o % sz)::rest)
  | l=>l
 else if k < w'.heap.size then .other else .free
theorem sortLab_else {w w':World} {L0:Nat→Lab} {sz:Nat} {pos:Nat→Nat} {k:Nat} (hk:k < w.heap.size) (h:∀ o rest,L0 k ≠ .own 0 (0::o::rest)):sortLab w w' L0 sz pos k=L0 k:=by
 unfold sortLab
 rw [if_pos hk]
 split
 ·rename_i o rest h1
  exact absurd h1 (h o rest)
 ·rfl
theorem sortLab_in {w w':World} {L0:Nat→Lab} {sz:Nat} {pos:Nat→Nat} {k o:Nat} {rest:List Nat} (hk:k < w.heap.size) (h:L0 k = .own 0 (0::o::rest)) :
  sortLab w w' L0 sz pos k = .own 0 (0::(pos (o / sz)*sz+o % sz)::rest):=by
 unfold sortLab
 rw [if_pos hk,h]
 rfl
theorem sortLab_own {w w':World} {L0:Nat→Lab} {sz:Nat} {pos:Nat→Nat} {k s:Nat} {q:List Nat} (h:sortLab w w' L0 sz pos k = .own s q) :
  k < w.heap.size∧((∃ o rest,s=0∧L0 k = .own 0 (0::o::rest)∧q=0::(pos (o / sz)*sz+o % sz)::rest)∨(L0 k = .own s q∧∀ o rest,L0 k ≠ .own 0 (0::o::rest))):=by
 unfold sortLab at h
 split at h
 ·rename_i hk
  refine ⟨hk,?_⟩
  split at h
  ·rename_i o rest h1
   injection h with h2 h3
   exact .inl ⟨o,rest,h2.symm,h1,h3.symm⟩
  ·rename_i h1
   exact .inr ⟨h,fun o rest e=>h1 o rest e⟩
 ·split at h <;> cases h
theorem sort_ok [Glob] (L:SlLaysF0.n6 P ρ) {e:TypeId} {u:Ty} {n:Nat} {g:FuncId} (hsz:u.sz≠0) (hn:u.depth+1≤n)
  (aE:∀ w,(isAgg (ρ.t 24)).run P w = .ok true w) (zE:∀ w,(Go.sizeOf (ρ.t 24)).run P w = .ok u.sz w)
  (hf : ∃ fn, P.funcs[ρ.f 6]? = some fn ∧ (fn.name == "runtime.NumGoroutine") = false ∧ fn.body.isNone = false)
  (eg:∀ args w,(callFunc g args).run P w = .ok (.enter g args) w)
  {sem2:(pTy [(.agg u,.ro),(.agg u,.ro)]).den→Option (Ty.pair (rTy [(.int .i64,0)]) (mTy [(.agg u,.ro),(.agg u,.ro)])).den}
  (hg:FnOk P g ⟨[(.agg u,.ro),(.agg u,.ro)],[(.int .i64,0)],sem2⟩) :
  FnOk P (ρ.f 6) ⟨[(.slice e (.agg u),.mut n),(.raw 1,.ro)],[],sortSem e u n g sem2⟩:=by
 refine ⟨hf,fun x r hr w L0 args hl ha => ?_⟩
 obtain ⟨xs,fv,un⟩:=x
 change List u.den at xs
 change sortSem e u n g sem2 (xs,fv,un)=some r at hr
 unfold sortSem at hr
 dsimp only at hr
 split at hr
 case isFalse=>cases hr
 rename_i hc
 injection hr with hr
 subst hr
 obtain ⟨hfv,⟨hcf,hO⟩,hlen⟩:=hc
 have hV:∀ a∈xs,a∈xs:=fun _ h=>h
 simp only [ArgsRep] at ha
 obtain ⟨c1,cs',cells,hargs,h1,h2,c2,cs2,cells2,rfl,h3,h4,rfl⟩:=ha
 have hc1:cells=[c1]:=h1
 have hc2:cells2=[c2]:=h3
 subst hc1 hc2
 simp only [Own] at h4
 have hfc:c2=Value.func (.func g) #[] #[]:=by rw [(List.cons.inj h4.1).1]; exact hfv
 subst hfc
 have hae:args = #[c1,.func (.func g) #[] #[]]:=by rw [← Array.toArray_toList (xs:=args),hargs]
 obtain ⟨n',rfl⟩:∃ n',n=n'+1:=⟨n - 1,by omega⟩
 by_cases hne:xs=[]
 ·subst hne
  have hsh:∃ p cap,c1 = .slice p 0 cap:=by
   simp only [Mode.dep,Own] at h2
   rcases h2 with ⟨h2,_⟩ | ⟨g1,cap,cur,h2,_⟩
   ·exact ⟨none,0,(List.cons.inj h2).1⟩
   ·exact ⟨_,cap,(List.cons.inj h2).1⟩
  obtain ⟨p,cap,rfl⟩:=hsh
  rw [hae]
  refine Calls.mono (AnyF.slices_SortFunc_none L p cap _ w) ?_
  rintro e1 w' ⟨rfl,rfl⟩
  refine ⟨[],L0,rfl,⟨rfl,rfl,rfl,Nat.le_refl _,Nat.le_refl _,fun _ _ _=>⟨rfl,rfl⟩,hl.free,hl.inj,fun k s q h => .inr ?_⟩,rfl,?_⟩
  ·exact writeM hl h
  ·refine ⟨_,_,_,rfl,rfl,?_,_,_,rfl,rfl⟩
   have e0:sortBy (cmpOf u sem2) ([]:List u.den)=[]:=List.Perm.eq_nil (sortBy_perm (cmpOf u sem2) [])
   have key:∀ ys:List u.den,ys=[]→Own w' L0 (fun k=>L0 k = .stable) 0 (n'+1) (.slice e (.agg u)) ys [] 0 [.slice p 0 cap]:=fun ys h=>by subst h; exact h2
   exact key _ e0
 ·simp only [Mode.dep,Own] at h2
  rcases h2 with ⟨_,h2⟩ | ⟨g1,cap,cur,hc,hLg,hgw,hcap,hmax,hcur,hel⟩
  ·exact absurd h2 hne
  have hc1:=(List.cons.inj hc).1
  subst hc1
  rw [hae]
  have hlt:∀ {k},L0 k ≠ .free→k < w.heap.size:=fun {k} h=>Nat.lt_of_not_le fun hk=>h (hl.free k hk)
  have hgs:g1 < w.heap.size:=hlt (by rw [hLg]; simp)
  haveI:Inhabited (Fin xs.length):=⟨⟨0,List.length_pos_iff.2 hne⟩⟩
  let enc:Fin xs.length→List Value:=fun j=>(cur.toList.drop (j.1*u.sz)).take u.sz
  have hel':∀ j:Fin xs.length,Own w L0 (fun k=>L0 k = .stable) 0 n' (.agg u) xs[j] [0] (j.1*u.sz) (enc j):=fun j=>hel j.1 j.2
  have hk:∀ j,(enc j).length=u.sz:=fun j=>(hel' j).len
  have hone:∀ j,∀ v∈enc j,v.oneCell'=true:=fun j=>(hel' j).one
  let d:Array (Fin xs.length):=Array.ofFn (fun j=>j)
  have hds:d.size=xs.length:=by simp [d]
  have hdj:∀ j (h:j < xs.length),d[j]! = ⟨j,h⟩:=fun j h=>by
   rw [getElem!_pos d j (by rw [hds]; exact h)]; simp [d]
  have hfit:xs.length*u.sz≤cur.size:=by rw [hcur]; exact Nat.mul_le_mul_right _ hcap
  have hH:HoldsK enc u.sz w g1 0 d:=by
   intro t ht
   rw [size_flatK,hds] at ht
   have hj:t / u.sz < xs.length:=(Nat.div_lt_iff_lt_mul (by omega)).2 ht
   have hm:t % u.sz < u.sz:=Nat.mod_lt _ (by omega)
   have e2:t / u.sz*u.sz+t % u.sz=t:=by rw [Nat.mul_comm]; exact Nat.div_add_mod t u.sz
   rw [get_flatK _ _ _ _ (by rw [hds]; exact ht),hdj _ hj]
   refine ⟨?_,?_⟩
   ·have h6:(enc ⟨t / u.sz,hj⟩)[t % u.sz]? = cur[t]? := by
     show ((cur.toList.drop (t / u.sz*u.sz)).take u.sz)[t % u.sz]? = _
     rw [win_at hm,e2,Array.getElem?_toList]
    have h7:t < cur.size:=by omega
    simp only [World.cell?,hgw,Nat.zero_add,Option.isSome_none,Bool.false_eq_true,if_false,id]
    rw [List.getElem!_eq_getElem?_getD,h6,Array.getElem?_eq_getElem h7]
    rfl
   ·simp [World.frozen?,hgw]
  have hrd:∀ j:Fin xs.length,Rd w (fun k=>k < w.heap.size∧k≠g1) u xs[j] (enc j):=fun j=>by
   have:=Own.moveLow (w':=w) (L':=L0) (S':=fun k=>k < w.heap.size∧k≠g1) (s':=0) (q2:=[0]) (o2:=0) (Nat.zero_le _) (fun k hk=>⟨⟨hlt (by rw [hk]; simp),fun h=>by rw [h,hLg] at hk; cases hk⟩,rfl⟩)
    (fun k dd rest _ hk=>⟨rfl,fun h=>absurd h (by omega),fun _=>⟨hlt (by rw [hk]; simp),fun h=>by rw [h,hLg] at hk; simp at hk⟩⟩) (hel' j)
   exact Own.rd0 (t := .agg u) this
  have hcmp:CmpLays P g #[] enc u.sz (fun x y=>cmpOf u sem2 xs[x] xs[y]) g1 0 d.size w:=by
   intro m os dk hdk x y
   have hm:∀ k,(k < w.heap.size∧k≠g1)→k < (sortWorldK enc u.sz w g1 0 m dk os).heap.size∧(sortWorldK enc u.sz w g1 0 m dk os).heap[k]? = w.heap[k]? := fun k hk =>
    ⟨by rw [sortWorldK_size]; omega,sortWorldK_old hk.1 hk.2⟩
   have:=reads_grow hg (Rd.move hm (hrd x)) (Rd.move hm (hrd y)) (hcf _ (List.getElem_mem _) _ (List.getElem_mem _))
    (Glob.keep hl.glob fun k hk h0=>by
     have hne:k≠g1:=fun h=>by rw [h,hLg] at h0; rcases h0 with h0 | h0 <;> cases h0
     have:=hm k ⟨hk,hne⟩
     exact ⟨.inl (if_pos this.1),this.2⟩)
   simpa using this
  have hord:SWO (ltOf fun x y:Fin xs.length=>cmpOf u sem2 xs[x] xs[y]):=by
   have hv:∀ j:Fin xs.length,xs[j]∈xs:=fun j=>hV _ (List.getElem_mem _)
   refine ⟨fun x => ?_,fun x y z h1 h2 => ?_,fun x y z h1 h2 => ?_⟩
   ·simp only [ltOf,decide_eq_false_iff_not]; exact hO.irrefl _ (hv x)
   ·simp only [ltOf,decide_eq_true_eq] at h1 h2 ⊢; exact hO.trans _ _ _ (hv x) (hv y) (hv z) h1 h2
   ·simp only [ltOf,decide_eq_false_iff_not] at h1 h2 ⊢; exact hO.ntrans _ _ _ (hv x) (hv y) (hv z) h1 h2
  have main:=AnyQ.slices_SortFunc L u.sz aE zE enc hk hone _ hord g #[] g1 0 cap d w eg hcmp hH hgs (by rw [hds]; exact hlen)
  rw [hds] at main
  refine Calls.mono main ?_
  rintro e1 w' ⟨rfl,d',m,os,hp,hs,rfl⟩
  obtain ⟨hp1,_,hp2⟩:=hp
  have hd's:d'.size=xs.length:=hp1.trans hds
  have hperm:d'.toList.Perm (List.finRange xs.length):=by
   have ea:d'.extract 0 xs.length=d':=Array.extract_eq_self_of_le (by omega)
   have eb:d.extract 0 xs.length=d:=Array.extract_eq_self_of_le (by omega)
   rw [ea,eb] at hp2
   have ec:d.toList=List.finRange xs.length:=by simp [d,List.finRange]
   rw [← ec]
   exact hp2
  obtain ⟨_,hpos1,hpos2⟩:=perm_index hperm
  have hys:d'.toList.map (fun j=>xs[j])=sortBy (cmpOf u sem2) xs:=by
   refine sortBy_unique hO hV ?_ ?_
   ·have:=hperm.map (fun j:Fin xs.length=>xs[j])
    refine this.trans (List.Perm.of_eq ?_)
    apply List.ext_getElem
    ·simp
    ·intro i h1 h2; simp
   ·rw [List.pairwise_map,List.pairwise_iff_getElem]
    intro i j hi hj hij
    have hi':i < d'.size:=by simpa using hi
    have hj':j < d'.size:=by simpa using hj
    have:=hs i j (Nat.zero_le _) hij (by omega)
    rw [getElem!_pos d' j hj',getElem!_pos d' i hi'] at this
    simpa [ltOf] using this
  let pos:Nat→Nat:=fun e=>if h:e < xs.length then d'.toList.idxOf ⟨e,h⟩ else e
  have posj:∀ j (h:j < d'.size),pos d'[j].1=j:=fun j h=>by
   show (if h:_ then _ else _)=j
   rw [dif_pos d'[j].2]
   exact hpos1 j h
  have posi:∀ a b,pos a=pos b→a=b:=fun a b hab=>by
   have hab:(if h:a < xs.length then d'.toList.idxOf ⟨a,h⟩ else a)=(if h:b < xs.length then d'.toList.idxOf ⟨b,h⟩ else b):=hab
   by_cases ha:a < xs.length
   ·obtain ⟨a1,a2,a3⟩:=hpos2 ⟨a,ha⟩
    by_cases hb:b < xs.length
    ·obtain ⟨b1,b2,b3⟩:=hpos2 ⟨b,hb⟩
     rw [dif_pos ha,dif_pos hb] at hab
     have:(⟨a,ha⟩:Fin xs.length)=⟨b,hb⟩:=by rw [← a3,← b3]; congr 1
     exact congrArg (·.1) this
    ·rw [dif_pos ha,dif_neg hb] at hab
     omega
   ·by_cases hb:b < xs.length
    ·obtain ⟨b1,b2,b3⟩:=hpos2 ⟨b,hb⟩
     rw [dif_neg ha,dif_pos hb] at hab
     omega
    ·rw [dif_neg ha,dif_neg hb] at hab
     exact hab
  have hmix:∀ o o',pos (o / u.sz)*u.sz+o % u.sz=pos (o' / u.sz)*u.sz+o' % u.sz→o=o':=fun o o' h=>by
   have m1:=Nat.mod_lt o (show u.sz > 0 by omega)
   have m2:=Nat.mod_lt o' (show u.sz > 0 by omega)
   have e1:(pos (o / u.sz)*u.sz+o % u.sz) / u.sz=pos (o / u.sz):=by
    rw [Nat.mul_comm,Nat.mul_add_div (by omega),Nat.div_eq_of_lt m1,Nat.add_zero]
   have e2:(pos (o' / u.sz)*u.sz+o' % u.sz) / u.sz=pos (o' / u.sz):=by
    rw [Nat.mul_comm,Nat.mul_add_div (by omega),Nat.div_eq_of_lt m2,Nat.add_zero]
   have e3:=posi _ _ (e1.symm.trans ((congrArg (· / u.sz) h).trans e2))
   rw [e3] at h
   have h':o % u.sz=o' % u.sz:=by omega
   rw [← Nat.div_add_mod o u.sz,← Nat.div_add_mod o' u.sz,e3,h']
  refine ⟨[],sortLab w (sortWorldK enc u.sz w g1 0 m d' os) L0 u.sz pos,rfl,⟨rfl,rfl,rfl,?_,?_,fun k hk h0 => ?_,fun k hk => ?_,fun k k' s q e e' => ?_,fun k s q h => .inr ?_⟩,rfl,?_⟩
  ·rw [sortWorldK_size]; omega
  ·show w.drawn≤w.drawn+m; omega
  ·refine ⟨sortLab_else hk (fun o rest h => ?_),sortWorldK_old hk (fun h => ?_)⟩
   ·rcases h0 with h0 | h0 <;> rw [h0] at h <;> cases h
   ·rw [h,hLg] at h0; rcases h0 with h0 | h0 <;> cases h0
  ·have hz:=hk
   rw [sortWorldK_size] at hz
   unfold sortLab
   rw [if_neg (by omega),if_neg (by omega)]
  ·obtain ⟨_,h1⟩:=sortLab_own e
   obtain ⟨_,h2⟩:=sortLab_own e'
   rcases h1 with ⟨o,rest,rfl,h3,rfl⟩ | ⟨h3,h4⟩
   ·rcases h2 with ⟨o',rest',_,h5,h6⟩ | ⟨h5,h6⟩
    ·simp only [List.cons.injEq,true_and] at h6
     obtain ⟨h7,rfl⟩:=h6
     rw [hmix _ _ h7] at h3
     exact hl.inj _ _ _ _ h3 h5
    ·exact absurd h5 (h6 _ _)
   ·rcases h2 with ⟨o',rest',rfl,h5,rfl⟩ | ⟨h5,h6⟩
    ·exact absurd h3 (h4 _ _)
    ·exact hl.inj _ _ _ _ h3 h5
  ·obtain ⟨_,h1⟩:=sortLab_own h
   rcases h1 with ⟨o,rest,rfl,h3,rfl⟩ | ⟨h3,_⟩
   ·exact writeM hl h3
   ·exact writeM hl h3
  ·refine ⟨_,_,[_],rfl,rfl,?_,_,_,rfl,rfl⟩
   simp only [Own]
   have hlen2:(sortBy (cmpOf u sem2) xs).length=xs.length:=(sortBy_perm (cmpOf u sem2) xs).length_eq
   refine .inr ⟨g1,cap,_,by rw [hlen2],?_,sortWorldK_row hgw,by rw [hlen2]; exact hcap,hmax,by simp [Sort.putCells,hcur],fun j hj => ?_⟩
   ·rw [sortLab_else hgs (fun o rest h=>by rw [hLg] at h; simp at h)]
    exact hLg
   ·have hjn:j < xs.length:=by rw [← hlen2]; exact hj
    have hjd:j < d'.size:=by rw [hd's]; exact hjn
    have he:(sortBy (cmpOf u sem2) xs)[j]=xs[d'[j]]:=by
     rw [List.getElem_of_eq hys.symm hj,List.getElem_map,Array.getElem_toList]
    have hw:=row_win (enc:=enc) hk (dk:=d') (cur:=cur) (by rw [hd's]; exact hfit) hjd
    rw [getElem!_pos d' j hjd] at hw
    have hmv:=Own.move (w':=sortWorldK enc u.sz w g1 0 m d' os) (L':=sortLab w (sortWorldK enc u.sz w g1 0 m d' os) L0 u.sz pos) (S':=fun k=>sortLab w (sortWorldK enc u.sz w g1 0 m d' os) L0 u.sz pos k = .stable) (s':=0) (q2:=[0]) (o2:=j*u.sz)
     (fun k hk=>by
      have hk:L0 k = .stable:=hk
      have hks:k < w.heap.size:=hlt (by rw [hk]; simp)
      exact ⟨by rw [sortLab_else hks (fun o rest h=>by rw [hk] at h; cases h)]; exact hk,sortWorldK_old hks (fun h=>by rw [h,hLg] at hk; cases hk)⟩)
     (fun k dd rest hd hk=>by
      have hks:k < w.heap.size:=hlt (by rw [hk]; simp)
      refine ⟨?_,sortWorldK_old hks (fun h=>by rw [h,hLg] at hk; simp at hk)⟩
      have hdd:dd < u.sz:=hd
      rw [sortLab_in hks hk]
      have e1:(d'[j].1*u.sz+dd) / u.sz=d'[j].1:=by rw [Nat.mul_comm,Nat.mul_add_div (by omega),Nat.div_eq_of_lt hdd,Nat.add_zero]
      have e2:(d'[j].1*u.sz+dd) % u.sz=dd:=by rw [Nat.mul_comm,Nat.mul_add_mod,Nat.mod_eq_of_lt hdd]
      rw [e1,e2,posj j hjd]
      rfl) (hel' d'[j])
    have hgoal:Own (sortWorldK enc u.sz w g1 0 m d' os) (sortLab w (sortWorldK enc u.sz w g1 0 m d' os) L0 u.sz pos) (fun k=>sortLab w (sortWorldK enc u.sz w g1 0 m d' os) L0 u.sz pos k = .stable) 0 n' (.agg u) (sortBy (cmpOf u sem2) xs)[j] [0] (j*u.sz) (((Sort.putCells id 0 (flatK enc u.sz d') cur).toList.drop (j*u.sz)).take u.sz):=by
     rw [he,hw]
     exact hmv
    exact hgoal
end
end Go.Proofs.YtkanidldnnfloaaGreat.P.Am
