/- A part of the proof: Am48, Am49, Am57, Am58, Am60, Am54, Am55, Am59. No conditions. -/
import Derived.Test.YtkanidldnnfloaaGreatPG5
set_option linter.unusedVariables false
set_option linter.unusedSimpArgs false
namespace Go.Proofs.YtkanidldnnfloaaGreat.P.Am
structure PlaceArg where
 i:Nat
 r:Nat
 p:List St
 u:V
 n':Nat
 t:Ty
def argAtM (t:Ty) (n:Nat) (x:Operand):M (t.den×Nat×List St×V×Nat) :=
 match x with
 | .tmp s => .get s fun v=>match v with
  | .view r p tv => .get r fun u=>(rootD p u).bind fun z =>
   if h:z.2.t=t then (if tv=t∧t.depth≤z.2.n∧t.depth≤n∧t.depth≠0∧z.1=none then .ret (h▸z.2.x,r,p,u,z.2.n) else .fail) else .fail
  | _ => .fail
 | _ => .fail
structure ArgsA (ps:List (Ty×Mode)) where
 x:(pTy ps).den
 ls:List Nat
 mu:List PlaceArg
def argsAtM (C:Ctx):Nat→(ps:List (Ty×Mode))→List Operand→M (ArgsA ps)
 | _,[],[] => .ret ⟨(),[],[]⟩
 | i,(t,.ro)::ps,x::xs=>(argM C t x).bind fun y=>(argsAtM C (i+1) ps xs).bind fun r => .ret ⟨(y.1,r.x),y.2++r.ls,r.mu⟩
 | i,(t,.mut n)::ps,x::xs=>(argAtM t n x).bind fun y=>(argsAtM C (i+1) ps xs).bind fun r => .ret ⟨(y.1,r.x),r.ls,⟨i,y.2.1,y.2.2.1,y.2.2.2.1,y.2.2.2.2,t⟩::r.mu⟩
 | _,_,_ => .fail
def depsG (g:Nat→V→Bool):Nat→List V→List (Nat×V)
 | _,[]=>[]
 | i,v::l=>cond (g i v) ((i,.dead)::depsG g (i+1) l) (depsG g (i+1) l)
def depsGOk (g:Nat→V→Bool):Nat→List V→Bool
 | _,[]=>true
 | i,v::l=>(!(g i v) || !v.owns) && depsGOk g (i+1) l
def goesAt (r d:Nat) (u:V):Nat→V→Bool:=fun z v=>v.on r && z != r && z != d && !keepAt u v
def callAtM (C:Ctx) (tab:Tab) (vs:List Nat) (N d:Nat) (f:FuncId) (args:List Operand):M (List (Nat×V)) :=
 match tab f with
 | none => .fail
 | some F=>(argsAtM C 0 F.ps args).bind fun A=>match A.mu,F.rs with
  | [m],[(t0,n0)]=>cond (A.ls.contains m.r || !decide (m.r < N) || !decide (t0.depth=0) || !decide (n0 < 1000)) .fail (.bnd (.pair (rTy F.rs) (mTy F.ps)) (F.sem A.x) fun res=>match resV vs [] F.rs res.1,mutV F.ps res.2 with
   | some (.d none n1 t1 x1),some (.d none _ t' y')=>if h:t'=m.t then
     (if t1.depth=0 then (modRoot m.p m.u m.t (h▸y')).bind fun u2=>(allM 0 N).bind fun Ts => .chk (depsGOk (goesAt m.r d m.u) 0 Ts) (.ret (((m.r,u2)::depsG (goesAt m.r d m.u) 0 Ts)++[(d,.d none n1 t1 x1)])) else .fail) else .fail
   | _,_ => .fail)
  | _,_ => .fail
def mutOp:List (Ty×Mode)→List Operand→Option Operand
 | (_,.ro)::ps,_::xs=>mutOp ps xs
 | (_,.mut _)::_,x::_=>some x
 | _,_=>none
def callXM (C:Ctx) (tab:Tab) (vs:List Nat) (N d:Nat) (f:FuncId) (args:List Operand):M (List (Nat×V)) :=
 match tab f with
 | none => .fail
 | some F=>match mutOp F.ps args with
  | some (.tmp s) => .get s fun v=>match v with
   | .view r p _ => .get r fun u=>cond (u.isD && p.isEmpty) (callM C tab vs N d f args) (callAtM C tab vs N d f args)
   | _=>callM C tab vs N d f args
  | _=>callM C tab vs N d f args
section
variable {P:Program} {C:Ctx} {w w' w0:World} {S S':Nat→Prop} {L L' L0:Nat→Lab} {s N:Nat} {vs:List Nat} {T T':List V} {tm tm':Array Value} {a:Act}
theorem depsG_mem {g:Nat→V→Bool}:{i:Nat}→{l:List V}→(s:Nat)→(v:V)→((s,v)∈depsG g i l↔v = .dead∧i≤s∧s < i+l.length∧g s (l.getD (s - i) .dead)=true)
 | i,[],s,v=>by
  simp only [depsG,List.not_mem_nil,false_iff]
  rintro ⟨_,h1,h2,_⟩
  simp at h2
  omega
 | i,x::l,s,v=>by
  have ih:=depsG_mem (g:=g) (i:=i+1) (l:=l) s v
  have e:∀ h:i+1≤s,(x::l).getD (s - i) .dead=l.getD (s - (i+1)) .dead:=fun h=>by
   rw [show s - i=(s - (i+1))+1 by omega]; rfl
  unfold depsG
  cases hg:g i x with
  | true =>
   rw [cond_true,List.mem_cons,ih]
   constructor
   ·rintro (h | ⟨h1,h2,h3,h4⟩)
    ·injection h with h1 h2
     subst h1
     refine ⟨h2,Nat.le_refl _,by simp,by rw [Nat.sub_self]; exact hg⟩
    ·exact ⟨h1,by omega,by simp only [List.length_cons]; omega,by rw [e h2]; exact h4⟩
   ·rintro ⟨h1,h2,h3,h4⟩
    by_cases hs:s=i
    ·left; rw [hs,h1]
    ·right
     simp only [List.length_cons] at h3
     refine ⟨h1,by omega,by omega,by rw [← e (by omega)]; exact h4⟩
  | false =>
   rw [cond_false,ih]
   constructor
   ·rintro ⟨h1,h2,h3,h4⟩
    exact ⟨h1,by omega,by simp only [List.length_cons]; omega,by rw [e h2]; exact h4⟩
   ·rintro ⟨h1,h2,h3,h4⟩
    by_cases hs:s=i
    ·subst hs
     rw [Nat.sub_self] at h4
     change g s x=true at h4
     rw [hg] at h4; cases h4
    ·simp only [List.length_cons] at h3
     refine ⟨h1,by omega,by omega,by rw [← e (by omega)]; exact h4⟩
theorem depsGOk_spec {g:Nat→V→Bool}:{i:Nat}→{l:List V}→depsGOk g i l=true→∀ s,s < l.length→g (i+s) (l.getD s .dead)=true→(l.getD s .dead).owns=false
 | _,[],_,s,h,_=>by simp at h
 | i,x::l,hk,s,h,hg=>by
  simp only [depsGOk,Bool.and_eq_true,Bool.or_eq_true,Bool.not_eq_true'] at hk
  cases s with
  | zero =>
   change g (i+0) x=true at hg
   rw [Nat.add_zero] at hg
   change x.owns=false
   rcases hk.1 with h1 | h1
   ·rw [hg] at h1; cases h1
   ·exact h1
  | succ s =>
   simp only [List.length_cons] at h
   exact depsGOk_spec (g:=g) (i:=i+1) hk.2 s (by omega) (by rw [show i+1+s=i+(s+1) by omega]; exact hg)
theorem Form.inj {t:Ty} {c1 c2:List Value} {c:Value} (h1:Form t c1 c) (h2:Form t c2 c):c1=c2:=by
 cases t with
 | agg t =>
  have h1:c = .agg c1.toArray:=h1
  have h2:c = .agg c2.toArray:=h2
  rw [h1] at h2
  injection h2 with h2
  simpa using congrArg Array.toList h2
 | _=>exact (show c1=[c] from h1).trans (show c2=[c] from h2).symm
theorem argAtM_rep [Glob] (hI:Inv w0 L0 N vs T a w L) {t:Ty} {n:Nat} {x:Operand} {y:t.den} {r n':Nat} {p:List St} {u:V} {log:List Nat} (h:(argAtM t n x).Runs T (y,r,p,u,n') log) :
  T.getD r .dead=u∧t.depth≤n'∧t.depth≤n∧t.depth≠0∧(∃ log,(rootD p u).Runs T (none,⟨n',t,y⟩) log) ∧
   ∃ g cur e,L g = .own r (node [] 0 p).1∧w.heap[g]? = some (.cells cur e (0,0))∧Form t ((cur.toList.drop (node [] 0 p).2).take t.sz) (a.eval x)∧Own w L (SL L none) r n' t y (node [] 0 p).1 (node [] 0 p).2 ((cur.toList.drop (node [] 0 p).2).take t.sz):=by
 unfold argAtM at h
 split at h
 ·rename_i s
  obtain ⟨log',rfl,h⟩:=h
  have hs:=hI.slots s
  generalize hv:T.getD s .dead=v at h hs
  dsimp only at h
  split at h
  ·rename_i r' p' tv
   obtain ⟨log2,rfl,h⟩:=h
   dsimp only at h
   obtain ⟨⟨l,k,t',x'⟩,l1,l2,rfl,h1,h⟩:=M.runs_bind h
   dsimp only at h
   split at h
   ·rename_i ht
    subst ht
    split at h
    ·rename_i hc
     obtain ⟨rfl,c1,c2,c3,rfl⟩:=hc
     obtain ⟨h,_⟩:=h
     injection h with e1 e2
     injection e2 with e2 e3
     injection e3 with e3 e4
     injection e4 with e4 e5
     subst e1 e2 e3 e4 e5
     have hsl:=hI.slots r
     obtain ⟨⟨g,cur,e,k1,k2,k3,k4⟩,_,_,_,hisd⟩:=rootD_inB h1 hsl
     refine ⟨rfl,c1,c2,c3,⟨_,h1⟩,g,cur,e,k1,k2,?_,k4⟩
     obtain ⟨_,h2⟩:=hs
     rcases h2 with ⟨h2,_,l0,n0,x0,h3,_⟩ | ⟨g',cur',e',_,j1,j2,j3,j4⟩
     ·rw [h3] at hisd
      rcases hisd with h | h
      ·simp [V.isD] at h
      ·exact absurd h2 h
     ·obtain rfl:=hI.inj g g' r _ k1 j1
      rw [k2] at j2
      injection j2 with j2
      injection j2 with j2 _ _
      subst j2
      exact j4
    ·exact h.elim
   ·exact h.elim
  ·exact h.elim
 ·exact h.elim
theorem argsAtM_rep [Glob] (hI:Inv w0 L0 N vs T a w L):{ps:List (Ty×Mode)}→{i:Nat}→{xs:List Operand}→{A:ArgsA ps}→{log:List Nat}→(argsAtM C i ps xs).Runs T A log →
  (∀ r∈A.ls,(T.getD r .dead).deep=true) ∧
  (∀ m∈A.mu,i≤m.i∧∃ n y,ps[m.i - i]? = some (m.t,.mut n)∧m.t.depth≤n∧m.t.depth≤m.n'∧m.t.depth≠0∧T.getD m.r .dead=m.u∧(∃ log,(rootD m.p m.u).Runs T (none,⟨m.n',m.t,y⟩) log) ∧
   ∃ g cur e c,L g = .own m.r (node [] 0 m.p).1∧w.heap[g]? = some (.cells cur e (0,0))∧(xs.map a.eval)[m.i - i]? = some c∧Form m.t ((cur.toList.drop (node [] 0 m.p).2).take m.t.sz) c) ∧
  (∀ j t n,ps[j]? = some (t,.mut n)→∃ m∈A.mu,m.i=i+j) ∧
  ∀ L1:Nat→Lab,(∀ k,L k = .stable→L1 k = .stable)→(∀ k r q,r∈A.ls→L k = .own r q→L1 k = .stable) →
   (∀ k m z rest,m∈A.mu→L k = .own m.r ((node [] 0 m.p).1++((node [] 0 m.p).2+z)::rest)→z < m.t.sz→L1 k = .own m.i (z::rest))→ArgsRep w L1 i ps A.x (xs.map a.eval)
 | [],i,[],A,log,h=>by
  obtain ⟨rfl,_⟩:=h
  exact ⟨by simp,by simp,by simp,fun _ _ _ _=>rfl⟩
 | (t,.ro)::ps,i,x::xs,A,log,h=>by
  simp only [argsAtM] at h
  obtain ⟨⟨y,ls⟩,l1,l2,rfl,h1,h⟩:=M.runs_bind h
  obtain ⟨A',l3,l4,rfl,h2,h⟩:=M.runs_bind h
  obtain ⟨rfl,_⟩:=h
  obtain ⟨cells,k1,k2,k3⟩:=argM_rep hI h1
  obtain ⟨j1,j2,j4,j3⟩:=argsAtM_rep hI h2
  refine ⟨fun r hr => ?_,fun m hm => ?_,fun j t' n hj => ?_,fun L1 H1 H2 H3 => ?_⟩
  ·rcases List.mem_append.1 hr with hr | hr
   ·exact k2 r hr
   ·exact j1 r hr
  ·obtain ⟨hi,n',y',e1,e2,e3,e4,e5,e6,g,cur,e,c,f1,f2,f3,f4⟩:=j2 m hm
   have:m.i - i=(m.i - (i+1))+1:=by omega
   exact ⟨by omega,n',y',by rw [this]; simpa using e1,e2,e3,e4,e5,e6,g,cur,e,c,f1,f2,by rw [this]; simpa using f3,f4⟩
  ·cases j with
   | zero=>simp at hj
   | succ j =>
    obtain ⟨m,hm,he⟩:=j4 j t' n (by simpa using hj)
    exact ⟨m,hm,by omega⟩
  ·exact ⟨a.eval x,_,cells,rfl,k1,Own.of_rd (k3 _ H1 (fun k r q hr hk=>H2 k r q (List.mem_append_left _ hr) hk)),j3 L1 H1 (fun k r q hr hk=>H2 k r q (List.mem_append_right _ hr) hk) H3⟩
 | (t,.mut n)::ps,i,x::xs,A,log,h=>by
  simp only [argsAtM] at h
  obtain ⟨⟨y,r0,p0,u0,n0⟩,l1,l2,rfl,h1,h⟩:=M.runs_bind h
  obtain ⟨A',l3,l4,rfl,h2,h⟩:=M.runs_bind h
  obtain ⟨rfl,_⟩:=h
  obtain ⟨k1,k2,k3,k4,k5,g,cur,e,k6,k7,k8,k9⟩:=argAtM_rep hI h1
  obtain ⟨j1,j2,j4,j3⟩:=argsAtM_rep hI h2
  refine ⟨j1,fun m hm => ?_,fun j t' n' hj => ?_,fun L1 H1 H2 H3 => ?_⟩
  ·rcases List.mem_cons.1 hm with hm | hm
   ·subst hm
    exact ⟨Nat.le_refl _,n,y,by simp,k3,k2,k4,k1,k5,g,cur,e,a.eval x,k6,k7,by simp,k8⟩
   ·obtain ⟨hi,n',y',e1,e2,e3,e4,e5,e6,g,cur,e,c,f1,f2,f3,f4⟩:=j2 m hm
    have:m.i - i=(m.i - (i+1))+1:=by omega
    exact ⟨by omega,n',y',by rw [this]; simpa using e1,e2,e3,e4,e5,e6,g,cur,e,c,f1,f2,by rw [this]; simpa using f3,f4⟩
  ·cases j with
   | zero=>exact ⟨_,List.mem_cons_self ..,rfl⟩
   | succ j =>
    obtain ⟨m,hm,he⟩:=j4 j t' n' (by simpa using hj)
    exact ⟨m,List.mem_cons_of_mem _ hm,by omega⟩
  ·refine ⟨a.eval x,_,_,rfl,k8,?_,j3 L1 H1 H2 (fun k m z rest hm hk hz=>H3 k m z rest (List.mem_cons_of_mem _ hm) hk hz)⟩
   refine Own.cap k2 k3 (Own.move (fun k hk=>⟨?_,rfl⟩) (fun k d rest hd hk=>⟨?_,rfl⟩) k9)
   ·rcases hk with hk | ⟨_,_,hk,_⟩
    ·exact H1 k hk
    ·cases hk
   ·have:=H3 k ⟨i,r0,p0,u0,n0,t⟩ d rest (List.mem_cons_self ..) hk hd
    simpa using this
 | [],_,_::_,_,_,h=>h.elim
 | (_,.ro)::_,_,[],_,_,h=>h.elim
 | (_,.mut _)::_,_,[],_,_,h=>h.elim
 | (_,.ptr _)::_,_,[],_,_,h=>h.elim
 | (_,.ptr _)::_,_,_::_,_,_,h=>h.elim
 | (_,.eat _)::_,_,[],_,_,h=>h.elim
 | (_,.eat _)::_,_,_::_,_,_,h=>h.elim
theorem argsAtM_noptr {C:Ctx}:{ps:List (Ty×Mode)}→{i:Nat}→{xs:List Operand}→{A:ArgsA ps}→{log:List Nat}→(argsAtM C i ps xs).Runs T A log→∀ (j:Nat) (t:Ty) (n:Nat),ps[j]? ≠ some (t,.ptr n)
 | [],_,_,_,_,_,j,t,n=>by simp
 | (t0,.ro)::ps,i,x::xs,A,log,h,j,t,n=>by
  simp only [argsAtM] at h
  obtain ⟨_,_,_,_,_,h⟩:=M.runs_bind h
  obtain ⟨_,_,_,_,h2,_⟩:=M.runs_bind h
  cases j with
  | zero=>simp
  | succ j=>simpa using argsAtM_noptr h2 j t n
 | (t0,.mut n0)::ps,i,x::xs,A,log,h,j,t,n=>by
  simp only [argsAtM] at h
  obtain ⟨_,_,_,_,_,h⟩:=M.runs_bind h
  obtain ⟨_,_,_,_,h2,_⟩:=M.runs_bind h
  cases j with
  | zero=>simp
  | succ j=>simpa using argsAtM_noptr h2 j t n
 | (_,.ro)::_,_,[],_,_,h,_,_,_=>h.elim
 | (_,.mut _)::_,_,[],_,_,h,_,_,_=>h.elim
 | (_,.ptr _)::_,_,[],_,_,h,_,_,_=>h.elim
 | (_,.ptr _)::_,_,_::_,_,_,h,_,_,_=>h.elim
 | (_,.eat _)::_,_,[],_,_,h,_,_,_=>h.elim
 | (_,.eat _)::_,_,_::_,_,_,h,_,_,_=>h.elim
theorem argsAtM_mode [Glob] {C:Ctx} {ps:List (Ty×Mode)} {i:Nat} {xs:List Operand} {A:ArgsA ps} {log:List Nat} (h:(argsAtM C i ps xs).Runs T A log) {j:Nat} {t:Ty} {m:Mode} (hj:ps[j]? = some (t,m)) (hm:m.back=true):∃ n,m = .mut n:=by
 match m,hj,hm with
 | .ro,_,hm=>cases hm
 | .eat _,_,hm=>cases hm
 | .mut n,_,_=>exact ⟨n,rfl⟩
 | .ptr n,hj,_=>exact absurd hj (argsAtM_noptr h j t n)
theorem step_callAt [Glob] (hI:Inv w0 L0 N vs T a w L) {tab:Tab} (htab:TabOk P tab) {o:Oper} {f:FuncId} {args:Array Operand} {ats:Array TypeId} {d:Nat} {ups:List (Nat×V)} {log:List Nat}
  (ho:o.op = .call { callee := .value (.func f),args,argTypes:=ats }) (hdst:o.dst=some d) (hd:d < N) (hid:(T.getD d .dead).idle=true)
  (h:(callAtM C tab vs N d f args.toList).Runs T ups log):Step P o w0 L0 N vs (setAll T ups) a w:=by
 unfold callAtM at h
 split at h
 ·exact h.elim
 ·rename_i F hF
  obtain ⟨⟨fn,hfn,hname,hbody⟩,hok⟩:=htab f F hF
  have hb:=M.runs_bind h
  clear h
  obtain ⟨A,l1,l2,rfl,h1,h⟩:=hb
  obtain ⟨hls,hmu,hmall,hargs⟩:=argsAtM_rep hI h1
  have hrun:=Go.Conc.run_call_body (P:=P) (a:=a) (w:=w) ho hfn hname hbody
  obtain ⟨Fps,Frs,Fsem⟩:=F
  dsimp only at h hargs hmall hmu hok A
  split at h
  ·rename_i m t0 n0 hA
   cases hc:(A.ls.contains m.r || !decide (m.r < N) || !decide (t0.depth=0) || !decide (n0 < 1000)) with
   | true=>rw [hc] at h; exact h.elim
   | false =>
    rw [hc] at h
    simp only [Bool.or_eq_false_iff,Bool.not_eq_false',decide_eq_true_eq] at hc
    obtain ⟨⟨⟨hc1,hrN⟩,ht0⟩,hn0⟩:=hc
    have hrls:m.r ∉ A.ls:=fun hm=>by rw [List.contains_iff_mem.2 hm] at hc1; cases hc1
    obtain ⟨res,hsem,h⟩:=h
    dsimp only at h
    split at h
    ·rename_i n1 t1 x1 n2 t' y' hv hu'
     split at h
     ·rename_i htt
      subst htt
      split at h
      ·rename_i ht1
       obtain ⟨u2,l3,l4,rfl,hm2,h⟩:=M.runs_bind h
       obtain ⟨Ts,l5,l6,rfl,hall,hdok,hups⟩:=M.runs_bind h
       obtain ⟨rfl,_⟩:=hups
       have hTs:Ts=T:=by rw [allM_runs hall (by rw [Nat.zero_add,hI.len])]; rfl
       subst hTs
       obtain ⟨_,n,y,h2,h3,h4,h5,h6,⟨logz,hz⟩,g0,cur,e,c,k1,k2,k3,k4⟩:=hmu m (by rw [hA]; simp)
       simp only [Nat.sub_zero] at h2 k3
       have hil:m.i < Fps.length:=(List.getElem?_eq_some_iff.1 h2).1
       have hpl:∀ (j:Nat) (t:Ty) (n:Nat),Fps[j]? = some (t,Mode.mut n)→j=m.i:=by
        intro j t n hj
        obtain ⟨m',hm',he⟩:=hmall j t n hj
        rw [hA] at hm'
        rw [List.mem_singleton.1 hm'] at he
        omega
       have hsl:=hI.slots m.r
       rw [h6] at hsl
       obtain ⟨_,_,_,howns,_⟩:=rootD_inB hz hsl
       have hrd:m.r≠d:=idle_ne hid (by rw [h6]; exact howns)
       have hlegit:Legit w (fun k=>toP m.r (node [] 0 m.p).1 (node [] 0 m.p).2 m.t.sz m.i A.ls (L k)) Fps:=by
        refine ⟨fun k hk=>by rw [hI.free k hk]; rfl,fun k k' s q h h' => ?_,fun k s q h => ?_,Glob.keep hI.fr.glob fun k hk h0=>⟨?_,(hI.fr.keep k hk h0).2⟩⟩
        ·obtain ⟨y1,r1,e1,e2,e3⟩:=toP_own h
         obtain ⟨y2,r2,e4,e5,e6⟩:=toP_own h'
         rw [e2] at e5
         injection e5 with e5 e7
         subst e5 e7
         exact hI.inj k k' _ _ e3 e6
        ·obtain ⟨y1,r1,rfl,e2,e3⟩:=toP_own h
         exact ⟨m.t,.mut n,h2,by simp only [Mode.owned,Bool.and_eq_true,bne_iff_ne]; omega⟩
        ·rw [(hI.fr.keep k hk h0).1]
         rcases h0 with h0 | h0 <;> rw [h0] <;> simp [toP]
       have hrep:=hargs (fun k=>toP m.r (node [] 0 m.p).1 (node [] 0 m.p).2 m.t.sz m.i A.ls (L k)) (fun k hk=>by rw [hk]; rfl) (fun k r q hr hk=>by
        rw [hk]
        unfold toP
        dsimp only
        rw [if_neg (fun e0:r=m.r=>hrls (by rw [← e0]; exact hr)),if_pos (by simpa using hr)]) (fun k m' z rest hm' hk hz'=>by
        rw [hA] at hm'
        obtain rfl:=List.mem_singleton.1 hm'
        rw [hk]
        exact toP_at hz')
       intro K Q hK
       unfold Oper.wp
       rw [hrun,Oper.upon_enter]
       refine Calls.mono (hok A.x res hsem w _ (args.map a.eval) hlegit (by simpa using hrep)) ?_
       rintro e' w' ⟨cs,L',rfl,hleft,hres,hmr⟩
       dsimp only
       rw [hdst]
       have hT':setAll Ts (((m.r,u2)::depsG (goesAt m.r d m.u) 0 Ts)++[(d,V.d none n1 t1 x1)])=(setAll Ts ((m.r,u2)::depsG (goesAt m.r d m.u) 0 Ts)).set d (V.d none n1 t1 x1):=by
        rw [setAll_append]; rfl
       have hlen1:(setAll Ts ((m.r,u2)::depsG (goesAt m.r d m.u) 0 Ts)).length=N:=by rw [length_setAll,hI.len]
       have hTo:∀ s,s≠d→(setAll Ts (((m.r,u2)::depsG (goesAt m.r d m.u) 0 Ts)++[(d,V.d none n1 t1 x1)])).getD s .dead=(setAll Ts ((m.r,u2)::depsG (goesAt m.r d m.u) 0 Ts)).getD s .dead:=by
        intro s hs
        rw [hT',getD_set,if_neg (fun e=>hs e.1)]
       have hkeys:∀ s v,(s,v)∈((m.r,u2)::depsG (goesAt m.r d m.u) 0 Ts)→(s=m.r∧v=u2)∨(v = .dead∧s≠m.r∧goesAt m.r d m.u s (Ts.getD s .dead)=true):=by
        intro s v hm'
        rcases List.mem_cons.1 hm' with hm' | hm'
        ·injection hm' with h1 h2
         exact .inl ⟨h1,h2⟩
        ·obtain ⟨h1,_,_,h2⟩:=(depsG_mem s v).1 hm'
         simp only [Nat.sub_zero] at h2
         refine .inr ⟨h1,?_,h2⟩
         rintro rfl
         simp [goesAt] at h2
       have hTr:(setAll Ts ((m.r,u2)::depsG (goesAt m.r d m.u) 0 Ts)).getD m.r .dead=u2:=by
        refine getD_setAll_mem (by rw [hI.len]; exact hrN) (by simp) (fun v hm' => ?_)
        rcases hkeys m.r v hm' with ⟨_,h⟩ | ⟨_,h,_⟩
        ·exact h
        ·exact absurd rfl h
       have hgo:∀ s,s≠d→s≠m.r→(Ts.getD s .dead).on m.r=true→goesAt m.r d m.u s (Ts.getD s .dead) = !keepAt m.u (Ts.getD s .dead):=by
        intro s h1 h2 h3
        unfold goesAt
        rw [h3]
        simp [h1,h2]
       refine hK _ _ _ (Inv.calledAt (d:=d) (c:=resVal cs) (V0:=V.d none n1 t1 x1) hI hd hid h6 hz hm2 h3 h4 k1 k2 hleft ?_ ?_ (by rw [length_setAll,hI.len]) ?_ ?_ (fun r=>rfl) ?_ ?_ ?_)
       ·intro k s q hk
        rcases hleft.owner k s q hk with ⟨_,t,n,h,h9⟩ | ⟨t,md,h,hmd⟩
        ·simp only [List.mem_singleton,Prod.mk.injEq] at h
         rcases h9 with h9 | h9
         ·exact absurd (by rw [h.1]; exact ht0) h9.2
         ·omega
        ·obtain ⟨n,rfl⟩:=argsAtM_mode h1 h hmd
         exact hpl s t n h
       ·have hmr2:MutRep w' L' 0 Fps res.2 (args.toList.map a.eval):=by simpa using hmr
        obtain ⟨j,t',n',y9,c',cells,m1,m2,m3,m4,m5⟩:=mutV_rep hmr2 hu'
        have hji:=hpl j t' n' m1
        subst hji
        rw [h2] at m1
        injection m1 with m1
        injection m1 with m1 m1'
        injection m1' with m1'
        subst m1'
        cases m2
        rw [k3] at m3
        injection m3 with m3
        subst m3
        rw [Nat.zero_add] at m5
        have:cells=(cur.toList.drop (node [] 0 m.p).2).take m.t.sz:=Form.inj m4 k4
        rw [← this]
        exact m5
       ·rw [hTo m.r hrd,hTr]
       ·rw [hT',getD_set,if_pos ⟨rfl,by rw [hlen1]; exact hd⟩]
       ·intro L2 tm'
        have hres2:=hres
        have hres2:=(ResTop.low (rs:=[(t0,n0)]) (decide_eq_true hn0)).1 hres2
        simp only [ResRep] at hres2
        obtain ⟨c',cs',cells,rfl,r1,r2,rfl⟩:=hres2
        have hv2:some (V.d none n0 t0 res.1.1)=some (V.d none n1 t1 x1):=by
         simp only [resV] at hv
         rwa [if_neg (by omega),if_pos (by rw [ht0]; exact Nat.zero_le _)] at hv
        cases hv2
        exact ⟨by simp,cells,r1,Own.flat ht0 r2⟩
       ·intro z hzd hzr hon
        rw [hTo z hzd]
        have hzN:z < N:=by
         rcases Nat.lt_or_ge z N with h | h
         ·exact h
         ·rw [getD_out (by rw [hI.len]; exact h)] at hon; simp [V.on,V.root] at hon
        have hgz:=hgo z hzd hzr hon
        cases hk:keepAt m.u (Ts.getD z .dead) with
        | true =>
         refine .inr ⟨getD_setAll _ _ _ (fun hm' => ?_),rfl⟩
         obtain ⟨uu,hu,he⟩:=List.mem_map.1 hm'
         rcases hkeys z uu.2 (by rw [← he]; exact hu) with ⟨h,_⟩ | ⟨_,_,h⟩
         ·exact hzr h
         ·rw [hgz,hk] at h; cases h
        | false =>
         rw [hk] at hgz
         refine .inl ⟨getD_setAll_mem (by rw [hI.len]; exact hzN) ?_ (fun v hm' => ?_),?_⟩
         ·rw [List.mem_map]
          exact ⟨(z,.dead),List.mem_cons_of_mem _ ((depsG_mem z .dead).2 ⟨rfl,Nat.zero_le _,by rw [Nat.zero_add,hI.len]; exact hzN,by rw [Nat.sub_zero]; exact hgz⟩),rfl⟩
         ·rcases hkeys z v hm' with ⟨h,_⟩ | ⟨h,_⟩
          ·exact absurd h hzr
          ·exact h
         ·exact depsGOk_spec hdok z (by rw [hI.len]; exact hzN) (by rw [Nat.zero_add]; exact hgz)
       ·intro z hzd hzr hon
        rw [hTo z hzd]
        refine getD_setAll _ _ _ (fun hm' => ?_)
        obtain ⟨uu,hu,he⟩:=List.mem_map.1 hm'
        rcases hkeys z uu.2 (by rw [← he]; exact hu) with ⟨h,_⟩ | ⟨_,_,h⟩
        ·exact hzr h
        ·unfold goesAt at h
         rw [hon] at h
         simp at h
      ·exact h.elim
     ·exact h.elim
    ·exact h.elim
  ·exact h.elim
theorem step_callX [Glob] (hI:Inv w0 L0 N vs T a w L) {tab:Tab} (htab:TabOk P tab) {o:Oper} {f:FuncId} {args:Array Operand} {ats:Array TypeId} {d:Nat} {ups:List (Nat×V)} {log:List Nat}
  (ho:o.op = .call { callee := .value (.func f),args,argTypes:=ats }) (hdst:o.dst=some d) (hd:d < N) (hid:(T.getD d .dead).idle=true)
  (h:(callXM C tab vs N d f args.toList).Runs T ups log):Step P o w0 L0 N vs (setAll T ups) a w:=by
 unfold callXM at h
 split at h
 ·exact h.elim
 ·split at h
  ·rename_i s _
   obtain ⟨log1,rfl,h⟩:=h
   generalize T.getD s .dead=v at h
   dsimp only at h
   split at h
   ·obtain ⟨log2,rfl,h⟩:=h
    dsimp only at h
    generalize (V.isD _ && List.isEmpty _)=b at h
    cases b with
    | true=>exact step_call hI htab ho hdst hd hid h
    | false=>exact step_callAt hI htab ho hdst hd hid h
   ·exact step_call hI htab ho hdst hd hid h
  ·exact step_call hI htab ho hdst hd hid h
end
end Go.Proofs.YtkanidldnnfloaaGreat.P.Am
set_option linter.unusedVariables false
set_option linter.unusedSimpArgs false
namespace Go.Proofs.YtkanidldnnfloaaGreat.P.Am
def idxN:List St→Nat
 | []=>0
 | .fld _ _::p=>idxN p
 | .idx _ _::p=>idxN p+1
theorem node_idx:{p:List St}→{q:List Nat}→{o:Nat}→(node q o p).1.length=q.length+idxN p
 | [],_,_=>rfl
 | .fld _ _::p,_,_=>node_idx (p:=p)
 | .idx sz i::p,q,o=>by
  have:=node_idx (p:=p) (q:=q++[o]) (o:=i.toNat*sz)
  simp only [node,idxN]
  rw [this]
  simp only [List.length_append,List.length_singleton]
  omega
def okDeep (n r:Nat) (v:V):Bool := !v.deepOn r || (match v with
 | .ptr _ _ _=>true
 | .view _ p _=>decide (idxN p < n)
 | _=>false)
def kidsD {α:Type} (n r:Nat):List Nat→M α→M α
 | [],m=>m
 | k::l,m => .get k fun v => .chk (okDeep n r v) (kidsD n r l m)
def storeDeepM (C:Ctx) (N:Nat) (kids:List Nat) (X:TypeId) (r:Nat) (p:List St) (u:V) (x:Operand) (m:M (List (Nat×V))):M (List (Nat×V)) :=
 (rootD p u).bind fun z =>
  if z.2.t.depth=0∧u.boxy=true∧shallow p=false∧C.ty X=some z.2.t∧(u.root != some r)=true∧r < N∧r < 100000 then
   (opnd C X x).bind fun v=>match v with
   | .d none _ t' y=>if h:t'=z.2.t then (modRoot p u z.2.t (h▸y)).bind fun u'=>kidsD (idxN p) r kids (.ask (bareKey r (maskOf false (r::kids))) (.ret [(r,u')])) else .fail
   | _ => .fail
  else m
section
variable {P:Program} {C:Ctx} {w w' w0:World} {S S':Nat→Prop} {L L' L0:Nat→Lab} {s N:Nat} {vs:List Nat} {T T':List V} {tm tm':Array Value} {a:Act}
theorem kidsD_runs {α:Type} {n r:Nat} {m:M α} {x:α}:{l:List Nat}→{log:List Nat}→(kidsD n r l m).Runs T x log→(∀ k∈l,okDeep n r (T.getD k .dead)=true)∧∃ log',m.Runs T x log'
 | [],log,h=>⟨by simp,log,h⟩
 | k::l,log,h=>by
  obtain ⟨log',rfl,hc,h⟩:=h
  obtain ⟨h1,h2⟩:=kidsD_runs (l:=l) h
  refine ⟨fun k' hk' => ?_,h2⟩
  rcases List.mem_cons.1 hk' with rfl | hk'
  ·exact hc
  ·exact h1 k' hk'
theorem step_storeDeep [Glob] (hI:Inv w0 L0 N vs T a w L) (hC:CtxOk P C) {o:Oper} {X:TypeId} {t r:Nat} {kids:List Nat} {p:List St} {u:V} {x:Operand} {m:M (List (Nat×V))} {ups:List (Nat×V)} {log:List Nat} (ho:o.op = .store X (.tmp t) x) (hdst:o.dst=none)
  (ht:addrOf t (T.getD t .dead)=some (r,p)) (hev:∀ r p,addrOf t (T.getD t .dead)=some (r,p)→∃ g,a.eval (.tmp t) = .pointer (some ⟨g,(node [] 0 p).2,none⟩)∧L g = .own r (node [] 0 p).1)
  (hr:T.getD r .dead=u) (h:(storeDeepM C N kids X r p u x m).Runs T ups log) (hm:∀ log,m.Runs T ups log→Step P o w0 L0 N vs (setAll T ups) a w):Step P o w0 L0 N vs (setAll T ups) a w:=by
 obtain ⟨⟨l,n',t',x'⟩,l1,l2,rfl,hz,h⟩:=M.runs_bind h
 dsimp only at h
 split at h
 ·rename_i hc
  obtain ⟨hd,hub,hpd,hX,hself,hrN,hr5⟩:=hc
  clear hm
  obtain ⟨v,l3,l4,rfl,hv,h⟩:=M.runs_bind h
  split at h
  ·rename_i k tv y
   split at h
   ·rename_i htv
    subst htv
    obtain ⟨u',l5,l6,rfl,hmo,h⟩:=M.runs_bind h
    obtain ⟨hkids,log2,h⟩:=kidsD_runs h
    obtain ⟨⟨hq,_⟩,log3,rfl,h⟩:=h
    obtain ⟨rfl,_⟩:=h
    have hok:∀ z,z≠r→okDeep (idxN p) r (T.getD z .dead)=true:=by
     intro z hz
     by_cases hm:z∈kids
     ·exact hkids z hm
     ·have:=ask_bare hr5 hq z (maskOf_bit (by simp [hz,hm]))
      rw [maskOf_zero] at this
      have this:(T.getD z .dead).deepOn r=false:=this
      unfold okDeep
      rw [this]; rfl
    obtain ⟨g,hev1,hg⟩:=hev r p ht
    have hsl:=hI.slots r
    rw [hr] at hsl
    obtain ⟨⟨g',cur,e,k1,k2,k3,k4⟩,_,_,howns,hisd⟩:=rootD_inB hz hsl
    obtain rfl:=hI.inj g g' r _ hg k1
    have hud:u.isD=false:=by cases u <;> simp [V.boxy,V.isD] at hub ⊢
    have hval:∃ cs s0,Form tv cs (a.eval x)∧Own w L (SL L none) s0 k tv y [] 0 cs:=by
     rcases opnd_rep hI hv with ⟨s,rfl,_,hs⟩ | ⟨_,hs⟩
     ·obtain ⟨_,cs,hf,how⟩:=hs
      exact ⟨cs,s,hf,how⟩
     ·obtain ⟨_,cs,hf,how⟩:=hs L T a.tmps 0 w
      exact ⟨cs,0,hf,how⟩
    obtain ⟨cs,s0,hf,how⟩:=hval
    have hone:=Own.one how
    have hlen:=Own.len how
    have hrun:(execOp a.eval o).run P w = .ok .skip (w.setRow g (putCells cur (node [] 0 p).2 cs)):=by
     simp [execOp,ho,hev1,run_store_cells (hC X _ hX) k2 hf hone hlen k3]
    have hTr:(setAll T [(r,u')]).getD r .dead=u':=by
     show (T.set r u').getD r .dead=u'
     rw [getD_set,if_pos ⟨rfl,by rw [hI.len]; exact hrN⟩]
    have hTo:∀ z,z≠r→(setAll T [(r,u')]).getD z .dead=T.getD z .dead:=by
     intro z hz
     show (T.set r u').getD z .dead=_
     rw [getD_set,if_neg (fun h=>hz h.1)]
    intro K Q hK
    unfold Oper.wp
    rw [hrun,Oper.upon_skip,hdst]
    refine hK a _ _ (Inv.store (m:=n') (src:=none) hI hr hz hmo (by simpa using hself) hg k2 k3 hlen (by simp) (by rw [length_setAll,hI.len]) hTr ?_ (fun z hz _ _=>hTo z hz) (Own.flat hd how))
    intro z hz _ hon
    refine .inr ⟨hTo z hz,?_⟩
    have hk:=hok z hz
    unfold okDeep V.deepOn at hk
    rw [hon,Bool.true_and] at hk
    generalize T.getD z .dead=vz at hk hon
    cases vz with
    | ptr r2 p2 t2=>exact .inl rfl
    | view r2 p2 t2 =>
     have:r2=r:=by simpa [V.on,V.root] using hon
     subst this
     refine .inr ⟨rfl,hpd,hud,p2,t2,rfl,fun he => ?_⟩
     have hk:idxN p2 < idxN p:=by simpa using hk
     have:=congrArg List.length he
     rw [node_idx,node_idx] at this
     omega
    | _=>simp at hk
   ·exact h.elim
  ·exact h.elim
 ·exact hm _ h
end
end Go.Proofs.YtkanidldnnfloaaGreat.P.Am
set_option linter.unusedVariables false
set_option linter.unusedSimpArgs false
namespace Go.Proofs.YtkanidldnnfloaaGreat.P.Am
def tkG (r:Nat) (q:List Nat) (o sz s:Nat):Nat→List Nat→Lab:=fun z q2 =>
 if z=r then match cut q q2 with
  | some (y::rest)=>if o≤y∧y < o+sz then .own s ((y - o)::rest) else .own r q2
  | _ => .own r q2
 else if z=s then .other else .own z q2
def okDm (r:Nat) (v:V):Bool := !v.on r || (match v with
 | .same _ _=>true
 | .ptr _ [.idx _ _] _=>true
 | _=>false)
def okDmL (r:Nat):List V→Bool
 | []=>true
 | v::l=>okDm r v && okDmL r l
def noOnL (r:Nat):List V→Bool
 | []=>true
 | v::l => !v.on r && noOnL r l
def dmLoad1 (C:Ctx) (N:Nat) (X:TypeId) (d r sz:Nat) (i:Int) (n:Nat):(ty:Ty)→ty.den→M (List (Nat×V))
 | .pair (.int k) (.slice e te),x=>if C.ty X=some te∧te.depth≠0∧n≠0∧sz=te.sz∧d < N∧r < N∧d≠r then
   .get d fun vd => .chk (vd.idle && decide (x.1≤i)) (.bnd te (getI x.2 i) fun y=>(allM 0 N).bind fun Ts => .chk (okDmL r Ts) (.ret [(r,.odd 0 n (.pair (.int k) (.slice e te)) (i+1,x.2)),(d,.d none n te y)]))
  else .fail
 | _,_ => .fail
def dmLoadM (C:Ctx) (N:Nat) (X:TypeId) (d t:Nat):M (List (Nat×V)) :=
 .get t fun v=>match v with
 | .ptr r [.idx sz i] _ => .get r fun u=>match u with
  | .odd 0 n ty x=>dmLoad1 C N X d r sz i n ty x
  | _ => .fail
 | _ => .fail
def dmMoveM (vs:List Nat) (N d:Nat) (fl:Bool) (x:Operand) (m:M (List (Nat×V))):M (List (Nat×V)) :=
 match x with
 | .tmp s => .get s fun v=>match v with
  | .odd 0 _ (.pair (.int _) t) _ => .get d fun vd => .chk (vd.idle && decide (d < N) && vs.contains s) (.ret [(d,.same s t)])
  | .d none (n+1) (.slice e t) xs=>cond fl (if d < N∧s < N∧d≠s then .get d fun vd => .chk (vd.idle && vs.contains s) ((allM 0 N).bind fun Ts => .chk (noOnL s Ts) (.ret [(s,.odd 0 n (.pair (.int .i64) (.slice e t)) ((0:Int),xs)),(d,.same s (.slice e t))])) else .fail) m
  | _=>m
 | _=>m
def dmLen1 (C:Ctx) (X:TypeId) (d:Nat):(ty:Ty)→ty.den→M (List (Nat×V))
 | .pair (.int _) (.slice e te),x=>if C.ty X=some (.slice e te) then .ret [(d,.d none 0 (.int .i64) (x.2.length:Int))] else .fail
 | _,_ => .fail
def dmLenM (C:Ctx) (d:Nat) (l:List Operand) (ats:List TypeId) (m:M (List (Nat×V))):M (List (Nat×V)) :=
 match l,ats with
 | [.tmp t],[X] => .get t fun v=>match v with
  | .same r _ => .get r fun u=>match u with
   | .odd 0 _ ty x=>dmLen1 C X d ty x
   | _=>m
  | _=>m
 | _,_=>m
def dmIdx1 (C:Ctx) (vs:List Nat) (X:TypeId) (d r:Nat) (i:Int):(ty:Ty)→ty.den→M (List (Nat×V))
 | .pair (.int _) (.slice _ te),x=>if sliceOf C X=some te then .bnd te (getI x.2 i) fun _ => .chk (vs.contains r) (.ret [(d,.ptr r [.idx te.sz i] te)]) else .fail
 | _,_ => .fail
def dmIdxM (C:Ctx) (vs:List Nat) (X:TypeId) (d t:Nat) (y:Operand) (m:M (List (Nat×V))):M (List (Nat×V)) :=
 .get t fun v=>match v with
 | .same r _ => .get r fun u=>match u with
  | .odd 0 _ ty x=>(opnd C 0 y).bind fun z=>match z with
   | .d _ _ (.int _) i=>dmIdx1 C vs X d r i ty x
   | _ => .fail
  | _=>m
 | _=>m
section
variable {P:Program} {C:Ctx} {w w' w0:World} {S S':Nat→Prop} {L L' L0:Nat→Lab} {s N:Nat} {vs:List Nat} {T T':List V} {tm tm':Array Value} {a:Act}
theorem tkG_key [Glob] {r s:Nat} {q:List Nat} {o sz:Nat} {z:Nat} {q2:List Nat} {z':Nat} {q3:List Nat} (h:tkG r q o sz s z q2 = .own z' q3) :
  (z=r∧∃ i rest,i < sz∧q2=q++(o+i)::rest∧z'=s∧q3=i::rest)∨(z=r∧z'=r∧q3=q2∧∀ i rest,i < sz→q2≠q++(o+i)::rest)∨(z≠r∧z≠s∧z'=z∧q3=q2):=by
 unfold tkG at h
 split at h
 ·rename_i hz
  split at h
  ·rename_i y rest hc
   split at h
   ·rename_i hy
    injection h with h1 h2
    refine .inl ⟨hz,y - o,rest,by omega,?_,h1.symm,h2.symm⟩
    rw [cut_some hc]
    congr 2
    omega
   ·rename_i hy
    injection h with h1 h2
    refine .inr (.inl ⟨hz,h1.symm,h2.symm,fun i rest' hi he => ?_⟩)
    rw [he,cut_append] at hc
    simp only [Option.some.injEq,List.cons.injEq] at hc
    omega
  ·rename_i hno
   injection h with h1 h2
   refine .inr (.inl ⟨hz,h1.symm,h2.symm,fun i rest' _ he => ?_⟩)
   exact hno (o+i) rest' (by rw [he,cut_append])
 ·rename_i hz
  split at h
  ·cases h
  ·rename_i hs
   injection h with h1 h2
   exact .inr (.inr ⟨hz,hs,h1.symm,h2.symm⟩)
theorem tkG_fun [Glob] {r s:Nat} {q:List Nat} {o sz:Nat} {X:Nat→Prop} (hr:X r) (hs:X s) (hrs:r≠s):Fun (tkG r q o sz s) X:=by
 refine ⟨fun z q2 hX => ?_,fun z q2 z' q3 hX h => ?_,fun z q2 z2 q3 z' q4 h1 h2 => ?_,fun z q2 => ?_⟩
 ·unfold tkG
  rw [if_neg (fun e:z=r=>hX (e▸hr)),if_neg (fun e:z=s=>hX (e▸hs))]
 ·rcases tkG_key h with ⟨_,_,_,_,_,rfl,_⟩ | ⟨_,rfl,_⟩ | ⟨_,_,rfl,_⟩
  ·exact hs
  ·exact hr
  ·exact hX
 ·rcases tkG_key h1 with ⟨rfl,i,rest,_,rfl,rfl,rfl⟩ | ⟨rfl,rfl,rfl,hn⟩ | ⟨g1,g2,rfl,rfl⟩
  ·rcases tkG_key h2 with ⟨rfl,i',rest',_,rfl,_,he⟩ | ⟨rfl,he,_⟩ | ⟨_,g2,he,_⟩
   ·injection he with he1 he
    exact ⟨rfl,by rw [he,he1]⟩
   ·exact absurd he.symm hrs
   ·exact absurd he.symm g2
  ·rcases tkG_key h2 with ⟨_,i',rest',_,_,he,_⟩ | ⟨rfl,_,he,_⟩ | ⟨g1,_,he,_⟩
   ·exact absurd he hrs
   ·exact ⟨rfl,he⟩
   ·exact absurd he.symm g1
  ·rcases tkG_key h2 with ⟨_,i',rest',_,_,he,_⟩ | ⟨_,he,_⟩ | ⟨_,_,h3,h4⟩
   ·exact absurd he g2
   ·exact absurd he g1
   ·exact ⟨h3,h4⟩
 ·unfold tkG
  repeat' split
  all_goals simp
theorem tkG_at [Glob] {r s:Nat} {q:List Nat} {o sz i:Nat} {rest:List Nat} (hi:i < sz):tkG r q o sz s r (q++(o+i)::rest) = .own s (i::rest):=by
 unfold tkG
 rw [if_pos rfl,cut_append]
 dsimp only
 rw [if_pos ⟨by omega,by omega⟩,show o+i - o=i by omega]
theorem tkG_off [Glob] {r s:Nat} {q:List Nat} {o sz:Nat} {q2:List Nat} (h:∀ i rest,i < sz→q2≠q++(o+i)::rest):tkG r q o sz s r q2 = .own r q2:=by
 unfold tkG
 rw [if_pos rfl]
 split
 ·rename_i y rest hc
  split
  ·rename_i hy
   exact absurd (cut_some hc) (by
    have:=h (y - o) rest (by omega)
    rwa [show o+(y - o)=y by omega] at this)
  ·rfl
 ·rfl
theorem okDmL_get {r:Nat} {l:List V} (h:okDmL r l=true) (z:Nat):okDm r (l.getD z .dead)=true:=by
 induction l generalizing z with
 | nil=>rfl
 | cons v l ih =>
  simp only [okDmL,Bool.and_eq_true] at h
  cases z with
  | zero=>exact h.1
  | succ z=>exact ih h.2 z
theorem noOnL_get {r:Nat} {l:List V} (h:noOnL r l=true) (z:Nat):(l.getD z .dead).on r=false:=by
 induction l generalizing z with
 | nil=>rfl
 | cons v l ih =>
  simp only [noOnL,Bool.and_eq_true,Bool.not_eq_true'] at h
  cases z with
  | zero=>exact h.1
  | succ z=>exact ih h.2 z
theorem lt_of_ne_dead [Glob] (hI:Inv w0 L0 N vs T a w L) {z:Nat} (h:T.getD z .dead ≠ .dead):z < N:=by
 rcases Nat.lt_or_ge z N with h1 | h1
 ·exact h1
 ·exact absurd (getD_out (by rw [hI.len]; exact h1)) h
theorem same_res [Glob] (hI:Inv w0 L0 N vs T a w L) {o:Oper} {x:Operand} {s d n:Nat} {k:IntKind} {t:Ty} {y:(Ty.pair (.int k) t).den} (ho:isMove o (.tmp s)) (hid:(T.getD d .dead).idle=true) (hs:T.getD s .dead = .odd 0 n (.pair (.int k) t) y) (hv:s∈vs) :
  PureRes P o vs T a w L d (.same s t):=by
 have hsd:s≠d:=idle_ne hid (by rw [hs]; rfl)
 refine ⟨a.tmps.getD s undef,w,L,run_isMove ho,Grows.refl hI d,fun k q hk h=>(by rw [hI.free k hk] at h; cases h),fun r hr => ?_,?_,n,k,y,?_⟩
 ·have:s=r:=by simpa [V.on,V.root] using hr
  exact this▸hv
 ·rw [getD_setA,if_neg (fun h=>hsd h.1)]
 ·rw [getD_set,if_neg (fun h=>hsd h.1),hs]
theorem step_dmMove [Glob] (hI:Inv w0 L0 N vs T a w L) {o:Oper} {x:Operand} {d:Nat} {fl:Bool} {m:M (List (Nat×V))} {ups:List (Nat×V)} {log:List Nat} (ho:isMove o x) (hdst:o.dst=some d)
  (h:(dmMoveM vs N d fl x m).Runs T ups log) (hm:∀ log,m.Runs T ups log→Step P o w0 L0 N vs (setAll T ups) a w):Step P o w0 L0 N vs (setAll T ups) a w:=by
 unfold dmMoveM at h
 split at h
 ·rename_i s
  obtain ⟨log',rfl,h⟩:=h
  generalize hv:T.getD s .dead=v at h
  dsimp only at h
  split at h
  ·rename_i n k t y
   obtain ⟨l2,rfl,hc,h⟩:=h
   simp only [Bool.and_eq_true,decide_eq_true_eq] at hc
   obtain ⟨rfl,_⟩:=h
   intro K Q hK
   exact PureRes.inv hI hc.1.2 hc.1.1 hdst (same_res (x := .tmp s) hI ho hc.1.1 hv (List.contains_iff_mem.1 hc.2)) hK
  ·rename_i n e t xs
   cases fl with
   | false=>exact hm _ h
   | true =>
    rw [cond_true] at h
    split at h
    ·rename_i hc
     obtain ⟨hdN,hsN,hds⟩:=hc
     obtain ⟨l2,rfl,hid,h⟩:=h
     obtain ⟨Ts,l3,l4,rfl,hall,hno,h⟩:=M.runs_bind h
     obtain ⟨rfl,_⟩:=h
     have hTs:Ts=T:=by rw [allM_runs hall (by rw [Nat.zero_add,hI.len])]; rfl
     subst hTs
     simp only [Bool.and_eq_true] at hid
     have hid1:=hid.1
     have hvs:s∈vs:=List.contains_iff_mem.1 hid.2
     have hss:=hI.slots s
     rw [hv] at hss
     obtain ⟨_,cs,hf,how⟩:=hss
     have hTd:(setAll Ts [(s,V.odd 0 n (.pair (.int .i64) (.slice e t)) ((0:Int),xs)),(d,.same s (.slice e t))]).getD d .dead = .same s (.slice e t):=by
      show ((Ts.set s _).set d _).getD d .dead=_
      rw [getD_set,if_pos ⟨rfl,by simp [hI.len,hdN]⟩]
     have hTs:(setAll Ts [(s,V.odd 0 n (.pair (.int .i64) (.slice e t)) ((0:Int),xs)),(d,.same s (.slice e t))]).getD s .dead = .odd 0 n (.pair (.int .i64) (.slice e t)) ((0:Int),xs):=by
      show ((Ts.set s _).set d _).getD s .dead=_
      rw [getD_set,if_neg (fun h=>hds h.1.symm),getD_set,if_pos ⟨rfl,by rw [hI.len]; exact hsN⟩]
     have hTo:∀ z,z≠d→z≠s→(setAll Ts [(s,V.odd 0 n (.pair (.int .i64) (.slice e t)) ((0:Int),xs)),(d,.same s (.slice e t))]).getD z .dead=Ts.getD z .dead:=by
      intro z h1 h2
      show ((Ts.set s _).set d _).getD z .dead=_
      rw [getD_set,if_neg (fun h=>h1 h.1),getD_set,if_neg (fun h=>h2 h.1)]
     refine Step.value (L':=L) hdst (run_isMove ho) ?_
     have hputd:(a.put (some d) (a.eval (.tmp s))).tmps.getD d undef=a.tmps.getD s undef:=by
      show (a.tmps.setIfInBounds d _).getD d undef=_
      rw [getD_setA,if_pos ⟨rfl,by rw [hI.size]; exact hdN⟩]; rfl
     have hputo:∀ z,z≠d→(a.put (some d) (a.eval (.tmp s))).tmps.getD z undef=a.tmps.getD z undef:=fun z hz=>put_other (by simpa using Ne.symm hz)
     refine Inv.upd (fun z=>z=s∨z=d) hI (by simp [Act.put,hI.size]) (by rw [length_setAll,hI.len]) hI.dfr hI.fr hI.free hI.inj ?_ (fun _ _ _ _=>⟨rfl,rfl⟩) ?_ ?_ ?_ ?_
     ·intro k z q hk
      by_cases h1:z=d
      ·subst h1
       have:=hI.owner k z q hk
       rw [V.not_owns hid1] at this; cases this
      ·by_cases h2:z=s
       ·subst h2; rw [hTs]; rfl
       ·rw [hTo z h1 h2]; exact hI.owner k z q hk
     ·intro z hz
      have hz:=not_or.1 hz
      exact ⟨hTo z hz.2 hz.1,hputo z hz.2⟩
     ·intro z r hon
      by_cases h1:z=d
      ·subst h1
       rw [hTd] at hon
       have:s=r:=by simpa [V.on,V.root] using hon
       exact this▸hvs
      ·by_cases h2:z=s
       ·subst h2; rw [hTs] at hon; simp [V.on,V.root] at hon
       ·rw [hTo z h1 h2] at hon; exact hI.roots z r hon
     ·intro z r hz hon hown
      have h1:r≠d:=idle_ne hid1 hown
      have h2:r≠s:=fun e=>by
       subst e
       have:=noOnL_get hno z
       rw [this] at hon; cases hon
      exact ⟨hTo r h1 h2,hputo r h1⟩
     ·intro z hz
      rcases hz with rfl | rfl
      ·rw [hTs,hputo _ (Ne.symm hds)]
       simp only [SRep,OddRep]
       have hf1:cs=[a.tmps.getD z undef]:=hf
       simp only [Own] at how
       rcases how with ⟨h1,h2⟩ | ⟨g,cap,cur,h1,h2,h3,h4,h5,h6,h7⟩
       ·rw [h1] at hf1
        exact .inl ⟨(List.cons.inj hf1).1.symm,h2⟩
       ·rw [h1] at hf1
        refine .inr ⟨g,cap,cur,(List.cons.inj hf1).1.symm,by simpa using h2,h3,h4,h5,h6,fun j hj _ => ?_⟩
        simpa using h7 j hj
      ·rw [hTd,hputd]
       exact ⟨(hputo s (Ne.symm hds)).symm,n,.i64,_,hTs⟩
    ·exact h.elim
  ·exact hm _ h
 ·exact hm _ h
theorem same_slice [Glob] (hI:Inv w0 L0 N vs T a w L) {t r n:Nat} {tt:Ty} {ty:Ty} {x:ty.den} (ht:T.getD t .dead = .same r tt) (hr:T.getD r .dead = .odd 0 n ty x):a.tmps.getD t undef=a.tmps.getD r undef:=by
 have:=hI.slots t
 rw [ht] at this
 exact this.1
theorem step_dmLen [Glob] (hI:Inv w0 L0 N vs T a w L) (hC:CtxOk P C) {o:Oper} {args:Array Operand} {ats:Array TypeId} {d:Nat} {m:M (List (Nat×V))} {ups:List (Nat×V)} {log:List Nat} (ho:o.op = .call { callee := .builtin .len,args,argTypes:=ats }) (hdst:o.dst=some d) (hd:d < N) (hid:(T.getD d .dead).idle=true)
  (h:(dmLenM C d args.toList ats.toList m).Runs T ups log) (hm:∀ log,m.Runs T ups log→Step P o w0 L0 N vs (setAll T ups) a w):Step P o w0 L0 N vs (setAll T ups) a w:=by
 obtain ⟨args⟩:=args
 obtain ⟨ats⟩:=ats
 dsimp only at h
 unfold dmLenM at h
 split at h
 ·rename_i t X
  obtain ⟨log',rfl,h⟩:=h
  generalize ht:T.getD t .dead=v at h
  dsimp only at h
  split at h
  ·rename_i r tt
   obtain ⟨log2,rfl,h⟩:=h
   generalize hr:T.getD r .dead=u at h
   dsimp only at h
   split at h
   ·rename_i n ty x
    unfold dmLen1 at h
    split at h
    ·rename_i k e te x
     split at h
     ·rename_i hX
      obtain ⟨rfl,_⟩:=h
      have h1:=same_slice hI ht hr
      have hs:=hI.slots r
      rw [hr] at hs
      simp only [SRep,OddRep] at hs
      have hlen:∃ A c,a.eval (.tmp t) = .slice A (x.2:List te.den).length c:=by
       rcases hs with ⟨h2,h3⟩ | ⟨g,cap,cur,h2,_⟩
       ·refine ⟨none,0,?_⟩
        show a.tmps.getD t undef=_
        rw [h1,h2,h3]; rfl
       ·exact ⟨_,_,h1.trans h2⟩
      obtain ⟨A,c,hlen⟩:=hlen
      intro K Q hK
      refine PureRes.inv hI hd hid hdst (PureRes.still hI (c := .int .i64 (x.2.length:Int)) ?_ (fun _=>rfl) SRep.mkInt) hK
      have hu:=(hC X _ hX).und
      have hc:(Builtin.len_ #[X] o.type #[a.eval (.tmp t)]).run P w = .ok (.int .i64 (x.2.length:Int)) w:=by
       rw [hlen]
       simp [Builtin.len_,run_underlying hu.1,goInt]
      simp [execOp,ho,resolve,invoke,builtin,hc]
     ·exact h.elim
    ·exact h.elim
   ·exact hm _ h
  ·exact hm _ h
 ·exact hm _ h
theorem step_dmIdx [Glob] (hI:Inv w0 L0 N vs T a w L) (hC:CtxOk P C) {o:Oper} {X:TypeId} {t:Nat} {y:Operand} {d:Nat} {m:M (List (Nat×V))} {ups:List (Nat×V)} {log:List Nat} (ho:o.op = .indexAddr X (.tmp t) y) (hdst:o.dst=some d) (hd:d < N) (hid:(T.getD d .dead).idle=true)
  (h:(dmIdxM C vs X d t y m).Runs T ups log) (hm:∀ log,m.Runs T ups log→Step P o w0 L0 N vs (setAll T ups) a w):Step P o w0 L0 N vs (setAll T ups) a w:=by
 unfold dmIdxM at h
 obtain ⟨log',rfl,h⟩:=h
 generalize ht:T.getD t .dead=v at h
 dsimp only at h
 split at h
 ·rename_i r tt
  obtain ⟨log2,rfl,h⟩:=h
  generalize hr:T.getD r .dead=u at h
  dsimp only at h
  split at h
  ·rename_i n ty x
   obtain ⟨z,l1,l2,rfl,hz,h⟩:=M.runs_bind h
   split at h
   ·rename_i ll nn ki i
    have hy:=opnd_int hI hz
    unfold dmIdx1 at h
    split at h
    ·rename_i k e te x _
     split at h
     ·rename_i hte
      obtain ⟨y0,hy0,hvs,rfl,_⟩:=h
      obtain ⟨hi,hi0,rfl⟩:=getI_some hy0
      have h1:=same_slice hI ht hr
      have hs:=hI.slots r
      rw [hr] at hs
      simp only [SRep,OddRep] at hs
      rcases hs with ⟨_,h3⟩ | ⟨g,cap,cur,h2,h3,_⟩
      ·rw [h3] at hi; exact absurd hi (by simp)
      ·have h1':a.eval (.tmp t)=_:=h1.trans h2
       have hrun:(execOp a.eval o).run P w = .ok (.value (.pointer (some ⟨g,0+i.toNat*te.sz,none⟩))) w:=by
        simp [execOp,ho,h1',hy,run_indexAt hC hte hi0 hi]
       intro K Q hK
       refine PureRes.inv hI hd hid hdst (PureRes.ptr hI (g:=g) ?_ h3 (fun r' hr' => ?_)) hK
       ·rw [hrun]; simp [node]
       ·have:r=r':=by simpa [V.on,V.root] using hr'
        exact this▸List.contains_iff_mem.1 hvs
     ·exact h.elim
    ·exact h.elim
   ·exact h.elim
  ·exact hm _ h
 ·exact hm _ h
theorem step_dmLoad [Glob] (hI:Inv w0 L0 N vs T a w L) (hC:CtxOk P C) {o:Oper} {X:TypeId} {t:Nat} {d:Nat} {ups:List (Nat×V)} {log:List Nat} (ho:o.op = .load X (.tmp t)) (hdst:o.dst=some d)
  (h:(dmLoadM C N X d t).Runs T ups log):Step P o w0 L0 N vs (setAll T ups) a w:=by
 unfold dmLoadM at h
 obtain ⟨log',rfl,h⟩:=h
 generalize ht:T.getD t .dead=v at h
 dsimp only at h
 split at h
 ·rename_i r sz i tt
  obtain ⟨log2,rfl,h⟩:=h
  generalize hr:T.getD r .dead=u at h
  dsimp only at h
  split at h
  ·rename_i n ty x
   unfold dmLoad1 at h
   split at h
   ·rename_i k e te x
    split at h
    ·rename_i hc
     obtain ⟨hX,hd0,hn0,rfl,hdN,hrN,hdr⟩:=hc
     obtain ⟨l3,rfl,hidle,y,hy,h⟩:=h
     obtain ⟨Ts,l4,l5,rfl,hall,hok,h⟩:=M.runs_bind h
     obtain ⟨rfl,_⟩:=h
     have hTs:Ts=T:=by rw [allM_runs hall (by rw [Nat.zero_add,hI.len])]; rfl
     subst hTs
     simp only [Bool.and_eq_true,decide_eq_true_eq] at hidle
     obtain ⟨hid,hle⟩:=hidle
     obtain ⟨hi,hi0,rfl⟩:=getI_some hy
     have hst:=hI.slots t
     rw [ht] at hst
     obtain ⟨g0,hp,hg0⟩:=hst
     have hs:=hI.slots r
     rw [hr] at hs
     have hs2:=hs
     simp only [SRep,OddRep] at hs
     rcases hs with ⟨_,h3⟩ | ⟨g,cap,cur,h2,h3,h4,h5,h6,h7,h8⟩
     ·rw [h3] at hi; exact absurd hi (by simp)
     obtain rfl:=hI.inj g0 g r _ hg0 (by simpa [node] using h3)
     have hle:x.1≤i:=hle
     have helem:=h8 i.toNat hi (Int.le_trans hle (Int.le_of_eq (Int.toNat_of_nonneg hi0).symm))
     have hinB:InB w L (SL L none) r n te (x.2[i.toNat]) (node [] 0 [St.idx te.sz i]).1 (node [] 0 [St.idx te.sz i]).2:=by
      refine ⟨g0,cur,e,hg0,h4,?_,helem⟩
      simp only [node]
      rw [h7,← Nat.succ_mul]
      exact Nat.mul_le_mul_right _ (Nat.lt_of_lt_of_le hi h5)
     obtain ⟨c,cur2,e2,hrun,hh,hsz,hf,ho'⟩:=inB_load hI hC hX hinB hg0
     have hp':a.eval (.tmp t)=_:=hp
     have hrun':(execOp a.eval o).run P w = .ok (.value c) w:=by simp [execOp,ho,hp',Instr.loadAt,Instr.sureAddr,hrun]
     have hTd:(setAll Ts [(r,V.odd 0 n (.pair (.int k) (.slice e te)) (i+1,x.2)),(d,.d none n te (x.2[i.toNat]))]).getD d .dead = .d none n te (x.2[i.toNat]):=by
      show ((Ts.set r _).set d _).getD d .dead=_
      rw [getD_set,if_pos ⟨rfl,by simp [hI.len,hdN]⟩]
     have hTr:(setAll Ts [(r,V.odd 0 n (.pair (.int k) (.slice e te)) (i+1,x.2)),(d,.d none n te (x.2[i.toNat]))]).getD r .dead = .odd 0 n (.pair (.int k) (.slice e te)) (i+1,x.2):=by
      show ((Ts.set r _).set d _).getD r .dead=_
      rw [getD_set,if_neg (fun h=>hdr h.1.symm),getD_set,if_pos ⟨rfl,by rw [hI.len]; exact hrN⟩]
     have hTo:∀ z,z≠d→z≠r→(setAll Ts [(r,V.odd 0 n (.pair (.int k) (.slice e te)) (i+1,x.2)),(d,.d none n te (x.2[i.toNat]))]).getD z .dead=Ts.getD z .dead:=by
      intro z h1 h2
      show ((Ts.set r _).set d _).getD z .dead=_
      rw [getD_set,if_neg (fun h=>h1 h.1),getD_set,if_neg (fun h=>h2 h.1)]
     have hputd:(a.put (some d) c).tmps.getD d undef=c:=by
      show (a.tmps.setIfInBounds d _).getD d undef=_
      rw [getD_setA,if_pos ⟨rfl,by rw [hI.size]; exact hdN⟩]
     have hputo:∀ z,z≠d→(a.put (some d) c).tmps.getD z undef=a.tmps.getD z undef:=fun z hz=>put_other (by simpa using Ne.symm hz)
     have hkid:∀ z,(Ts.getD z .dead).on r=true→(∃ t',Ts.getD z .dead = .same r t')∨∃ sz' i' t',Ts.getD z .dead = .ptr r [.idx sz' i'] t':=by
      intro z hon
      have hz:=okDmL_get hok z
      unfold okDm at hz
      rw [hon,Bool.not_true,Bool.false_or] at hz
      generalize Ts.getD z .dead=v at hz hon
      cases v with
      | same r' t' =>
       have:r'=r:=by simpa [V.on,V.root] using hon
       exact .inl ⟨t',by rw [this]⟩
      | ptr r' p t' =>
       have:r'=r:=by simpa [V.on,V.root] using hon
       subst this
       match p,hz with
       | [.idx sz' i'],_=>exact .inr ⟨sz',i',t',rfl⟩
      | _=>cases hz
     have hlab0:∀ k' q',L k' = .own r q'→(∀ i' rest,i' < te.sz→q'≠[0]++(i.toNat*te.sz+i')::rest)→newLab (tkG r [0] (i.toNat*te.sz) te.sz d) w L (fun _ => .free) k' = .own r q':=by
      intro k' q' hk hq
      rw [newLab_old hI (by rw [hk]; simp),hk]
      exact tkG_off hq
     refine Step.value (L':=newLab (tkG r [0] (i.toNat*te.sz) te.sz d) w L (fun _ => .free)) hdst hrun' ?_
     refine Inv.updF (X:=fun z=>z=r∨z=d∨(Ts.getD z .dead).on r=true) (nl:=fun _ => .free) hI (tkG_fun (.inl rfl) (.inr (.inl rfl)) (Ne.symm hdr)) (Wd.refl hI _) (fun _ _ _ _ _ h=>by cases h) (by simp [Act.put,hI.size]) (by rw [length_setAll,hI.len]) hI.dfr ?_ ?_ ?_ ?_ ?_
     ·intro k' z q hz' h
      by_cases h1:z=r
      ·subst h1; rw [hTr]; rfl
      ·by_cases h9:z=d
       ·subst h9; rw [hTd]; simp [V.owns,hn0,hd0]
       ·rw [hTo z h9 h1]
        unfold newLab at h
        split at h
        ·obtain ⟨s0,q0,e0,f0⟩:=relab_own h
         rcases tkG_key f0 with ⟨_,_,_,_,_,j3,_⟩ | ⟨_,j3,_⟩ | ⟨_,_,j3,j4⟩
         ·exact absurd j3 h9
         ·exact absurd j3 h1
         ·subst j3
          exact hI.owner k' _ _ e0
        ·cases h
     ·intro z r' hz' hon hr'
      have hz':=not_or.1 hz'
      have hz2:=not_or.1 hz'.2
      rcases hr' with rfl | rfl | hr'
      ·exact absurd hon hz2.2
      ·exact V.not_owns hid
      ·rcases hkid r' hr' with ⟨_,he⟩ | ⟨_,_,_,he⟩ <;> rw [he] <;> rfl
     ·intro z hz'
      have hz':=not_or.1 hz'
      have hz2:=not_or.1 hz'.2
      exact ⟨hTo z hz2.1 hz'.1,hputo z hz2.1⟩
     ·intro z r' hz' hon
      by_cases h1:z=r
      ·subst h1; rw [hTr] at hon; simp [V.on,V.root] at hon
      ·by_cases h9:z=d
       ·subst h9; rw [hTd] at hon; simp [V.on,V.root] at hon
       ·rw [hTo z h9 h1] at hon
        exact hI.roots z r' hon
     ·intro z hz'
      by_cases h1:z=r
      ·subst h1
       rw [hTr,hputo _ (Ne.symm hdr)]
       simp only [SRep,OddRep]
       refine .inr ⟨g0,cap,cur,h2,hlab0 _ _ h3 (fun i' rest _ h=>by have:=congrArg List.length h; simp at this),h4,h5,h6,h7,fun j hj hle2 => ?_⟩
       have hle2:i+1≤(j:Int):=hle2
       refine Own.move (fun k' hk => ?_) (fun k' dd rest hdd hk=>⟨?_,rfl⟩) (h8 j hj (Int.le_trans hle (by omega)))
       ·rcases hk with hk | ⟨_,_,hk,_⟩
        ·exact ⟨.inl (newLab_stable hI hk),rfl⟩
        ·cases hk
       ·refine hlab0 _ _ hk (fun i' rest' hi' he => ?_)
        simp only [List.cons_append,List.nil_append,List.cons.injEq,true_and] at he
        have h10:(i.toNat+1)*te.sz≤j*te.sz:=Nat.mul_le_mul_right _ (by omega)
        rw [Nat.add_mul,Nat.one_mul] at h10
        omega
      ·by_cases h9:z=d
       ·subst h9
        rw [hTd,hputd]
        refine ⟨by simp,_,hf,?_⟩
        refine Own.move (fun k' hk => ?_) (fun k' dd rest hdd hk=>⟨?_,rfl⟩) ho'
        ·rcases hk with hk | ⟨_,_,hk,_⟩
         ·exact ⟨.inl (newLab_stable hI hk),rfl⟩
         ·cases hk
        ·rw [newLab_old hI (by rw [hk]; simp),hk]
         simp only [relab,node,Nat.zero_add,List.nil_append]
         exact tkG_at hdd
       ·rw [hTo z h9 h1,hputo z h9]
        have hon:(Ts.getD z .dead).on r=true:=by
         rcases hz' with h | h | h
         ·exact absurd h h1
         ·exact absurd h h9
         ·exact h
        have hsz':=hI.slots z
        rcases hkid z hon with ⟨t',he⟩ | ⟨sz',i',t',he⟩
        ·rw [he] at hsz' ⊢
         obtain ⟨j1,n1,k1,x1,j2⟩:=hsz'
         rw [hr] at j2
         cases j2
         exact ⟨j1.trans (hputo r (Ne.symm hdr)).symm,n,k,_,hTr⟩
        ·rw [he] at hsz' ⊢
         obtain ⟨g2,j1,j2⟩:=hsz'
         exact ⟨g2,j1,hlab0 _ _ j2 (fun i' rest _ h=>by have:=congrArg List.length h; simp [node] at this)⟩
    ·exact h.elim
   ·exact h.elim
  ·exact h.elim
 ·exact h.elim
end
end Go.Proofs.YtkanidldnnfloaaGreat.P.Am
set_option linter.unusedVariables false
set_option linter.unusedSimpArgs false
namespace Go.Proofs.YtkanidldnnfloaaGreat.P.Am
def fullB:Nat→Ty→Bool
 | m,.pair a b=>(a.depth == 0 || m.testBit 0) && fullB (m / 2) b
 | m,t=>t.depth == 0 || m.testBit 0
def mixV (m:Nat) (ta:Ty) (x:ta.den):V:=cond (fullB m ta) (.box none ta.depth (.agg ta) x) (.odd 1 m (.agg ta) x)
def mixM (C:Ctx) (vs:List Nat) (N:Nat) (kids:List Nat) (X:TypeId) (r i off m0:Nat) (ta:Ty) (x0:ta.den) (x:Operand):M (List (Nat×V)) :=
 match x with
 | .tmp s => .get s fun v=>match v with
  | .d none k t1 y=>match comp i ta x0 with
   | some (o,⟨t2,_⟩)=>if o=off∧t2=t1∧t1.depth≠0∧t1.depth≤k∧C.ty X=some t1∧vs.contains s=false∧s≠r∧r < N∧m0.testBit i=false∧ta.depth≠0 then
     (modC i ta x0 (fun t' x'=>modP [] t' x' t1 y)).bind fun x2=>bareM false r s kids (.ret [(r,mixV (m0 ||| 2 ^ i) ta x2),(s,.dead)])
    else .fail
   | none => .fail
  | _ => .fail
 | _ => .fail
def mixStoreM (C:Ctx) (vs:List Nat) (N:Nat) (kids:List Nat) (X:TypeId) (r:Nat) (p:List St) (u:V) (x:Operand) (m:M (List (Nat×V))):M (List (Nat×V)) :=
 match p with
 | [.fld i off]=>match u with
  | .box none 0 (.agg ta) x0=>mixM C vs N kids X r i off 0 ta x0 x
  | .odd 1 m0 (.agg ta) x0=>mixM C vs N kids X r i off m0 ta x0 x
  | _=>m
 | _=>m
section
variable {P:Program} {C:Ctx} {w w' w0:World} {S S':Nat→Prop} {L L' L0:Nat→Lab} {s N:Nat} {vs:List Nat} {T T':List V} {tm tm':Array Value} {a:Act}
theorem MixF.move [Glob] {r:Nat} (H1:∀ k,L k = .stable→L' k = .stable∧w'.heap[k]? = w.heap[k]?):{t:Ty}→{m:Nat}→{x:t.den}→{o:Nat}→{cs:List Value} →
  (∀ k d rest,d < t.sz→L k = .own r ((o+d)::rest)→L' k = .own r ((o+d)::rest)∧w'.heap[k]? = w.heap[k]?)→MixF w L r m t x o cs→MixF w' L' r m t x o cs:=by
 have HS:∀ k,SL L none k→SL L' none k∧w'.heap[k]? = w.heap[k]? := by
  rintro k (hk | ⟨_,_,hk,_⟩)
  ·exact ⟨.inl (H1 k hk).1,(H1 k hk).2⟩
  ·cases hk
 intro t
 induction t with
 | pair a b _ ih =>
  intro m x o cs H2 h
  obtain ⟨c0,c1,h1,h2,h3⟩:=h
  refine ⟨c0,c1,h1,Own.move HS (fun k d rest hd hk=>H2 k d rest (by simp only [Ty.sz]; omega) hk) h2,ih (fun k d rest hd hk => ?_) h3⟩
  have:=H2 k (a.sz+d) rest (by simp only [Ty.sz]; omega) (by rw [hk,Nat.add_assoc])
  rwa [← Nat.add_assoc] at this
 | _=>intro m x o cs H2 h; simp only [MixF] at h ⊢; exact Own.move HS H2 h
theorem MixF.of0 [Glob] {r:Nat}:{t:Ty}→{x:t.den}→{o:Nat}→{cs:List Value}→Own w L (SL L none) r 0 t x [] o cs→MixF w L r 0 t x o cs:=by
 intro t
 induction t with
 | pair a b _ ih =>
  intro x o cs h
  simp only [Own] at h
  obtain ⟨c0,c1,h1,h2,h3⟩:=h
  exact ⟨c0,c1,h1,by simpa using h2,ih h3⟩
 | _=>intro x o cs h; simp only [MixF]; simpa using h
theorem MixF.full [Glob] {r:Nat}:{t:Ty}→{m:Nat}→{x:t.den}→{o:Nat}→{cs:List Value}→{D:Nat}→t.depth≤D→fullB m t=true→MixF w L r m t x o cs→Own w L (SL L none) r D t x [] o cs:=by
 have one:∀ {t:Ty} {m:Nat} {x:t.den} {o:Nat} {cs:List Value} {D:Nat},t.depth≤D→(t.depth == 0 || m.testBit 0)=true→Own w L (SL L none) r (cond (m.testBit 0) t.depth 0) t x [] o cs→Own w L (SL L none) r D t x [] o cs:=by
  intro t m x o cs D hD hf h
  cases hb:m.testBit 0 with
  | true=>rw [hb] at h; exact Own.cap (Nat.le_refl _) hD h
  | false =>
   rw [hb,Bool.or_false] at hf
   exact Own.flat (by simpa using hf) h
 intro t
 induction t with
 | pair a b _ ih =>
  intro m x o cs D hD hf h
  obtain ⟨c0,c1,h1,h2,h3⟩:=h
  simp only [fullB,Bool.and_eq_true] at hf
  simp only [Ty.depth] at hD
  simp only [Own]
  exact ⟨c0,c1,h1,one (by omega) hf.1 h2,ih (by omega) hf.2 h3⟩
 | _=>intro m x o cs D hD hf h; simp only [MixF] at h; exact one hD hf h
theorem or_bit0 (m i:Nat):(m ||| 2 ^ (i+1)).testBit 0=m.testBit 0∧(m ||| 2 ^ (i+1)) / 2=m / 2 ||| 2 ^ i:=by
 refine ⟨?_,?_⟩
 ·rw [Nat.testBit_or,Nat.testBit_two_pow]; simp
 ·rw [Nat.or_div_two,Nat.pow_succ,Nat.mul_div_cancel _ (by omega)]
theorem or_bit1 (m:Nat):(m ||| 2 ^ 0).testBit 0=true∧(m ||| 2 ^ 0) / 2=m / 2:=by
 refine ⟨?_,?_⟩
 ·rw [Nat.testBit_or,Nat.testBit_two_pow]; simp
 ·rw [Nat.or_div_two]; simp
theorem modP_nil {t1 t':Ty} {x1:t1.den} {y:t'.den} {z:t1.den} {log:List Nat} (h:(modP [] t1 x1 t' y).Runs T z log):∃ e:t'=t1,z=e▸y:=by
 simp only [modP] at h
 split at h
 ·rename_i e
  exact ⟨e,h.1⟩
 ·exact h.elim
theorem MixF.mod [Glob] {r:Nat} (H1:∀ k,L k = .stable→L' k = .stable∧w'.heap[k]? = w.heap[k]?):{t:Ty}→{i m:Nat}→{x x':t.den}→{o:Nat}→{cs cs':List Value}→{t1:Ty}→{y x1:t1.den}→{o1:Nat}→{log:List Nat} →
  comp i t x=some (o1,⟨t1,x1⟩)→(modC i t x (fun t' x'=>modP [] t' x' t1 y)).Runs T x' log →
  (∀ k d rest,d < t.sz→¬ (o1≤d∧d < o1+t1.sz)→L k = .own r ((o+d)::rest)→L' k = .own r ((o+d)::rest)∧w'.heap[k]? = w.heap[k]?) →
  cs'.length=cs.length→(∀ j,j < o1∨o1+t1.sz≤j→cs'[j]? = cs[j]?)→Own w' L' (SL L' none) r t1.depth t1 y [] (o+o1) ((cs'.drop o1).take t1.sz) →
  MixF w L r m t x o cs→MixF w' L' r (m ||| 2 ^ i) t x' o cs':=by
 have HS:∀ k,SL L none k→SL L' none k∧w'.heap[k]? = w.heap[k]? := by
  rintro k (hk | ⟨_,_,hk,_⟩)
  ·exact ⟨.inl (H1 k hk).1,(H1 k hk).2⟩
  ·cases hk
 intro t
 induction t with
 | pair a b _ ih =>
  intro i m x x' o cs cs' t1 y x1 o1 log hc hm H2 hl hsame hy h
  have hlen:=MixF.len h
  obtain ⟨c0,c1,rfl,h2,h3⟩:=h
  have hl0:=Own.len h2
  cases i with
  | zero =>
   simp only [comp,Option.some.injEq,Prod.mk.injEq] at hc
   obtain ⟨rfl,hc⟩:=hc
   cases hc
   simp only [modC] at hm
   obtain ⟨z,l1,l2,rfl,hz,h5,_⟩:=M.runs_bind hm
   obtain ⟨e,rfl⟩:=modP_nil hz
   subst h5
   obtain ⟨k1,k2⟩:=or_bit1 m
   refine ⟨cs'.take a.sz,c1,?_,?_,?_⟩
   ·apply List.ext_getElem?
    intro j
    by_cases hj:j < a.sz
    ·rw [List.getElem?_append_left (by rw [List.length_take]; simp only [List.length_append] at hl; omega),List.getElem?_take_of_lt hj]
    ·have hll:(cs'.take a.sz).length=a.sz:=by rw [List.length_take]; simp only [List.length_append] at hl; omega
     rw [List.getElem?_append_right (by omega),hll,hsame j (.inr (by omega)),List.getElem?_append_right (by omega),hl0]
   ·rw [k1]
    simpa using hy
   ·rw [k2]
    refine MixF.move H1 (fun k d rest hd hk => ?_) h3
    have:=H2 k (a.sz+d) rest (by simp only [Ty.sz]; omega) (by omega) (by rw [hk,Nat.add_assoc])
    rwa [← Nat.add_assoc] at this
  | succ i =>
   simp only [comp,Option.map_eq_some_iff] at hc
   obtain ⟨⟨o2,t2,x2⟩,hc,he⟩:=hc
   simp only [Prod.mk.injEq] at he
   obtain ⟨rfl,he⟩:=he
   cases he
   simp only [modC] at hm
   obtain ⟨z,l1,l2,rfl,hz,h5,_⟩:=M.runs_bind hm
   subst h5
   obtain ⟨k1,k2⟩:=or_bit0 m i
   have hlc:cs'.length=a.sz+b.sz:=by rw [hl]; simpa [Ty.sz] using hlen
   refine ⟨c0,cs'.drop a.sz,?_,?_,?_⟩
   ·apply List.ext_getElem?
    intro j
    by_cases hj:j < a.sz
    ·rw [List.getElem?_append_left (by omega),hsame j (.inl (by omega)),List.getElem?_append_left (by omega)]
    ·rw [List.getElem?_append_right (by omega),List.getElem?_drop,hl0,show a.sz+(j - a.sz)=j by omega]
   ·rw [k1]
    exact Own.move HS (fun k d rest hd hk=>H2 k d rest (by simp only [Ty.sz]; omega) (by omega) hk) h2
   ·rw [k2]
    refine ih hc hz (fun k d rest hd hn hk => ?_) ?_ (fun j hj => ?_) ?_ h3
    ·have:=H2 k (a.sz+d) rest (by simp only [Ty.sz]; omega) (by omega) (by rw [hk,Nat.add_assoc])
     rwa [← Nat.add_assoc] at this
    ·simp only [List.length_append] at hl
     rw [List.length_drop]; omega
    ·rw [List.getElem?_drop,hsame _ (by omega),List.getElem?_append_right (by omega),hl0,show a.sz+j - a.sz=j by omega]
    ·rw [List.drop_drop,← Nat.add_assoc] at *
     exact hy
 | _ =>
  intro i m x x' o cs cs' t1 y x1 o1 log hc hm H2 hl hsame hy h
  cases i with
  | zero =>
   simp only [comp,Option.some.injEq,Prod.mk.injEq] at hc
   obtain ⟨rfl,hc⟩:=hc
   cases hc
   simp only [modC] at hm
   obtain ⟨e,rfl⟩:=modP_nil hm
   have hlen:=MixF.len h
   simp only [MixF]
   rw [(or_bit1 m).1]
   rw [List.drop_zero,List.take_of_length_le (by omega)] at hy
   exact hy
  | succ i=>simp [comp] at hc
theorem mixV_owns {m:Nat} {ta:Ty} {x:ta.den}:(mixV m ta x).owns=true∧(mixV m ta x).root=none:=by
 unfold mixV
 cases fullB m ta <;> exact ⟨rfl,rfl⟩
theorem step_mix1 [Glob] (hI:Inv w0 L0 N vs T a w L) (hC:CtxOk P C) {o:Oper} {X:TypeId} {t r i off m0:Nat} {ta:Ty} {x0:ta.den} {kids:List Nat} {x:Operand} {ups:List (Nat×V)} {log:List Nat} (ho:o.op = .store X (.tmp t) x) (hdst:o.dst=none)
  (hev:∃ g,a.eval (.tmp t) = .pointer (some ⟨g,off,none⟩)∧L g = .own r [])
  (hrep:∃ g cur e,a.tmps.getD r undef = .pointer (some ⟨g,0,none⟩)∧L g = .own r []∧w.heap[g]? = some (.cells cur e (0,0))∧cur.size=ta.sz∧MixF w L r m0 ta x0 0 cur.toList)
  (hrd:(T.getD r .dead).isD=false) (h:(mixM C vs N kids X r i off m0 ta x0 x).Runs T ups log):Step P o w0 L0 N vs (setAll T ups) a w:=by
 unfold mixM at h
 split at h
 ·rename_i s
  obtain ⟨log',rfl,h⟩:=h
  generalize hv:T.getD s .dead=v at h
  dsimp only at h
  split at h
  ·rename_i k t1 y
   split at h
   ·rename_i o1 t2 x1 hcomp
    split at h
    ·rename_i hc
     obtain ⟨rfl,rfl,hd0,hdk,hX,hvs,hsr,hrN,hbit,hta⟩:=hc
     obtain ⟨x2,l1,l2,rfl,hmo,h⟩:=M.runs_bind h
     obtain ⟨hbare,log2,h⟩:=bareM_runs h
     obtain ⟨rfl,_⟩:=h
     have hsvs:s ∉ vs:=fun hm=>by rw [List.contains_iff_mem.2 hm] at hvs; cases hvs
     obtain ⟨g,hp,hg⟩:=hev
     obtain ⟨g',cur,e,c1,c2,c3,c4,c5⟩:=hrep
     obtain rfl:=hI.inj g g' r _ hg c2
     have hss:=hI.slots s
     rw [hv] at hss
     obtain ⟨_,cs,hf,how⟩:=hss
     have hone:=Own.one how
     have hlen:=Own.len how
     obtain ⟨hb1,_⟩:=MixF.compo c5 hcomp
     have hsz:o1+t2.sz≤cur.size:=by rw [c4]; exact hb1
     have hrun:(execOp a.eval o).run P w = .ok .skip (w.setRow g (putCells cur o1 cs)):=by
      have hf':Form t2 cs (a.eval (.tmp s)):=hf
      simp [execOp,ho,hp,run_store_cells (hC X _ hX) c3 hf' hone hlen hsz]
     have hsN:s < N:=lt_of_ne_dead hI (by rw [hv]; simp)
     have hptr:∀ z,z≠s→(T.getD z .dead).on r=true→∃ p' t',T.getD z .dead = .ptr r p' t'∧shallow p'=true:=by
      intro z hzs hon
      have hb:(T.getD z .dead).deepOn r=false:=hbare z hzs
      unfold V.deepOn at hb
      rw [hon,Bool.true_and] at hb
      generalize T.getD z .dead=v at hb hon
      cases v with
      | ptr r2 p2 t2 =>
       have:r2=r:=by simpa [V.on,V.root] using hon
       subst this
       exact ⟨p2,t2,rfl,by simpa using hb⟩
      | _=>simp at hb
     have hTs:(setAll T [(r,mixV (m0 ||| 2 ^ i) ta x2),(s,.dead)]).getD s .dead = .dead:=by
      show ((T.set r _).set s _).getD s .dead=_
      rw [getD_set,if_pos ⟨rfl,by simp [hI.len,hsN]⟩]
     have hTr:(setAll T [(r,mixV (m0 ||| 2 ^ i) ta x2),(s,.dead)]).getD r .dead=mixV (m0 ||| 2 ^ i) ta x2:=by
      show ((T.set r _).set s _).getD r .dead=_
      rw [getD_set,if_neg (fun h=>hsr h.1.symm),getD_set,if_pos ⟨rfl,by rw [hI.len]; exact hrN⟩]
     have hTo:∀ z,z≠r→z≠s→(setAll T [(r,mixV (m0 ||| 2 ^ i) ta x2),(s,.dead)]).getD z .dead=T.getD z .dead:=by
      intro z h1 h2
      show ((T.set r _).set s _).getD z .dead=_
      rw [getD_set,if_neg (fun h=>h2 h.1),getD_set,if_neg (fun h=>h1 h.1)]
     have hsrc:some s≠some r:=by simpa using hsr
     have hw':∀ k,k≠g→(w.setRow g (putCells cur o1 cs)).heap[k]? = w.heap[k]? := fun k hk=>setRow_other w g k _ hk
     have hfun:Fun (stF r [] o1 t2.sz t2.depth (some s)) (fun z=>z=r∨z=s∨(T.getD z .dead).on r=true):=stF_fun hsrc (.inl rfl) (fun s' h=>by cases h; exact .inr (.inl rfl))
     have hlabr:∀ kk z,L kk = .own r z→¬ Under [] o1 t2.sz z→newLab (stF r [] o1 t2.sz t2.depth (some s)) w L (fun _ => .free) kk = .own r z:=by
      intro kk z hk hu
      rw [newLab_old hI (by rw [hk]; simp),hk]
      simp only [relab,stF]
      rw [if_pos trivial,if_neg]
      intro h
      simp only [Bool.and_eq_true] at h
      exact hu (underB_spec.1 h.2)
     have hnil:∀ {q},Under [] o1 t2.sz q→q≠[]:=by
      rintro q ⟨d,rest,_,rfl⟩ h; simp at h
     have hLg:newLab (stF r [] o1 t2.sz t2.depth (some s)) w L (fun _ => .free) g = .own r []:=hlabr g [] hg (fun h=>hnil h rfl)
     intro K Q hK
     unfold Oper.wp
     rw [hrun,Oper.upon_skip,hdst]
     refine hK a _ (newLab (stF r [] o1 t2.sz t2.depth (some s)) w L (fun _ => .free)) ?_
     refine Inv.updF (X:=fun z=>z=r∨z=s∨(T.getD z .dead).on r=true) hI hfun ?_ (fun _ _ _ _ _ h=>by cases h) hI.size (by rw [length_setAll,hI.len]) hI.dfr ?_ ?_ ?_ ?_ ?_
     ·refine ⟨rfl,rfl,rfl,by simp [World.setRow],Nat.le_refl _,fun kk hk hx=>hw' kk ?_,fun _ _=>rfl,fun _ _ _ _ h=>by cases h⟩
      rintro rfl
      exact hx r _ hg (.inl rfl)
     ·intro kk z q hX' h
      by_cases h1:z=r
      ·subst h1; rw [hTr]; exact mixV_owns.1
      ·unfold newLab at h
       split at h
       ·obtain ⟨s0,q0,e0,f0⟩:=relab_own h
        rcases stF_key hsrc f0 with ⟨_,rfl,_⟩ | ⟨_,rfl,_⟩ | ⟨h2,h3,rfl,rfl⟩
        ·exact absurd rfl h1
        ·exact absurd rfl h1
        ·have h3:z≠s:=fun e=>h3 (by rw [e])
         rw [hTo z h1 h3]
         exact hI.owner kk z q e0
       ·cases h
     ·intro z r' hz' hon hr'
      have hz':=not_or.1 hz'
      have hz2:=not_or.1 hz'.2
      rcases hr' with rfl | rfl | hr'
      ·exact absurd hon hz2.2
      ·exact absurd (hI.roots z r' hon) hsvs
      ·by_cases h2:r'=s
       ·subst h2
        exact absurd (hI.roots z r' hon) hsvs
       ·obtain ⟨p',t',he,_⟩:=hptr r' h2 hr'
        rw [he]; rfl
     ·intro z hz'
      have hz':=not_or.1 hz'
      have hz2:=not_or.1 hz'.2
      exact ⟨hTo z hz'.1 hz2.1,rfl⟩
     ·intro z r' hz' hon
      by_cases h1:z=r
      ·subst h1; rw [hTr] at hon; simp [V.on,mixV_owns.2] at hon
      ·by_cases h2:z=s
       ·subst h2; rw [hTs] at hon; simp [V.on,V.root] at hon
       ·rw [hTo z h1 h2] at hon
        exact hI.roots z r' hon
     ·intro z hz'
      by_cases h1:z=r
      ·subst h1
       rw [hTr]
       have hmix:MixF (w.setRow g (putCells cur o1 cs)) (newLab (stF z [] o1 t2.sz t2.depth (some s)) w L (fun _ => .free)) z (m0 ||| 2 ^ i) ta x2 0 (putCells cur o1 cs).toList:=by
        refine MixF.mod (fun kk hk=>⟨newLab_stable hI hk,hw' kk (by rintro rfl; rw [hg] at hk; cases hk)⟩) hcomp hmo (fun kk d rest hd hn hk => ?_) ?_ (fun j hj => ?_) ?_ c5
        ·refine ⟨hlabr kk _ hk (fun hu => ?_),hw' kk (by rintro rfl; rw [hg] at hk; injection hk with _ hk; cases hk)⟩
         obtain ⟨d',rest',hd',he⟩:=hu
         simp only [List.nil_append,List.cons.injEq] at he
         omega
        ·have:=putCells_size (cur:=cur) (o:=o1) (cs:=cs) (by omega)
         simpa using this
        ·have:=putCells_out (cur:=cur) (o:=o1) (cs:=cs) (by omega) j (by omega)
         simpa using this
        ·have hat:=putCells_at (cur:=cur) (o:=o1) (cs:=cs) (by omega)
         rw [hlen] at hat
         rw [hat]
         refine Own.moveLow hdk (fun kk hk => ?_) (fun kk d rest hd hk => ?_) how
         ·rcases hk with hk | ⟨_,_,hk,_⟩
          ·exact ⟨.inl (newLab_stable hI hk),hw' kk (by rintro rfl; rw [hg] at hk; cases hk)⟩
          ·cases hk
         ·have hh:newLab (stF z [] o1 t2.sz t2.depth (some s)) w L (fun _ => .free) kk=if rest.length < t2.depth then .own z ((o1+d)::rest) else .stable:=by
           rw [newLab_old hI (by rw [hk]; simp),hk]
           simp only [relab,stF,List.nil_append,Nat.zero_add]
           rw [if_neg hsr,if_pos trivial,if_pos hd]
          refine ⟨hw' kk (by rintro rfl; rw [hg] at hk; injection hk with hk _; exact hsr hk.symm),fun hl => ?_,fun hl => .inl ?_⟩
          ·rw [hh,if_pos hl]; simp
          ·show newLab _ _ _ _ kk=_
           rw [hh,if_neg (by omega)]
       have hheap:=setRow_heap w g cur (putCells cur o1 cs) e (0,0) c3
       have hsize:=putCells_size (cur:=cur) (o:=o1) (cs:=cs) (by omega)
       unfold mixV
       cases hfu:fullB (m0 ||| 2 ^ i) ta with
       | true =>
        refine ⟨by simp,g,putCells cur o1 cs,e,c1,hLg,hheap,by rw [hsize]; exact c4,?_⟩
        simp only [Own]
        exact MixF.full (Nat.le_refl _) hfu hmix
       | false=>exact ⟨g,putCells cur o1 cs,e,c1,hLg,hheap,by rw [hsize]; exact c4,hmix⟩
      ·by_cases h2:z=s
       ·subst h2; rw [hTs]; trivial
       ·have hon:(T.getD z .dead).on r=true:=by
         rcases hz' with h | h | h
         ·exact absurd h h1
         ·exact absurd h h2
         ·exact h
        rw [hTo z h1 h2]
        obtain ⟨p',t',he,hsh⟩:=hptr z h2 hon
        have hsz':=hI.slots z
        rw [he] at hsz' ⊢
        obtain ⟨g2,j1,j2⟩:=hsz'
        refine ⟨g2,j1,?_⟩
        rw [shallow_node hsh] at j2 ⊢
        exact hlabr g2 [] j2 (fun h=>hnil h rfl)
    ·exact h.elim
   ·exact h.elim
  ·exact h.elim
 ·exact h.elim
theorem step_mix [Glob] (hI:Inv w0 L0 N vs T a w L) (hC:CtxOk P C) {o:Oper} {X:TypeId} {t r:Nat} {kids:List Nat} {p:List St} {u:V} {x:Operand} {m:M (List (Nat×V))} {ups:List (Nat×V)} {log:List Nat} (ho:o.op = .store X (.tmp t) x) (hdst:o.dst=none)
  (ht:addrOf t (T.getD t .dead)=some (r,p)) (hev:∀ r p,addrOf t (T.getD t .dead)=some (r,p)→∃ g,a.eval (.tmp t) = .pointer (some ⟨g,(node [] 0 p).2,none⟩)∧L g = .own r (node [] 0 p).1)
  (hr:T.getD r .dead=u) (h:(mixStoreM C vs N kids X r p u x m).Runs T ups log) (hm:∀ log,m.Runs T ups log→Step P o w0 L0 N vs (setAll T ups) a w):Step P o w0 L0 N vs (setAll T ups) a w:=by
 unfold mixStoreM at h
 split at h
 ·rename_i i off
  have hev':=hev r _ ht
  simp only [node,Nat.zero_add] at hev'
  have hsl:=hI.slots r
  rw [hr] at hsl
  split at h
  ·rename_i ta x0
   obtain ⟨_,g,cur,e,h1,h2,h3,h4,h5⟩:=hsl
   simp only [Own] at h5
   exact step_mix1 (ta:=ta) (x0:=x0) hI hC ho hdst hev' ⟨g,cur,e,h1,h2,h3,h4,MixF.of0 (t:=ta) h5⟩ (by rw [hr]; rfl) h
  ·rename_i m0 ta x0
   exact step_mix1 hI hC ho hdst hev' hsl (by rw [hr]; rfl) h
  ·exact hm _ h
 ·exact hm _ h
end
end Go.Proofs.YtkanidldnnfloaaGreat.P.Am
set_option linter.unusedVariables false
set_option linter.unusedSimpArgs false
namespace Go.Proofs.YtkanidldnnfloaaGreat.P.Am
def okRow (r:Nat) (v:V):Bool := !v.deepOn r || (match v with
 | .ptr _ _ _=>true
 | .view _ [] _=>true
 | _=>false)
def kidsR {α:Type} (r:Nat):List Nat→M α→M α
 | [],m=>m
 | k::l,m => .get k fun v => .chk (okRow r v) (kidsR r l m)
def storeRowM (C:Ctx) (N:Nat) (kids:List Nat) (X:TypeId) (r:Nat) (p:List St) (u:V) (x:Operand) (m:M (List (Nat×V))):M (List (Nat×V)) :=
 (rootD p u).bind fun z =>
  if z.2.t.depth=0∧u.isD=true∧C.ty X=some z.2.t∧(u.root != some r)=true∧r < N∧r < 100000 then
   (opnd C X x).bind fun v=>match v with
   | .d none _ t' y=>if h:t'=z.2.t then (modRoot p u z.2.t (h▸y)).bind fun u'=>kidsR r kids (.ask (bareKey r (maskOf false (r::kids))) (.ret [(r,u')])) else .fail
   | _ => .fail
  else m
section
variable {P:Program} {C:Ctx} {w w' w0:World} {S S':Nat→Prop} {L L' L0:Nat→Lab} {s N:Nat} {vs:List Nat} {T T':List V} {tm tm':Array Value} {a:Act}
theorem kidsR_runs {α:Type} {r:Nat} {m:M α} {x:α}:{l:List Nat}→{log:List Nat}→(kidsR r l m).Runs T x log→(∀ k∈l,okRow r (T.getD k .dead)=true)∧∃ log',m.Runs T x log'
 | [],log,h=>⟨by simp,log,h⟩
 | k::l,log,h=>by
  obtain ⟨log',rfl,hc,h⟩:=h
  obtain ⟨h1,h2⟩:=kidsR_runs (l:=l) h
  refine ⟨fun k' hk' => ?_,h2⟩
  rcases List.mem_cons.1 hk' with rfl | hk'
  ·exact hc
  ·exact h1 k' hk'
theorem step_storeRow [Glob] (hI:Inv w0 L0 N vs T a w L) (hC:CtxOk P C) {o:Oper} {X:TypeId} {t r:Nat} {kids:List Nat} {p:List St} {u:V} {x:Operand} {m:M (List (Nat×V))} {ups:List (Nat×V)} {log:List Nat} (ho:o.op = .store X (.tmp t) x) (hdst:o.dst=none)
  (ht:addrOf t (T.getD t .dead)=some (r,p)) (hev:∀ r p,addrOf t (T.getD t .dead)=some (r,p)→∃ g,a.eval (.tmp t) = .pointer (some ⟨g,(node [] 0 p).2,none⟩)∧L g = .own r (node [] 0 p).1)
  (hr:T.getD r .dead=u) (h:(storeRowM C N kids X r p u x m).Runs T ups log) (hm:∀ log,m.Runs T ups log→Step P o w0 L0 N vs (setAll T ups) a w):Step P o w0 L0 N vs (setAll T ups) a w:=by
 obtain ⟨⟨l,n',t',x'⟩,l1,l2,rfl,hz,h⟩:=M.runs_bind h
 dsimp only at h
 split at h
 ·rename_i hc
  obtain ⟨hd,hud,hX,hself,hrN,hr5⟩:=hc
  clear hm
  obtain ⟨v,l3,l4,rfl,hv,h⟩:=M.runs_bind h
  split at h
  ·rename_i k tv y
   split at h
   ·rename_i htv
    subst htv
    obtain ⟨u',l5,l6,rfl,hmo,h⟩:=M.runs_bind h
    obtain ⟨hkids,log2,h⟩:=kidsR_runs h
    obtain ⟨⟨hq,_⟩,log3,rfl,h⟩:=h
    obtain ⟨rfl,_⟩:=h
    have hok:∀ z,z≠r→okRow r (T.getD z .dead)=true:=by
     intro z hz
     by_cases hm:z∈kids
     ·exact hkids z hm
     ·have:=ask_bare hr5 hq z (maskOf_bit (by simp [hz,hm]))
      rw [maskOf_zero] at this
      have this:(T.getD z .dead).deepOn r=false:=this
      unfold okRow
      rw [this]; rfl
    obtain ⟨g,hev1,hg⟩:=hev r p ht
    have hsl:=hI.slots r
    rw [hr] at hsl
    obtain ⟨⟨g',cur,e,k1,k2,k3,k4⟩,_,_,howns,hisd⟩:=rootD_inB hz hsl
    obtain rfl:=hI.inj g g' r _ hg k1
    have hval:∃ cs s0,Form tv cs (a.eval x)∧Own w L (SL L none) s0 k tv y [] 0 cs:=by
     rcases opnd_rep hI hv with ⟨s,rfl,_,hs⟩ | ⟨_,hs⟩
     ·obtain ⟨_,cs,hf,how⟩:=hs
      exact ⟨cs,s,hf,how⟩
     ·obtain ⟨_,cs,hf,how⟩:=hs L T a.tmps 0 w
      exact ⟨cs,0,hf,how⟩
    obtain ⟨cs,s0,hf,how⟩:=hval
    have hone:=Own.one how
    have hlen:=Own.len how
    have hrun:(execOp a.eval o).run P w = .ok .skip (w.setRow g (putCells cur (node [] 0 p).2 cs)):=by
     simp [execOp,ho,hev1,run_store_cells (hC X _ hX) k2 hf hone hlen k3]
    have hTr:(setAll T [(r,u')]).getD r .dead=u':=by
     show (T.set r u').getD r .dead=u'
     rw [getD_set,if_pos ⟨rfl,by rw [hI.len]; exact hrN⟩]
    have hTo:∀ z,z≠r→(setAll T [(r,u')]).getD z .dead=T.getD z .dead:=by
     intro z hz
     show (T.set r u').getD z .dead=_
     rw [getD_set,if_neg (fun h=>hz h.1)]
    intro K Q hK
    unfold Oper.wp
    rw [hrun,Oper.upon_skip,hdst]
    refine hK a _ _ (Inv.store (m:=n') (src:=none) hI hr hz hmo (by simpa using hself) hg k2 k3 hlen (by simp) (by rw [length_setAll,hI.len]) hTr ?_ (fun z hz _ _=>hTo z hz) (Own.flat hd how))
    intro z hz _ hon
    refine .inr ⟨hTo z hz,?_⟩
    have hk:=hok z hz
    unfold okRow V.deepOn at hk
    rw [hon,Bool.true_and] at hk
    generalize T.getD z .dead=vz at hk hon
    cases vz with
    | ptr r2 p2 t2=>exact .inl rfl
    | view r2 p2 t2 =>
     cases p2 with
     | nil=>exact .inl (by simpa [keepable] using hud)
     | cons _ _=>simp at hk
    | _=>simp at hk
   ·exact h.elim
  ·exact h.elim
 ·exact hm _ h
end
end Go.Proofs.YtkanidldnnfloaaGreat.P.Am
set_option linter.unusedVariables false
set_option linter.unusedSimpArgs false
namespace Go.Proofs.YtkanidldnnfloaaGreat.P.Am
def iceFor (N:Nat):List Nat→M (List (Nat×V))→M (List (Nat×V))
 | [],m=>m
 | s::l,m => .get s fun v=>match v with
  | .d none n t x =>
   if n≠0∧t.depth≠0∧s < N then
    bareM true s s [] (((iceFor N l m).over [(s,.d none 0 t x)]).bind fun ups => .ret ((s,.d none 0 t x)::ups))
   else iceFor N l m
  | _=>iceFor N l m
section
variable {P:Program} {C:Ctx} {w w' w0:World} {L L' L0:Nat→Lab} {s N:Nat} {vs:List Nat} {a:Act}
theorem iceFor_runs [Glob] {m:M (List (Nat×V))}:{l:List Nat}→{T:List V}→{L:Nat→Lab}→{ups:List (Nat×V)}→{log:List Nat}→Inv w0 L0 N vs T a w L→(iceFor N l m).Runs T ups log →
  ∃ T1 L1 ups2 log2,Inv w0 L0 N vs T1 a w L1∧m.Runs T1 ups2 log2∧setAll T ups=setAll T1 ups2
 | [],T,L,ups,log,hI,h=>⟨T,L,ups,log,hI,h,rfl⟩
 | s::l,T,L,ups,log,hI,h=>by
  simp only [iceFor] at h
  obtain ⟨log',rfl,h⟩:=h
  dsimp only at h
  split at h
  ·rename_i n t x hv
   split at h
   ·rename_i hc
    obtain ⟨hn,hd,hsN⟩:=hc
    obtain ⟨hbare,log2,h⟩:=bareM_runs h
    obtain ⟨ups2,l3,l4,rfl,h1,h2⟩:=M.runs_bind h
    obtain ⟨rfl,_⟩:=h2
    have hsl:s < T.length:=by rw [hI.len]; exact hsN
    have hlook:∀ z,(T.set s (.d none 0 t x)).getD z .dead=(lookO [(s,.d none 0 t x)] z).getD (T.getD z .dead):=fun z=>by
     simp only [lookO]
     rw [getD_set]
     by_cases h1:z=s
     ·subst h1; simp [hsl]
     ·have e1:(s == z)=false:=by simpa using Ne.symm h1
      rw [e1]; simp [h1]
    obtain ⟨log3,h1⟩:=over_runs (T':=T.set s (.d none 0 t x)) (by simp) (fun z hz=>by
     simp only [List.map_cons,List.map_nil,List.mem_cons,List.not_mem_nil,or_false] at hz
     rw [hz]; exact hsl) hlook _ h1
    obtain ⟨L1,hI1⟩:=Inv.freeze (T':=T.set s (.d none 0 t x)) hI (X:=fun z=>z == s) (lev:=fun _=>0) (fun z r hr=>by
      have hr:r=s:=by simpa using hr
      subst hr
      by_cases hz:z=r
      ·subst hz; rw [hv]; rfl
      ·simpa using hbare z hz) (fun z hz=>by
      have hz:z=s:=by simpa using hz
      subst hz; rw [hv]; rfl) (fun z _=>Nat.zero_le _) (by simp [hI.len]) (fun z=>by
      rw [getD_set]
      by_cases hz:z=s
      ·subst hz; rw [if_pos ⟨rfl,hsl⟩,hv]; simp [frzV]
      ·have:(z == s)=false:=by simpa using hz
       rw [if_neg (fun h=>hz h.1),this]; rfl)
    obtain ⟨T1,L2,ups3,log4,k1,k2,k3⟩:=iceFor_runs hI1 h1
    exact ⟨T1,L2,ups3,log4,k1,k2,k3⟩
   ·exact iceFor_runs hI h
  ·exact iceFor_runs hI h
end
end Go.Proofs.YtkanidldnnfloaaGreat.P.Am
set_option linter.unusedVariables false
set_option linter.unusedSimpArgs false
namespace Go.Proofs.YtkanidldnnfloaaGreat.P.Am
def boxOf (s:Nat):V→M (Nat×D)
 | .box none k t' y => .ret (s,⟨k,t',y⟩)
 | .ptr r [] _ => .get r fun u=>match u with
  | .box none k t' y => .ret (r,⟨k,t',y⟩)
  | _ => .fail
 | _ => .fail
def ptrM (t:Ty) (n:Nat) (x:Operand):M (t.den×Nat) :=
 match x with
 | .tmp s => .get s fun v=>(boxOf s v).bind fun z=>if h:z.2.t=t then (if z.2.n=n then .ret (h▸z.2.x,z.1) else .fail) else .fail
 | _ => .fail
def argsPM (C:Ctx):Nat→(ps:List (Ty×Mode))→List Operand→M (Args ps)
 | _,[],[] => .ret ⟨(),[],[]⟩
 | i,(t,.ro)::ps,x::xs=>(argM C t x).bind fun y=>(argsPM C (i+1) ps xs).bind fun r => .ret ⟨(y.1,r.x),y.2++r.ls,r.mu⟩
 | i,(t,.ptr n)::ps,x::xs=>(ptrM t n x).bind fun y=>(argsPM C (i+1) ps xs).bind fun r => .ret ⟨(y.1,r.x),r.ls,(y.2,i)::r.mu⟩
 | _,_,_ => .fail
def mutPV:(ps:List (Ty×Mode))→(mTy ps).den→Option V
 | [],_=>none
 | (t,.ptr n)::_,x=>some (.box none n t x.1)
 | (_,.mut _)::_,_=>none
 | (_,.eat _)::_,_=>none
 | (_,.ro)::ps,x=>mutPV ps x
def fullP:List (Ty×Mode)→Bool
 | []=>true
 | (t,.ptr n)::ps=>decide (t.depth≤n) && fullP ps
 | _::ps=>fullP ps
def goesP (r d:Nat):Nat→V→Bool:=fun z v=>v.on r && z != r && z != d
def callPM (C:Ctx) (tab:Tab) (vs:List Nat) (N d:Nat) (f:FuncId) (args:List Operand):M (List (Nat×V)) :=
 match tab f with
 | none => .fail
 | some F=>(argsPM C 0 F.ps args).bind fun A=>match A.mu with
  | [(r0,_)]=>cond (A.ls.contains r0 || !decide (r0 < N) || !(A.ls.isEmpty || fullP F.ps)) .fail (.bnd (.pair (rTy F.rs) (mTy F.ps)) (F.sem A.x) fun r=>match resV vs A.ls F.rs r.1,mutPV F.ps r.2 with
   | some v,some u'=>(allM 0 N).bind fun Ts => .chk (depsGOk (goesP r0 d) 0 Ts) (.ret (((r0,u')::depsG (goesP r0 d) 0 Ts)++[(d,v)]))
   | _,_ => .fail)
  | _ => .fail
def anyPtr:List (Ty×Mode)→Bool
 | []=>false
 | (_,.ptr _)::_=>true
 | _::ps=>anyPtr ps
def callYM (C:Ctx) (tab:Tab) (vs:List Nat) (N d:Nat) (f:FuncId) (args:List Operand):M (List (Nat×V)) :=
 match tab f with
 | none => .fail
 | some F=>cond (anyPtr F.ps) (callPM C tab vs N d f args) (callXM C tab vs N d f args)
section
variable {P:Program} {C:Ctx} {w w' w0:World} {S S':Nat→Prop} {L L' L0:Nat→Lab} {s N:Nat} {vs:List Nat} {T T':List V} {tm tm':Array Value} {a:Act}
theorem boxOf_rep [Glob] (hI:Inv w0 L0 N vs T a w L) {s r:Nat} {z:D} {log:List Nat} (h:(boxOf s (T.getD s .dead)).Runs T (r,z) log) :
  T.getD r .dead = .box none z.n z.t z.x∧a.tmps.getD s undef=a.tmps.getD r undef:=by
 have hs:=hI.slots s
 generalize hv:T.getD s .dead=v at h hs
 unfold boxOf at h
 split at h
 ·obtain ⟨h,_⟩:=h
  injection h with h1 h2
  subst h1 h2
  exact ⟨hv,rfl⟩
 ·rename_i r' t'
  obtain ⟨log',rfl,h⟩:=h
  have hr:=hI.slots r'
  generalize hu:T.getD r' .dead=u at h hr
  dsimp only at h
  split at h
  ·obtain ⟨h,_⟩:=h
   injection h with h1 h2
   subst h1 h2
   obtain ⟨g,e1,e2⟩:=hs
   obtain ⟨_,g',cur,e,e3,e4,_⟩:=hr
   obtain rfl:=hI.inj g g' _ _ e2 e4
   exact ⟨hu,by rw [e1,e3]; rfl⟩
  ·exact h.elim
 ·exact h.elim
theorem ptrM_rep [Glob] (hI:Inv w0 L0 N vs T a w L) {t:Ty} {n:Nat} {x:Operand} {y:t.den} {r:Nat} {log:List Nat} (h:(ptrM t n x).Runs T (y,r) log) :
  T.getD r .dead = .box none n t y∧a.eval x=a.tmps.getD r undef:=by
 unfold ptrM at h
 split at h
 ·rename_i s
  obtain ⟨log',rfl,h⟩:=h
  have hb:=M.runs_bind (m:=boxOf s (T.getD s .dead)) h
  clear h
  obtain ⟨⟨r',z⟩,l1,l2,rfl,h1,h⟩:=hb
  obtain ⟨k1,k2⟩:=boxOf_rep hI h1
  obtain ⟨n',t',y'⟩:=z
  dsimp only at h k1
  split at h
  ·rename_i ht
   subst ht
   split at h
   ·rename_i hk
    subst hk
    obtain ⟨h,_⟩:=h
    injection h with h1 h2
    subst h1 h2
    exact ⟨k1,k2⟩
   ·exact h.elim
  ·exact h.elim
 ·exact h.elim
theorem argsPM_rep [Glob] (hI:Inv w0 L0 N vs T a w L):{ps:List (Ty×Mode)}→{i:Nat}→{xs:List Operand}→{A:Args ps}→{log:List Nat}→(argsPM C i ps xs).Runs T A log →
  (∀ r∈A.ls,(T.getD r .dead).deep=true)∧(∀ r j,(r,j)∈A.mu→i≤j∧∃ t n y,ps[j - i]? = some (t,.ptr n)∧T.getD r .dead = .box none n t y∧(xs.map a.eval)[j - i]? = some (a.tmps.getD r undef)) ∧
  (∀ j t m,ps[j]? = some (t,m)→m.back=true→∃ r,(r,i+j)∈A.mu) ∧
  ∀ L1:Nat→Lab,(∀ k,L k = .stable→L1 k = .stable)→(∀ k r q,r∈A.ls→L k = .own r q→L1 k = .stable)→(∀ k r j q,(r,j)∈A.mu→L k = .own r q→L1 k = .own j q)→ArgsRep w L1 i ps A.x (xs.map a.eval)
 | [],i,[],A,log,h=>by
  obtain ⟨rfl,_⟩:=h
  exact ⟨by simp,by simp,by simp,fun _ _ _ _=>rfl⟩
 | (t,.ro)::ps,i,x::xs,A,log,h=>by
  simp only [argsPM] at h
  obtain ⟨⟨y,ls⟩,l1,l2,rfl,h1,h⟩:=M.runs_bind h
  obtain ⟨A',l3,l4,rfl,h2,h⟩:=M.runs_bind h
  obtain ⟨rfl,_⟩:=h
  obtain ⟨cells,k1,k2,k3⟩:=argM_rep hI h1
  obtain ⟨j1,j2,j4,j3⟩:=argsPM_rep hI h2
  refine ⟨fun r hr => ?_,fun r j hm => ?_,fun j t' n hj hne => ?_,fun L1 H1 H2 H3 => ?_⟩
  ·rcases List.mem_append.1 hr with hr | hr
   ·exact k2 r hr
   ·exact j1 r hr
  ·obtain ⟨hi,t',n',y',e1,e2,e3⟩:=j2 r j hm
   have:j - i=(j - (i+1))+1:=by omega
   exact ⟨by omega,t',n',y',by rw [this]; simpa using e1,e2,by rw [this]; simpa using e3⟩
  ·cases j with
   | zero =>
    simp only [List.getElem?_cons_zero,Option.some.injEq,Prod.mk.injEq] at hj
    rw [← hj.2] at hne; cases hne
   | succ j =>
    obtain ⟨r,hr⟩:=j4 j t' n (by simpa using hj) hne
    exact ⟨r,by rw [show i+(j+1)=i+1+j by omega]; exact hr⟩
  ·exact ⟨a.eval x,_,cells,rfl,k1,Own.of_rd (k3 _ H1 (fun k r q hr hk=>H2 k r q (List.mem_append_left _ hr) hk)),j3 L1 H1 (fun k r q hr hk=>H2 k r q (List.mem_append_right _ hr) hk) H3⟩
 | (t,.ptr n)::ps,i,x::xs,A,log,h=>by
  simp only [argsPM] at h
  obtain ⟨⟨y,r0⟩,l1,l2,rfl,h1,h⟩:=M.runs_bind h
  obtain ⟨A',l3,l4,rfl,h2,h⟩:=M.runs_bind h
  obtain ⟨rfl,_⟩:=h
  obtain ⟨k1,k4⟩:=ptrM_rep hI h1
  obtain ⟨j1,j2,j4,j3⟩:=argsPM_rep hI h2
  refine ⟨j1,fun r j hm => ?_,fun j t' n' hj hne => ?_,fun L1 H1 H2 H3 => ?_⟩
  ·rcases List.mem_cons.1 hm with hm | hm
   ·injection hm with e1 e2
    subst e1 e2
    exact ⟨Nat.le_refl _,t,n,y,by simp,k1,by simp [k4]⟩
   ·obtain ⟨hi,t',n',y',e1,e2,e3⟩:=j2 r j hm
    have:j - i=(j - (i+1))+1:=by omega
    exact ⟨by omega,t',n',y',by rw [this]; simpa using e1,e2,by rw [this]; simpa using e3⟩
  ·cases j with
   | zero=>exact ⟨r0,by simp⟩
   | succ j =>
    obtain ⟨r,hr⟩:=j4 j t' n' (by simpa using hj) hne
    exact ⟨r,by rw [show i+(j+1)=i+1+j by omega]; exact List.mem_cons_of_mem _ hr⟩
  ·have hs:=hI.slots r0
   rw [k1] at hs
   obtain ⟨_,g,cur,e,hf,hL,hg,hz,ho⟩:=hs
   refine ⟨a.eval x,_,rfl,⟨g,cur,e,by rw [k4]; exact hf,H3 g r0 i _ (by simp) hL,hg,hz,?_⟩,j3 L1 H1 H2 (fun k r j q hm hk=>H3 k r j q (List.mem_cons_of_mem _ hm) hk)⟩
   refine Own.move (fun k hk=>⟨?_,rfl⟩) (fun k d rest _ hk=>⟨H3 k r0 i _ (by simp) hk,rfl⟩) ho
   rcases hk with hk | ⟨_,_,hk,_⟩
   ·exact H1 k hk
   ·cases hk
 | [],_,_::_,_,_,h=>h.elim
 | (_,.ro)::_,_,[],_,_,h=>h.elim
 | (_,.mut _)::_,_,[],_,_,h=>h.elim
 | (_,.mut _)::_,_,_::_,_,_,h=>h.elim
 | (_,.ptr _)::_,_,[],_,_,h=>h.elim
 | (_,.eat _)::_,_,[],_,_,h=>h.elim
 | (_,.eat _)::_,_,_::_,_,_,h=>h.elim
theorem mutPV_rep:{ps:List (Ty×Mode)}→{i:Nat}→{x:(mTy ps).den}→{cs:List Value}→{v:V}→MutRep w L0 i ps x cs→mutPV ps x=some v →
  ∃ j t n y c,ps[j]? = some (t,.ptr n)∧v = .box none n t y∧cs[j]? = some c∧BoxAt w L0 (fun k=>L0 k = .stable) (i+j) n t y c
 | [],_,_,_,_,_,hv=>by cases hv
 | (t,.mut n)::ps,i,x,cs,v,h,hv=>by cases hv
 | (t,.eat n)::ps,i,x,cs,v,h,hv=>by cases hv
 | (t,.ptr n)::ps,i,x,cs,v,h,hv=>by
  simp only [MutRep] at h
  obtain ⟨c,cs',rfl,h1,_⟩:=h
  simp only [mutPV,Option.some.injEq] at hv
  exact ⟨0,t,n,x.1,c,rfl,hv.symm,rfl,h1⟩
 | (t,.ro)::ps,i,x,cs,v,h,hv=>by
  simp only [MutRep] at h
  obtain ⟨c,cs',rfl,h⟩:=h
  simp only [mutPV] at hv
  obtain ⟨j,t',n,y,c',h1,h2,h3,h4⟩:=mutPV_rep h hv
  exact ⟨j+1,t',n,y,c',by simpa using h1,h2,by simpa using h3,by rw [show i+(j+1)=i+1+j by omega]; exact h4⟩
theorem fullP_spec:{ps:List (Ty×Mode)}→fullP ps=true→∀ (j:Nat) (t:Ty) (n:Nat),ps[j]? = some (t,.ptr n)→t.depth≤n
 | [],_,j,t,n,hj=>by simp at hj
 | (t0,.ptr n0)::ps,h,j,t,n,hj=>by
  simp only [fullP,Bool.and_eq_true,decide_eq_true_eq] at h
  cases j with
  | zero =>
   simp only [List.getElem?_cons_zero,Option.some.injEq,Prod.mk.injEq,Mode.ptr.injEq] at hj
   obtain ⟨rfl,rfl⟩:=hj
   exact h.1
  | succ j=>exact fullP_spec h.2 j t n (by simpa using hj)
 | (t0,.mut n0)::ps,h,j,t,n,hj=>by
  cases j with
  | zero=>simp at hj
  | succ j=>exact fullP_spec (ps:=ps) h j t n (by simpa using hj)
 | (t0,.ro)::ps,h,j,t,n,hj=>by
  cases j with
  | zero=>simp at hj
  | succ j=>exact fullP_spec (ps:=ps) h j t n (by simpa using hj)
 | (t0,.eat n0)::ps,h,j,t,n,hj=>by
  cases j with
  | zero=>simp at hj
  | succ j=>exact fullP_spec (ps:=ps) h j t n (by simpa using hj)
theorem back_mut [Glob] {r i:Nat} {ls:List Nat} {ps:List (Ty×Mode)} {rs:List (Ty×Nat)} {m d:Nat} (hI:Inv w0 L0 N vs T a w L) (him:i≠m) (hleft:Left w w' (fun k=>toCallee (some (r,i)) ls (L k)) L' ps rs) :
  (∀ k q',L' k = .own i q'→backLab (some (r,i)) m d L L' k = .own r q') ∧
  ∀ {n:Nat} {t:Ty} {x:t.den} {q:List Nat} {o:Nat} {cs:List Value},(t.depth≤n∨ls=[]) →
   Own w' L' (fun k=>L' k = .stable) i n t x q o cs→Own w' (backLab (some (r,i)) m d L L') (SL (backLab (some (r,i)) m d L L') none) r n t x q o cs:=by
 have hown:∀ k q',L' k = .own i q'→backLab (some (r,i)) m d L L' k = .own r q':=by
  intro k q' hk
  have hp:InPlay (some (r,i)) (L k):=by
   apply Classical.byContradiction
   intro hp
   have hlt:k < w.heap.size:=hI.lt (fun e=>hp (.inl e))
   have h9:=(hleft.keep k hlt (toCallee_out hp)).1
   rw [hk] at h9
   rcases toCallee_out (ls:=ls) hp with h | h <;> rw [h] at h9 <;> cases h9
  rw [backLab_in hp,hk]
  simp [fromCallee,him]
 refine ⟨hown,fun {n t x q o cs} hl h => ?_⟩
 rcases hl with hl | hl
 ·exact Own.move (S:=fun _=>False) (fun k hk=>hk.elim) (fun k dd rest _ hk=>⟨hown k _ hk,rfl⟩) (Own.full hl h)
 ·subst hl
  refine Own.move (fun k hk=>⟨.inl ?_,rfl⟩) (fun k dd rest _ hk=>⟨hown k _ hk,rfl⟩) h
  by_cases hp:InPlay (some (r,i)) (L k)
  ·rw [backLab_in hp,hk]; rfl
  ·have hlt:k < w.heap.size:=hI.lt (fun e=>hp (.inl e))
   have h9:=(hleft.keep k hlt (toCallee_out hp)).1
   rw [hk] at h9
   rw [backLab_out hp]
   cases hlk:L k with
   | stable=>rfl
   | own s q' =>
    rw [hlk] at h9
    unfold toCallee at h9
    dsimp only at h9
    split at h9
    ·cases h9
    ·simp at h9
   | other=>rw [hlk] at h9; cases h9
   | free=>exact absurd (.inl hlk) hp
theorem step_callP [Glob] (hI:Inv w0 L0 N vs T a w L) {tab:Tab} (htab:TabOk P tab) {o:Oper} {f:FuncId} {args:Array Operand} {ats:Array TypeId} {d:Nat} {ups:List (Nat×V)} {log:List Nat}
  (ho:o.op = .call { callee := .value (.func f),args,argTypes:=ats }) (hdst:o.dst=some d) (hd:d < N) (hid:(T.getD d .dead).idle=true)
  (h:(callPM C tab vs N d f args.toList).Runs T ups log):Step P o w0 L0 N vs (setAll T ups) a w:=by
 unfold callPM at h
 split at h
 ·exact h.elim
 ·rename_i F hF
  obtain ⟨⟨fn,hfn,hname,hbody⟩,hok⟩:=htab f F hF
  have hb:=M.runs_bind h
  clear h
  obtain ⟨A,l1,l2,rfl,h1,h⟩:=hb
  obtain ⟨hls,hmu,hmall,hargs⟩:=argsPM_rep hI h1
  have hrun:=Go.Conc.run_call_body (P:=P) (a:=a) (w:=w) ho hfn hname hbody
  have hlsd:∀ r∈A.ls,r≠d:=fun r hr=>idle_ne hid (V.owns_of_deep (hls r hr))
  rcases hmu0:A.mu with _ | ⟨⟨r0,i⟩,_ | ⟨p2,rest⟩⟩
  ·rw [hmu0] at h
   exact h.elim
  ·rw [hmu0] at h
   dsimp only at h
   cases hc:(A.ls.contains r0 || !decide (r0 < N) || !(A.ls.isEmpty || fullP F.ps)) with
   | true=>rw [hc] at h; exact h.elim
   | false =>
    rw [hc] at h
    obtain ⟨r,hsem,h⟩:=h
    dsimp only at h
    simp only [Bool.or_eq_false_iff,Bool.not_eq_false',decide_eq_true_eq] at hc
    obtain ⟨⟨hc1,hrN⟩,hc2⟩:=hc
    have hrls:r0 ∉ A.ls:=fun hm=>by rw [List.contains_iff_mem.2 hm] at hc1; cases hc1
    split at h
    ·rename_i v u' hv hu'
     obtain ⟨Ts,l3,l4,rfl,hall,hdok,hups⟩:=M.runs_bind h
     obtain ⟨rfl,_⟩:=hups
     have hTs:Ts=T:=by rw [allM_runs hall (by rw [Nat.zero_add,hI.len])]; rfl
     subst hTs
     obtain ⟨_,t,n,y,h2,h5,h6⟩:=hmu r0 i (by rw [hmu0]; simp)
     simp only [Nat.sub_zero] at h2 h6
     have hil:i < F.ps.length:=(List.getElem?_eq_some_iff.1 h2).1
     have hr0d:r0≠d:=idle_ne hid (by rw [h5]; rfl)
     have hpl:∀ (j:Nat) (t:Ty) (m:Mode),F.ps[j]? = some (t,m)→m.back=true→j=i:=by
      intro j t m hj hm
      obtain ⟨r',hr'⟩:=hmall j t m hj hm
      rw [hmu0] at hr'
      simp only [List.mem_singleton,Prod.mk.injEq] at hr'
      omega
     have hlegit:Legit w (fun k=>toCallee (some (r0,i)) A.ls (L k)) F.ps:=by
      refine ⟨fun k hk=>by rw [hI.free k hk]; rfl,fun k k' s q h h' => ?_,fun k s q h => ?_,Glob.keep hI.fr.glob fun k hk h0=>⟨?_,(hI.fr.keep k hk h0).2⟩⟩
      ·obtain ⟨r1,e1,e2⟩:=toCallee_own h
       obtain ⟨r2,e3,e4⟩:=toCallee_own h'
       rw [e1] at e3
       injection e3 with e3
       injection e3 with e3 _
       subst e3
       exact hI.inj k k' _ _ e2 e4
      ·obtain ⟨r1,e1,e2⟩:=toCallee_own h
       injection e1 with e1
       injection e1 with e1 e3
       subst e1 e3
       exact ⟨t,.ptr n,h2,rfl⟩
      ·rw [(hI.fr.keep k hk h0).1]
       rcases h0 with h0 | h0 <;> rw [h0] <;> simp [toCallee]
     have hrep:=hargs (fun k=>toCallee (some (r0,i)) A.ls (L k)) (fun k hk=>by rw [hk]; rfl) (fun k r q hr hk=>by
      rw [hk]
      unfold toCallee
      dsimp only
      rw [if_neg (fun e:r=r0=>hrls (by rw [← e]; exact hr)),if_pos (by simpa using hr)]) (fun k r j q hm hk=>by
      rw [hk]
      rw [hmu0] at hm
      simp only [List.mem_singleton,Prod.mk.injEq] at hm
      obtain ⟨rfl,rfl⟩:=hm
      simp [toCallee])
     intro K Q hK
     unfold Oper.wp
     rw [hrun,Oper.upon_enter]
     refine Calls.mono (hok A.x r hsem w _ (args.map a.eval) hlegit (by simpa using hrep)) ?_
     rintro e w' ⟨cs,L',rfl,hleft,hres,hmr⟩
     dsimp only
     rw [hdst]
     have hmr:MutRep w' L' 0 F.ps r.2 (args.toList.map a.eval):=by simpa using hmr
     refine hK _ _ (backLab (some (r0,i)) F.ps.length d L L') ?_
     have hT':setAll Ts (((r0,u')::depsG (goesP r0 d) 0 Ts)++[(d,v)])=(setAll Ts ((r0,u')::depsG (goesP r0 d) 0 Ts)).set d v:=by
      rw [setAll_append]; rfl
     have hlen1:(setAll Ts ((r0,u')::depsG (goesP r0 d) 0 Ts)).length=N:=by rw [length_setAll,hI.len]
     have hTd:(setAll Ts (((r0,u')::depsG (goesP r0 d) 0 Ts)++[(d,v)])).getD d .dead=v:=by
      rw [hT',getD_set,if_pos ⟨rfl,by rw [hlen1]; exact hd⟩]
     have hTo:∀ s,s≠d→(setAll Ts (((r0,u')::depsG (goesP r0 d) 0 Ts)++[(d,v)])).getD s .dead=(setAll Ts ((r0,u')::depsG (goesP r0 d) 0 Ts)).getD s .dead:=by
      intro s hs
      rw [hT',getD_set,if_neg (fun e=>hs e.1)]
     have hkeys:∀ s v,(s,v)∈((r0,u')::depsG (goesP r0 d) 0 Ts)→(s=r0∧v=u')∨(v = .dead∧s≠r0∧(Ts.getD s .dead).on r0=true):=by
      intro s v hm
      rcases List.mem_cons.1 hm with hm | hm
      ·injection hm with h1 h2
       exact .inl ⟨h1,h2⟩
      ·obtain ⟨h1,_,_,h2⟩:=(depsG_mem s v).1 hm
       simp only [Nat.sub_zero,goesP,Bool.and_eq_true,bne_iff_ne] at h2
       exact .inr ⟨h1,h2.1.2,h2.1.1⟩
     have hTr:(setAll Ts ((r0,u')::depsG (goesP r0 d) 0 Ts)).getD r0 .dead=u':=by
      refine getD_setAll_mem (by rw [hI.len]; exact hrN) (by simp) (fun v hm => ?_)
      rcases hkeys r0 v hm with ⟨_,h⟩ | ⟨_,h,_⟩
      ·exact h
      ·exact absurd rfl h
     have hTs2:∀ s,s≠d→s≠r0→(Ts.getD s .dead).on r0=true→(setAll Ts ((r0,u')::depsG (goesP r0 d) 0 Ts)).getD s .dead = .dead∧(Ts.getD s .dead).owns=false:=by
      intro s hsd hs hon
      have hslt:s < N:=by
       rcases Nat.lt_or_ge s N with h | h
       ·exact h
       ·rw [getD_out (by rw [hI.len]; exact h)] at hon; simp [V.on,V.root] at hon
      have hg:goesP r0 d s (Ts.getD s .dead)=true:=by
       unfold goesP
       rw [hon]
       simp [hs,hsd]
      refine ⟨getD_setAll_mem (by rw [hI.len]; exact hslt) ?_ (fun v hm => ?_),?_⟩
      ·rw [List.mem_map]
       exact ⟨(s,.dead),List.mem_cons_of_mem _ ((depsG_mem s .dead).2 ⟨rfl,Nat.zero_le _,by rw [Nat.zero_add,hI.len]; exact hslt,by rw [Nat.sub_zero]; exact hg⟩),rfl⟩
      ·rcases hkeys s v hm with ⟨h,_⟩ | ⟨h,_⟩
       ·exact absurd h hs
       ·exact h
      ·exact depsGOk_spec hdok s (by rw [hI.len]; exact hslt) (by rw [Nat.zero_add]; exact hg)
     have hTn:∀ s,s≠r0→(Ts.getD s .dead).on r0=false→(setAll Ts ((r0,u')::depsG (goesP r0 d) 0 Ts)).getD s .dead=Ts.getD s .dead:=by
      intro s hs hon
      refine getD_setAll _ _ _ (fun hm => ?_)
      obtain ⟨u,hu,he⟩:=List.mem_map.1 hm
      rcases hkeys s u.2 (by rw [← he]; exact hu) with ⟨h,_⟩ | ⟨_,_,h⟩
      ·exact hs h
      ·rw [hon] at h; cases h
     have hlsame:∀ r∈A.ls,((setAll Ts (((r0,u')::depsG (goesP r0 d) 0 Ts)++[(d,v)])).getD r .dead).deep=true:=by
      intro r hr
      have hrr:r≠r0:=fun e=>hrls (e▸hr)
      have ho:=V.owns_of_deep (hls r hr)
      rw [hTo r (hlsd r hr)]
      cases hon:(Ts.getD r .dead).on r0 with
      | false=>rw [hTn r hrr hon]; exact hls r hr
      | true =>
       have h:=(hTs2 r (hlsd r hr) hrr hon).2
       rw [h] at ho; cases ho
     obtain ⟨j,t',n',y',c',m1,m2,m3,g,cur,e,m4,m5,m6,m7,m8⟩:=mutPV_rep hmr hu'
     have hji:=hpl j t' _ m1 (by simp)
     subst hji
     rw [h2] at m1
     injection m1 with m1
     injection m1 with m1 m1'
     injection m1' with m1'
     subst m1 m1'
     rw [h6] at m3
     injection m3 with m3
     subst m3
     rw [Nat.zero_add] at m5 m8
     have hjm:j≠F.ps.length:=by omega
     obtain ⟨b1,b2⟩:=back_mut (d:=d) hI hjm hleft
     obtain ⟨k1,k2,k3⟩:=resV_rep (T':=setAll Ts (((r0,u')::depsG (goesP r0 d) 0 Ts)++[(d,v)])) (d:=d) hI hleft rfl hlsame hres hv
     have hfull:t.depth≤n∨A.ls=[]:=by
      simp only [Bool.or_eq_true,List.isEmpty_iff] at hc2
      rcases hc2 with h | h
      ·exact .inr h
      ·exact .inl (fullP_spec h j t n h2)
     refine Inv.calledG hI hd hid rfl (fun r i h=>by injection h with h; injection h with _ h; subst h; exact hil) hleft (by rw [length_setAll,hI.len]) (fun j' t n hj hm=>by rw [hpl j' t n hj hm]; rfl) ?_ ?_ ?_ hTd k1 k2 (fun r i h=>by injection h with h; injection h with h _; subst h; exact hrls) k3
     ·intro r i h
      injection h with h
      injection h with h h'
      subst h h'
      rw [hTo r0 hr0d,hTr,m2]
      exact ⟨by rw [h5]; rfl,.inr rfl,rfl,by simp,g,cur,e,m4,b1 _ _ m5,m6,m7,b2 hfull m8⟩
     ·intro s r i h hsd hsr hon
      injection h with h
      injection h with h h'
      subst h h'
      rw [hTo s hsd]
      exact .inl (hTs2 s hsd hsr hon)
     ·intro s hsd hs
      obtain ⟨e1,e2⟩:=hs r0 j rfl
      rw [hTo s hsd]
      exact hTn s e1 e2
    ·exact h.elim
  ·rw [hmu0] at h
   exact h.elim
theorem step_callY [Glob] (hI:Inv w0 L0 N vs T a w L) {tab:Tab} (htab:TabOk P tab) {o:Oper} {f:FuncId} {args:Array Operand} {ats:Array TypeId} {d:Nat} {ups:List (Nat×V)} {log:List Nat}
  (ho:o.op = .call { callee := .value (.func f),args,argTypes:=ats }) (hdst:o.dst=some d) (hd:d < N) (hid:(T.getD d .dead).idle=true)
  (h:(callYM C tab vs N d f args.toList).Runs T ups log):Step P o w0 L0 N vs (setAll T ups) a w:=by
 unfold callYM at h
 split at h
 ·exact h.elim
 ·generalize anyPtr _=b at h
  cases b with
  | true=>exact step_callP hI htab ho hdst hd hid h
  | false=>exact step_callX hI htab ho hdst hd hid h
end
end Go.Proofs.YtkanidldnnfloaaGreat.P.Am
set_option linter.unusedVariables false
set_option linter.unusedSimpArgs false
namespace Go.Proofs.YtkanidldnnfloaaGreat.P.Am
def eatM (t:Ty) (n:Nat) (x:Operand):M (t.den×Nat) :=
 match x with
 | .tmp s => .get s fun v=>match v with
  | .view r [] _ => .get r fun u=>match u with
   | .d none k t' y=>if h:t'=t then (if t.depth≤k∧t.depth≤n∧t.depth≠0 then .ret (h▸y,r) else .fail) else .fail
   | _ => .fail
  | .d none k t' y=>if h:t'=t then (if t.depth≤k∧t.depth≤n∧t.depth≠0 then .ret (h▸y,s) else .fail) else .fail
  | _ => .fail
 | _ => .fail
def argsEM (C:Ctx):Nat→(ps:List (Ty×Mode))→List Operand→M (Args ps)
 | _,[],[] => .ret ⟨(),[],[]⟩
 | i,(t,.ro)::ps,x::xs=>(argM C t x).bind fun y=>(argsEM C (i+1) ps xs).bind fun r => .ret ⟨(y.1,r.x),y.2++r.ls,r.mu⟩
 | i,(t,.eat n)::ps,x::xs=>(eatM t n x).bind fun y=>(argsEM C (i+1) ps xs).bind fun r => .ret ⟨(y.1,r.x),r.ls,(y.2,i)::r.mu⟩
 | _,_,_ => .fail
def callEM (C:Ctx) (tab:Tab) (vs:List Nat) (N d:Nat) (f:FuncId) (args:List Operand):M (List (Nat×V)) :=
 match tab f with
 | none => .fail
 | some F=>(argsEM C 0 F.ps args).bind fun A=>match A.mu with
  | [(r0,_)]=>cond (A.ls.contains r0 || !decide (r0 < N)) .fail (.bnd (.pair (rTy F.rs) (mTy F.ps)) (F.sem A.x) fun r=>match resV vs A.ls F.rs r.1 with
   | some v=>(allM 0 N).bind fun Ts => .chk (depsGOk (goesP r0 d) 0 Ts) (.ret (((r0,.dead)::depsG (goesP r0 d) 0 Ts)++[(d,v)]))
   | none => .fail)
  | _ => .fail
def anyEat:List (Ty×Mode)→Bool
 | []=>false
 | (_,.eat _)::_=>true
 | _::ps=>anyEat ps
def callZM (C:Ctx) (tab:Tab) (vs:List Nat) (N d:Nat) (f:FuncId) (args:List Operand):M (List (Nat×V)) :=
 match tab f with
 | none => .fail
 | some F=>cond (anyEat F.ps) (callEM C tab vs N d f args) (callYM C tab vs N d f args)
section
variable {P:Program} {C:Ctx} {w w' w0:World} {S S':Nat→Prop} {L L' L0:Nat→Lab} {s N:Nat} {vs:List Nat} {T T':List V} {tm tm':Array Value} {a:Act}
theorem eatM_rep [Glob] (hI:Inv w0 L0 N vs T a w L) {t:Ty} {n:Nat} {x:Operand} {y:t.den} {r:Nat} {log:List Nat} (h:(eatM t n x).Runs T (y,r) log) :
  ∃ k,T.getD r .dead = .d none k t y∧t.depth≤k∧t.depth≤n∧t.depth≠0∧a.eval x=a.tmps.getD r undef:=by
 unfold eatM at h
 split at h
 ·rename_i s
  obtain ⟨log',rfl,h⟩:=h
  have hs:=hI.slots s
  generalize hv:T.getD s .dead=v at h hs
  dsimp only at h
  split at h
  ·rename_i r' t2
   obtain ⟨log2,rfl,h⟩:=h
   dsimp only at h
   split at h
   ·rename_i n' t' y' hu
    split at h
    ·rename_i ht
     subst ht
     split at h
     ·rename_i hc
      obtain ⟨hk,hn,hd⟩:=hc
      obtain ⟨h,_⟩:=h
      injection h with h1 h2
      subst h1 h2
      refine ⟨n',hu,hk,hn,hd,?_⟩
      obtain ⟨_,h1⟩:=hs
      rcases h1 with ⟨_,h2,_⟩ | ⟨_,_,_,h2,_⟩
      ·exact h2
      ·rw [hu] at h2; simp [V.isD] at h2
     ·exact h.elim
    ·exact h.elim
   ·exact h.elim
  ·rename_i n' t' y'
   split at h
   ·rename_i ht
    subst ht
    split at h
    ·rename_i hc
     obtain ⟨hk,hn,hd⟩:=hc
     obtain ⟨h,_⟩:=h
     injection h with h1 h2
     subst h1 h2
     exact ⟨n',hv,hk,hn,hd,rfl⟩
    ·exact h.elim
   ·exact h.elim
  ·exact h.elim
 ·exact h.elim
theorem argsEM_rep [Glob] (hI:Inv w0 L0 N vs T a w L):{ps:List (Ty×Mode)}→{i:Nat}→{xs:List Operand}→{A:Args ps}→{log:List Nat}→(argsEM C i ps xs).Runs T A log →
  (∀ r∈A.ls,(T.getD r .dead).deep=true)∧(∀ r j,(r,j)∈A.mu→i≤j∧∃ t n k y,ps[j - i]? = some (t,.eat n)∧T.getD r .dead = .d none k t y∧t.depth≤k∧t.depth≤n∧t.depth≠0∧(xs.map a.eval)[j - i]? = some (a.tmps.getD r undef)) ∧
  (∀ (j:Nat) (t:Ty) (m:Mode),ps[j]? = some (t,m)→m.back=false) ∧
  ∀ L1:Nat→Lab,(∀ k,L k = .stable→L1 k = .stable)→(∀ k r q,r∈A.ls→L k = .own r q→L1 k = .stable)→(∀ k r j q,(r,j)∈A.mu→L k = .own r q→L1 k = .own j q)→ArgsRep w L1 i ps A.x (xs.map a.eval)
 | [],i,[],A,log,h=>by
  obtain ⟨rfl,_⟩:=h
  exact ⟨by simp,by simp,by simp,fun _ _ _ _=>rfl⟩
 | (t,.ro)::ps,i,x::xs,A,log,h=>by
  simp only [argsEM] at h
  obtain ⟨⟨y,ls⟩,l1,l2,rfl,h1,h⟩:=M.runs_bind h
  obtain ⟨A',l3,l4,rfl,h2,h⟩:=M.runs_bind h
  obtain ⟨rfl,_⟩:=h
  obtain ⟨cells,k1,k2,k3⟩:=argM_rep hI h1
  obtain ⟨j1,j2,j4,j3⟩:=argsEM_rep hI h2
  refine ⟨fun r hr => ?_,fun r j hm => ?_,fun j t' m hj => ?_,fun L1 H1 H2 H3 => ?_⟩
  ·rcases List.mem_append.1 hr with hr | hr
   ·exact k2 r hr
   ·exact j1 r hr
  ·obtain ⟨hi,t',n',k',y',e1,e2,e3,e4,e5,e6⟩:=j2 r j hm
   have:j - i=(j - (i+1))+1:=by omega
   exact ⟨by omega,t',n',k',y',by rw [this]; simpa using e1,e2,e3,e4,e5,by rw [this]; simpa using e6⟩
  ·cases j with
   | zero =>
    simp only [List.getElem?_cons_zero,Option.some.injEq,Prod.mk.injEq] at hj
    rw [← hj.2]; rfl
   | succ j=>exact j4 j t' m (by simpa using hj)
  ·exact ⟨a.eval x,_,cells,rfl,k1,Own.of_rd (k3 _ H1 (fun k r q hr hk=>H2 k r q (List.mem_append_left _ hr) hk)),j3 L1 H1 (fun k r q hr hk=>H2 k r q (List.mem_append_right _ hr) hk) H3⟩
 | (t,.eat n)::ps,i,x::xs,A,log,h=>by
  simp only [argsEM] at h
  obtain ⟨⟨y,r0⟩,l1,l2,rfl,h1,h⟩:=M.runs_bind h
  obtain ⟨A',l3,l4,rfl,h2,h⟩:=M.runs_bind h
  obtain ⟨rfl,_⟩:=h
  obtain ⟨k0,k1,k2,k3,k4,k5⟩:=eatM_rep hI h1
  obtain ⟨j1,j2,j4,j3⟩:=argsEM_rep hI h2
  refine ⟨j1,fun r j hm => ?_,fun j t' m hj => ?_,fun L1 H1 H2 H3 => ?_⟩
  ·rcases List.mem_cons.1 hm with hm | hm
   ·injection hm with e1 e2
    subst e1 e2
    exact ⟨Nat.le_refl _,t,n,k0,y,by simp,k1,k2,k3,k4,by simp [k5]⟩
   ·obtain ⟨hi,t',n',k',y',e1,e2,e3,e4,e5,e6⟩:=j2 r j hm
    have:j - i=(j - (i+1))+1:=by omega
    exact ⟨by omega,t',n',k',y',by rw [this]; simpa using e1,e2,e3,e4,e5,by rw [this]; simpa using e6⟩
  ·cases j with
   | zero =>
    simp only [List.getElem?_cons_zero,Option.some.injEq,Prod.mk.injEq] at hj
    rw [← hj.2]; rfl
   | succ j=>exact j4 j t' m (by simpa using hj)
  ·have hs:=hI.slots r0
   rw [k1] at hs
   obtain ⟨_,cells,hf,ho⟩:=hs
   refine ⟨a.eval x,_,cells,rfl,by rw [k5]; exact hf,?_,j3 L1 H1 H2 (fun k r j q hm hk=>H3 k r j q (List.mem_cons_of_mem _ hm) hk)⟩
   refine Own.move (fun k hk=>⟨?_,rfl⟩) (fun k d rest _ hk=>⟨H3 k r0 i _ (by simp) hk,rfl⟩) (Own.cap k2 k3 ho)
   rcases hk with hk | ⟨_,_,hk,_⟩
   ·exact H1 k hk
   ·cases hk
 | [],_,_::_,_,_,h=>h.elim
 | (_,.ro)::_,_,[],_,_,h=>h.elim
 | (_,.mut _)::_,_,[],_,_,h=>h.elim
 | (_,.mut _)::_,_,_::_,_,_,h=>h.elim
 | (_,.ptr _)::_,_,[],_,_,h=>h.elim
 | (_,.ptr _)::_,_,_::_,_,_,h=>h.elim
 | (_,.eat _)::_,_,[],_,_,h=>h.elim
theorem step_callE [Glob] (hI:Inv w0 L0 N vs T a w L) {tab:Tab} (htab:TabOk P tab) {o:Oper} {f:FuncId} {args:Array Operand} {ats:Array TypeId} {d:Nat} {ups:List (Nat×V)} {log:List Nat}
  (ho:o.op = .call { callee := .value (.func f),args,argTypes:=ats }) (hdst:o.dst=some d) (hd:d < N) (hid:(T.getD d .dead).idle=true)
  (h:(callEM C tab vs N d f args.toList).Runs T ups log):Step P o w0 L0 N vs (setAll T ups) a w:=by
 unfold callEM at h
 split at h
 ·exact h.elim
 ·rename_i F hF
  obtain ⟨⟨fn,hfn,hname,hbody⟩,hok⟩:=htab f F hF
  have hb:=M.runs_bind h
  clear h
  obtain ⟨A,l1,l2,rfl,h1,h⟩:=hb
  obtain ⟨hls,hmu,hback,hargs⟩:=argsEM_rep hI h1
  have hrun:=Go.Conc.run_call_body (P:=P) (a:=a) (w:=w) ho hfn hname hbody
  have hlsd:∀ r∈A.ls,r≠d:=fun r hr=>idle_ne hid (V.owns_of_deep (hls r hr))
  rcases hmu0:A.mu with _ | ⟨⟨r0,i⟩,_ | ⟨p2,rest⟩⟩
  ·rw [hmu0] at h
   exact h.elim
  ·rw [hmu0] at h
   dsimp only at h
   cases hc:(A.ls.contains r0 || !decide (r0 < N)) with
   | true=>rw [hc] at h; exact h.elim
   | false =>
    rw [hc] at h
    obtain ⟨r,hsem,h⟩:=h
    dsimp only at h
    simp only [Bool.or_eq_false_iff,Bool.not_eq_false',decide_eq_true_eq] at hc
    obtain ⟨hc1,hrN⟩:=hc
    have hrls:r0 ∉ A.ls:=fun hm=>by rw [List.contains_iff_mem.2 hm] at hc1; cases hc1
    split at h
    ·rename_i v hv
     obtain ⟨Ts,l3,l4,rfl,hall,hdok,hups⟩:=M.runs_bind h
     obtain ⟨rfl,_⟩:=hups
     have hTs:Ts=T:=by rw [allM_runs hall (by rw [Nat.zero_add,hI.len])]; rfl
     subst hTs
     obtain ⟨_,t,n,k0,y,h2,h5,hk1,hk2,hk3,h6⟩:=hmu r0 i (by rw [hmu0]; simp)
     simp only [Nat.sub_zero] at h2 h6
     have hil:i < F.ps.length:=(List.getElem?_eq_some_iff.1 h2).1
     have hr0own:(Ts.getD r0 .dead).owns=true:=by
      rw [h5]; simp only [V.owns,Bool.and_eq_true,bne_iff_ne]; omega
     have hr0d:r0≠d:=idle_ne hid hr0own
     have hlegit:Legit w (fun k=>toCallee (some (r0,i)) A.ls (L k)) F.ps:=by
      refine ⟨fun k hk=>by rw [hI.free k hk]; rfl,fun k k' s q h h' => ?_,fun k s q h => ?_,Glob.keep hI.fr.glob fun k hk h0=>⟨?_,(hI.fr.keep k hk h0).2⟩⟩
      ·obtain ⟨r1,e1,e2⟩:=toCallee_own h
       obtain ⟨r2,e3,e4⟩:=toCallee_own h'
       rw [e1] at e3
       injection e3 with e3
       injection e3 with e3 _
       subst e3
       exact hI.inj k k' _ _ e2 e4
      ·obtain ⟨r1,e1,e2⟩:=toCallee_own h
       injection e1 with e1
       injection e1 with e1 e3
       subst e1 e3
       exact ⟨t,.eat n,h2,by simp only [Mode.owned,Bool.and_eq_true,bne_iff_ne]; omega⟩
      ·rw [(hI.fr.keep k hk h0).1]
       rcases h0 with h0 | h0 <;> rw [h0] <;> simp [toCallee]
     have hrep:=hargs (fun k=>toCallee (some (r0,i)) A.ls (L k)) (fun k hk=>by rw [hk]; rfl) (fun k r q hr hk=>by
      rw [hk]
      unfold toCallee
      dsimp only
      rw [if_neg (fun e:r=r0=>hrls (by rw [← e]; exact hr)),if_pos (by simpa using hr)]) (fun k r j q hm hk=>by
      rw [hk]
      rw [hmu0] at hm
      simp only [List.mem_singleton,Prod.mk.injEq] at hm
      obtain ⟨rfl,rfl⟩:=hm
      simp [toCallee])
     intro K Q hK
     unfold Oper.wp
     rw [hrun,Oper.upon_enter]
     refine Calls.mono (hok A.x r hsem w _ (args.map a.eval) hlegit (by simpa using hrep)) ?_
     rintro e w' ⟨cs,L',rfl,hleft,hres,hmr⟩
     dsimp only
     rw [hdst]
     refine hK _ _ (backLab (some (r0,i)) F.ps.length d L L') ?_
     have hT':setAll Ts (((r0,V.dead)::depsG (goesP r0 d) 0 Ts)++[(d,v)])=(setAll Ts ((r0,V.dead)::depsG (goesP r0 d) 0 Ts)).set d v:=by
      rw [setAll_append]; rfl
     have hlen1:(setAll Ts ((r0,V.dead)::depsG (goesP r0 d) 0 Ts)).length=N:=by rw [length_setAll,hI.len]
     have hTd:(setAll Ts (((r0,V.dead)::depsG (goesP r0 d) 0 Ts)++[(d,v)])).getD d .dead=v:=by
      rw [hT',getD_set,if_pos ⟨rfl,by rw [hlen1]; exact hd⟩]
     have hTo:∀ s,s≠d→(setAll Ts (((r0,V.dead)::depsG (goesP r0 d) 0 Ts)++[(d,v)])).getD s .dead=(setAll Ts ((r0,V.dead)::depsG (goesP r0 d) 0 Ts)).getD s .dead:=by
      intro s hs
      rw [hT',getD_set,if_neg (fun e=>hs e.1)]
     have hkeys:∀ s v,(s,v)∈((r0,V.dead)::depsG (goesP r0 d) 0 Ts)→(s=r0∧v = .dead)∨(v = .dead∧s≠r0∧(Ts.getD s .dead).on r0=true):=by
      intro s v hm
      rcases List.mem_cons.1 hm with hm | hm
      ·injection hm with h1 h2
       exact .inl ⟨h1,h2⟩
      ·obtain ⟨h1,_,_,h2⟩:=(depsG_mem s v).1 hm
       simp only [Nat.sub_zero,goesP,Bool.and_eq_true,bne_iff_ne] at h2
       exact .inr ⟨h1,h2.1.2,h2.1.1⟩
     have hTr:(setAll Ts ((r0,V.dead)::depsG (goesP r0 d) 0 Ts)).getD r0 .dead = .dead:=by
      refine getD_setAll_mem (by rw [hI.len]; exact hrN) (by simp) (fun v hm => ?_)
      rcases hkeys r0 v hm with ⟨_,h⟩ | ⟨_,h,_⟩
      ·exact h
      ·exact absurd rfl h
     have hTs2:∀ s,s≠d→s≠r0→(Ts.getD s .dead).on r0=true→(setAll Ts ((r0,V.dead)::depsG (goesP r0 d) 0 Ts)).getD s .dead = .dead∧(Ts.getD s .dead).owns=false:=by
      intro s hsd hs hon
      have hslt:s < N:=by
       rcases Nat.lt_or_ge s N with h | h
       ·exact h
       ·rw [getD_out (by rw [hI.len]; exact h)] at hon; simp [V.on,V.root] at hon
      have hg:goesP r0 d s (Ts.getD s .dead)=true:=by
       unfold goesP
       rw [hon]
       simp [hs,hsd]
      refine ⟨getD_setAll_mem (by rw [hI.len]; exact hslt) ?_ (fun v hm => ?_),?_⟩
      ·rw [List.mem_map]
       exact ⟨(s,.dead),List.mem_cons_of_mem _ ((depsG_mem s .dead).2 ⟨rfl,Nat.zero_le _,by rw [Nat.zero_add,hI.len]; exact hslt,by rw [Nat.sub_zero]; exact hg⟩),rfl⟩
      ·rcases hkeys s v hm with ⟨h,_⟩ | ⟨h,_⟩
       ·exact absurd h hs
       ·exact h
      ·exact depsGOk_spec hdok s (by rw [hI.len]; exact hslt) (by rw [Nat.zero_add]; exact hg)
     have hTn:∀ s,s≠r0→(Ts.getD s .dead).on r0=false→(setAll Ts ((r0,V.dead)::depsG (goesP r0 d) 0 Ts)).getD s .dead=Ts.getD s .dead:=by
      intro s hs hon
      refine getD_setAll _ _ _ (fun hm => ?_)
      obtain ⟨u,hu,he⟩:=List.mem_map.1 hm
      rcases hkeys s u.2 (by rw [← he]; exact hu) with ⟨h,_⟩ | ⟨_,_,h⟩
      ·exact hs h
      ·rw [hon] at h; cases h
     have hlsame:∀ r∈A.ls,((setAll Ts (((r0,V.dead)::depsG (goesP r0 d) 0 Ts)++[(d,v)])).getD r .dead).deep=true:=by
      intro r hr
      have hrr:r≠r0:=fun e=>hrls (e▸hr)
      have ho:=V.owns_of_deep (hls r hr)
      rw [hTo r (hlsd r hr)]
      cases hon:(Ts.getD r .dead).on r0 with
      | false=>rw [hTn r hrr hon]; exact hls r hr
      | true =>
       have h:=(hTs2 r (hlsd r hr) hrr hon).2
       rw [h] at ho; cases ho
     obtain ⟨k1,k2,k3⟩:=resV_rep (T':=setAll Ts (((r0,V.dead)::depsG (goesP r0 d) 0 Ts)++[(d,v)])) (d:=d) hI hleft rfl hlsame hres hv
     refine Inv.calledG hI hd hid rfl (fun r i h=>by injection h with h; injection h with _ h; subst h; exact hil) hleft (by rw [length_setAll,hI.len]) (fun j' t n hj hm=>by rw [hback j' t n hj] at hm; cases hm) ?_ ?_ ?_ hTd k1 k2 (fun r i h=>by injection h with h; injection h with h _; subst h; exact hrls) k3
     ·intro r i h
      injection h with h
      injection h with h h'
      subst h h'
      rw [hTo r0 hr0d,hTr]
      exact ⟨hr0own,.inl hback,rfl,trivial⟩
     ·intro s r i h hsd hsr hon
      injection h with h
      injection h with h h'
      subst h h'
      rw [hTo s hsd]
      exact .inl (hTs2 s hsd hsr hon)
     ·intro s hsd hs
      obtain ⟨e1,e2⟩:=hs r0 i rfl
      rw [hTo s hsd]
      exact hTn s e1 e2
    ·exact h.elim
  ·rw [hmu0] at h
   exact h.elim
theorem step_callZ [Glob] (hI:Inv w0 L0 N vs T a w L) {tab:Tab} (htab:TabOk P tab) {o:Oper} {f:FuncId} {args:Array Operand} {ats:Array TypeId} {d:Nat} {ups:List (Nat×V)} {log:List Nat}
  (ho:o.op = .call { callee := .value (.func f),args,argTypes:=ats }) (hdst:o.dst=some d) (hd:d < N) (hid:(T.getD d .dead).idle=true)
  (h:(callZM C tab vs N d f args.toList).Runs T ups log):Step P o w0 L0 N vs (setAll T ups) a w:=by
 unfold callZM at h
 split at h
 ·exact h.elim
 ·generalize anyEat _=b at h
  cases b with
  | true=>exact step_callE hI htab ho hdst hd hid h
  | false=>exact step_callY hI htab ho hdst hd hid h
end
end Go.Proofs.YtkanidldnnfloaaGreat.P.Am
