/- A part of the proof: Am30, Am31, Am32, Am33, Am34, Am35, Am36, Am50, Am51. No conditions. -/
import Derived.Test.YtkanidldnnfloaaGreatPG6
import Derived.RowKit3
import Derived.ChangeSame
import Derived.Handed
import Derived.Sort.Grow
import Derived.Deep.Draws
set_option linter.unusedVariables false
set_option linter.unusedSimpArgs false
namespace Go.Proofs.YtkanidldnnfloaaGreat.P.Am
def idleM (N d:Nat) (m:M (List (Nat×V))):M (List (Nat×V)) := .get d fun v => .chk (v.idle && decide (d < N)) m
def pureUps (C:Ctx) (vs:List Nat) (d:Nat) (o:Oper):M (List (Nat×V)):=(pureM C o).bind fun v => .chk (okOn vs v) (.ret [(d,v)])
def maxUps (C:Ctx) (d:Nat) (mx:Bool) (args:List Operand):M (List (Nat×V)) :=
 match args with
 | [x,y]=>(opnd C 0 x).bind fun u=>(opnd C 0 y).bind fun v=>match u,v with
  | .d _ _ (.int k) m,.d _ _ (.int _) n => .ret [(d,.d none 0 (.int k) (cond mx (if m < n then n else m) (if n < m then n else m)))]
  | _,_ => .fail
 | _ => .fail
def boxUps (C:Ctx) (vs:List Nat) (X:TypeId) (d:Nat) (x:Operand):M (List (Nat×V)) :=
 (opnd C X x).bind fun v=>match v with
 | .d l k t y=>if C.ty X=some t∧(k=0∨t.depth=0) then .chk (okOn vs (.box l 0 t y)) (.ret [(d,.box l 0 t y)]) else .fail
 | _ => .fail
def moveUps (C:Ctx) (vs:List Nat) (N d:Nat) (X:TypeId) (x:Operand) (hx:Nat→Nat→Option Nat):M (List (Nat×V)) :=
 match x with
 | .tmp s => .get s fun v=>match v with
  | .tup _ => .chk (decide (d < N)) (tupUps vs N d s (hx d))
  | _=>assignM C vs N d X x
 | _=>assignM C vs N d X x
def tmpsOf:List Operand→List Nat
 | []=>[]
 | .tmp s::l=>s::tmpsOf l
 | _::l=>tmpsOf l
def appTmps (C:Ctx) (X:TypeId) (s x:Operand):List Nat :=
 match C.ty X with
 | some (.slice _ t)=>if t.depth=0 then tmpsOf [s] else tmpsOf [s,x]
 | _=>[]
structure Hints where
 hx:Nat→Nat→Option Nat
 bx:Nat→Bool
 kids:Nat→List Nat
def storeH (C:Ctx) (vs:List Nat) (N:Nat) (hx:Hints) (X:TypeId) (t:Nat) (x:Operand):M (List (Nat×V)) :=
 .get t fun v=>match addrOf t v with
 | none => .fail
 | some (r,p) => .get r fun u=>match u with
  | .hole u' p'=>fillM C vs N (hx.kids r) X r p u' p' x
  | _=>(fun m=>cond (hx.bx (3000+r)) (mixStoreM C vs N (hx.kids r) X r p u x m) m) <| match p with
   | []=>cond (hx.bx r) (wholeM C vs N (hx.kids r) X r u x (storeM C vs N (some (hx.kids r)) X t x)) (storeM C vs N none X t x)
   | _::_=>cond (hx.bx r) (storeDeepM C N (hx.kids r) X r p u x (storeM C vs N (some (hx.kids r)) X t x)) (cond (hx.bx (5000+r)) (storeRowM C N (hx.kids r) X r p u x (storeM C vs N none X t x)) (storeM C vs N none X t x))
def frozenRes (tab:Tab) (f:FuncId):Bool:=match tab f with
 | some F=>(F.rs.any fun p=>p.2 == 0 && p.1.depth != 0) || !fullP F.ps
 | none=>false
def stepM (C:Ctx) (tab:Tab) (vs:List Nat) (hx:Hints) (N:Nat) (o:Oper):M (List (Nat×V)) :=
 match o.dst with
 | none=>match o.op with
  | .store X (.tmp t) x=>takeFor N hx.kids (tmpsOf [x]) (storeH C vs N hx X t x)
  | _ => .fail
 | some d=>match o.op with
  | .move x=>dmMoveM vs N d (hx.bx (1000+d)) x (moveUps C vs N d o.type x hx.hx)
  | .load X (.tmp t)=>cond (hx.bx (1000+d)) (dmLoadM C N X d t) (idleM N d (pureUps C vs d o))
  | .indexAddr X (.tmp t) y=>idleM N d (dmIdxM C vs X d t y (pureUps C vs d o))
  | .assign x=>assignM C vs N d o.type x
  | .box X x=>idleM N d (bxMvM C vs X d x (boxUps C vs X d x))
  | .build X parts=>takeFor N hx.kids (tmpsOf (parts.toList.map (·.2))) (idleM N d (buildUps C vs X d parts.toList))
  | .buildSlice X len parts=>takeFor N hx.kids (tmpsOf (parts.toList.map (·.2))) (idleM N d (rowUps C vs X d len parts.toList))
  | .extract x i => .chk (decide (d < N)) (extUps vs d x i)
  | .fieldAddr X (.tmp t) f=>cond (hx.bx t) (idleM N d ((fieldBoxM C X f t).bind fun v => .chk (okOn vs v) (.ret [(d,v)]))) (idleM N d (pureUps C vs d o))
  | .call c=>match c.callee with
   | .value (.func f)=>iceFor N (cond (frozenRes tab f) ((tmpsOf c.args.toList).filter fun s => !vs.contains s) []) (idleM N d (callZM C tab vs N d f c.args.toList))
   | .builtin .max=>idleM N d (maxUps C d true c.args.toList)
   | .builtin .len=>idleM N d (dmLenM C d c.args.toList c.argTypes.toList (pureUps C vs d o))
   | .builtin .min=>idleM N d (maxUps C d false c.args.toList)
   | .builtin .append=>match c.args,c.argTypes with
    | ⟨[s,x]⟩,⟨[X,X2]⟩=>takeFor N hx.kids (appTmps C X s x) (idleM N d (appUps C vs d X X2 s x))
    | _,_ => .fail
   | _=>idleM N d (pureUps C vs d o)
  | _=>idleM N d (pureUps C vs d o)
section
variable {P:Program} {C:Ctx} {w w' w0:World} {L L' L0:Nat→Lab} {N:Nat} {vs:List Nat} {T T':List V} {a:Act}
theorem idleM_runs {d:Nat} {m:M (List (Nat×V))} {ups:List (Nat×V)} {log:List Nat} (h:(idleM N d m).Runs T ups log):(T.getD d .dead).idle=true∧d < N∧∃ log,m.Runs T ups log:=by
 obtain ⟨log',rfl,hc,h⟩:=h
 simp only [Bool.and_eq_true,decide_eq_true_eq] at hc
 exact ⟨hc.1,hc.2,log',h⟩
theorem step_pure [Glob] (hI:Inv w0 L0 N vs T a w L) (hC:CtxOk P C) {o:Oper} {d:Nat} {ups:List (Nat×V)} {log:List Nat} (hdst:o.dst=some d) (hd:d < N) (hid:(T.getD d .dead).idle=true)
  (h:(pureUps C vs d o).Runs T ups log):Step P o w0 L0 N vs (setAll T ups) a w:=by
 obtain ⟨v,l1,l2,rfl,h1,hok,rfl,_⟩:=M.runs_bind h
 intro K Q hK
 exact PureRes.inv hI hd hid hdst (pure_sound hI hC hid (okOn_mem hok) h1) hK
theorem step_max [Glob] (hI:Inv w0 L0 N vs T a w L) {o:Oper} {mx:Bool} {args:Array Operand} {ats:Array TypeId} {d:Nat} {ups:List (Nat×V)} {log:List Nat} (ho:o.op = .call { callee := .builtin (cond mx .max .min),args,argTypes:=ats }) (hdst:o.dst=some d) (hd:d < N) (hid:(T.getD d .dead).idle=true)
  (h:(maxUps C d mx args.toList).Runs T ups log):Step P o w0 L0 N vs (setAll T ups) a w:=by
 obtain ⟨args⟩:=args
 dsimp only at h
 unfold maxUps at h
 split at h
 ·rename_i x y
  obtain ⟨u,l1,l2,rfl,h1,h⟩:=M.runs_bind h
  obtain ⟨v,l3,l4,rfl,h2,h⟩:=M.runs_bind h
  split at h
  ·rename_i l n k m l' n' k' m' _
   obtain ⟨rfl,_⟩:=h
   have hx:=opnd_int hI h1
   have hy:=opnd_int hI h2
   have hres:PureRes P o vs T a w L d (.d none 0 (.int k) (cond mx (if m < m' then m' else m) (if m' < m then m' else m))):=by
    refine PureRes.still hI ?_ (fun _=>rfl) SRep.mkInt
    cases mx with
    | true=>simp [execOp,ho,resolve,invoke,builtin,Builtin.max_,Builtin.max2,hx,hy]
    | false=>simp [execOp,ho,resolve,invoke,builtin,Builtin.min_,Builtin.min2,hx,hy]
   intro K Q hK
   exact PureRes.inv hI hd hid hdst hres hK
  ·exact h.elim
 ·exact h.elim
theorem step_box [Glob] (hI:Inv w0 L0 N vs T a w L) (hC:CtxOk P C) {o:Oper} {X:TypeId} {x:Operand} {d:Nat} {ups:List (Nat×V)} {log:List Nat} (ho:o.op = .box X x) (hdst:o.dst=some d) (hd:d < N) (hid:(T.getD d .dead).idle=true)
  (h:(boxUps C vs X d x).Runs T ups log):Step P o w0 L0 N vs (setAll T ups) a w:=by
 obtain ⟨v,l1,l2,rfl,h1,h2⟩:=M.runs_bind h
 split at h2
 ·rename_i l k t y
  split at h2
  ·rename_i hc
   obtain ⟨hX,hk⟩:=hc
   obtain ⟨hok,rfl,_⟩:=h2
   have hrep:∃ s0,SRep L T a.tmps s0 (.d l k t y) w (a.eval x):=by
    rcases opnd_rep hI h1 with ⟨s,_,_,hs⟩ | ⟨_,hs⟩
    ·exact ⟨s,hs⟩
    ·exact ⟨0,hs _ _ _ _ _⟩
   obtain ⟨s0,hdp,cs,hf,how⟩:=hrep
   have hcs:=Form.cells hf (Own.one how)
   have hrun:(execOp a.eval o).run P w = .ok (.value (.pointer (some ⟨w.heap.size,0,none⟩))) (w.alloc (.cells (a.eval x).cells X)):=by
    simp [execOp,ho,Instr.box,newVar,newRow,newObj,Sem.run]
   have hres:PureRes P o vs T a w L d (.box l 0 t y):=by
    refine ⟨_,_,_,hrun,Grows.alloc hI d [] _,fun _ _ _ _=>rfl,okOn_mem hok,fun r hr => ?_,w.heap.size,(a.eval x).cells,X,rfl,by simp,heap_new _ _,?_,?_⟩
    ·have:=hdp r hr
     rw [getD_set,if_neg (fun e=>idle_ne hid (V.owns_of_deep this) e.1)]
     exact this
    ·rw [← Array.length_toList,hcs,Own.len how]
    ·rw [hcs]
     have h0:=Own.rd0 (Own.at0 (s':=0) (q':=[]) (o':=0) (n':=0) hk how (.inl rfl))
     refine Own.of_rd (Rd.move (fun k hk => ?_) h0)
     have hlt:k < w.heap.size:=hI.lt (by rcases hk with hk | ⟨_,_,_,hk⟩ <;> rw [hk] <;> simp)
     refine ⟨?_,Go.RowKit.Below.heap_alloc w _ k hlt⟩
     unfold SL
     dsimp only
     rw [if_neg (by omega)]
     exact hk
   intro K Q hK
   exact PureRes.inv hI hd hid hdst hres hK
  ·exact h2.elim
 ·exact h2.elim
theorem addr_rep [Glob] (hI:Inv w0 L0 N vs T a w L) {t r:Nat} {p:List St} (he:addrOf t (T.getD t .dead)=some (r,p)):∃ g,a.eval (.tmp t) = .pointer (some ⟨g,(node [] 0 p).2,none⟩)∧L g = .own r (node [] 0 p).1:=by
 have hst:=hI.slots t
 generalize T.getD t .dead=v at he hst
 cases v with
 | ptr r2 p2 t2 =>
  simp only [addrOf,Option.some.injEq,Prod.mk.injEq] at he
  obtain ⟨rfl,rfl⟩:=he
  exact hst
 | box l n t2 x2 =>
  simp only [addrOf,Option.some.injEq,Prod.mk.injEq] at he
  obtain ⟨rfl,rfl⟩:=he
  obtain ⟨_,g,cur,e,h1,h2,_⟩:=hst
  exact ⟨g,h1,h2⟩
 | dead=>cases he
 | tup _=>cases he
 | d _ _ _ _=>cases he
 | rp _ _ _=>cases he
 | view _ _ _=>cases he
 | hole _ _=>cases he
 | part _ _ _ _ _=>cases he
 | odd _ _ _ _=>cases he
 | same _ _=>cases he
theorem stepM_ok [Glob] (hmix:P.follows .mixedOrders=true) (hC:CtxOk P C) {tab:Tab} (htab:TabOk P tab) {hx:Hints} {E:Env} (hE:E.step=stepM C tab vs hx E.N):StepOk P w0 L0 vs E:=by
 refine ⟨hmix,?_⟩
 intro o T ups log a w L hI h
 rw [hE] at h
 unfold stepM at h
 have hpure:∀ {d:Nat},o.dst=some d→(idleM E.N d (pureUps C vs d o)).Runs T ups log→Step P o w0 L0 E.N vs (setAll T ups) a w:=by
  intro d hdst h
  obtain ⟨h1,h2,log,h3⟩:=idleM_runs h
  exact step_pure hI hC hdst h2 h1 h3
 split at h
 ·rename_i hdst
  split at h
  ·rename_i X t x ho
   obtain ⟨T1,L1,ups2,log2,hI1,h,hset⟩:=takeFor_runs hI h
   rw [hset]
   obtain ⟨l1,rfl,h⟩:=h
   dsimp only at h
   split at h
   ·exact h.elim
   ·rename_i r p hadr
    obtain ⟨l2,rfl,h⟩:=h
    dsimp only at h
    split at h
    ·rename_i u' p' hur
     exact step_fill hI1 hC ho hdst hadr (fun r p=>addr_rep hI1) hur h
    ·have hold:∀ log,(match p with
       | []=>cond (hx.bx r) (wholeM C vs E.N (hx.kids r) X r (T1.getD r .dead) x (storeM C vs E.N (some (hx.kids r)) X t x)) (storeM C vs E.N none X t x)
       | _::_=>cond (hx.bx r) (storeDeepM C E.N (hx.kids r) X r p (T1.getD r .dead) x (storeM C vs E.N (some (hx.kids r)) X t x)) (cond (hx.bx (5000+r)) (storeRowM C E.N (hx.kids r) X r p (T1.getD r .dead) x (storeM C vs E.N none X t x)) (storeM C vs E.N none X t x)):M (List (Nat×V))).Runs T1 ups2 log→Step P o w0 L0 E.N vs (setAll T1 ups2) a w:=by
      intro log h
      split at h
      ·cases hb:hx.bx r with
       | true =>
        rw [hb,cond_true] at h
        exact step_whole hI1 hC ho hdst hadr (fun r p=>addr_rep hI1) rfl (fun h=>step_store hI1 hC ho hdst h) h
       | false =>
        rw [hb,cond_false] at h
        exact step_store hI1 hC ho hdst h
      ·cases hb:hx.bx r with
       | true =>
        rw [hb,cond_true] at h
        exact step_storeDeep hI1 hC ho hdst hadr (fun r p=>addr_rep hI1) rfl h (fun _ h=>step_store hI1 hC ho hdst h)
       | false =>
        rw [hb,cond_false] at h
        cases hb5:hx.bx (5000+r) with
        | true =>
         rw [hb5,cond_true] at h
         exact step_storeRow hI1 hC ho hdst hadr (fun r p=>addr_rep hI1) rfl h (fun _ h=>step_store hI1 hC ho hdst h)
        | false =>
         rw [hb5,cond_false] at h
         exact step_store hI1 hC ho hdst h
     cases hb3:hx.bx (3000+r) with
     | true =>
      rw [hb3,cond_true] at h
      exact step_mix hI1 hC ho hdst hadr (fun r p=>addr_rep hI1) rfl h hold
     | false =>
      rw [hb3,cond_false] at h
      exact hold _ h
  ·exact h.elim
 ·rename_i d hdst
  split at h
  ·rename_i x ho
   refine step_dmMove hI (.inl ho) hdst h (fun log h => ?_)
   unfold moveUps at h
   split at h
   ·rename_i s
    obtain ⟨log',rfl,h⟩:=h
    dsimp only at h
    split at h
    ·obtain ⟨hd,h⟩:=h
     exact step_tup hI (.inl ho) hdst (by simpa using hd) h
    ·exact step_assign hI (.inl ho) hdst h
   ·exact step_assign hI (.inl ho) hdst h
  ·rename_i X t ho
   cases hb:hx.bx (1000+d) with
   | true=>rw [hb,cond_true] at h; exact step_dmLoad hI hC ho hdst h
   | false=>rw [hb,cond_false] at h; exact hpure hdst h
  ·rename_i X t y ho
   obtain ⟨h1,h2,log,h3⟩:=idleM_runs h
   exact step_dmIdx hI hC ho hdst h2 h1 h3 (fun _ hm=>step_pure hI hC hdst h2 h1 hm)
  ·rename_i x ho
   exact step_assign hI (.inr ho) hdst h
  ·rename_i X x ho
   obtain ⟨h1,h2,log,h3⟩:=idleM_runs h
   exact step_bxMv hI hC ho hdst h2 h1 h3 (fun _ hm=>step_box hI hC ho hdst h2 h1 hm)
  ·rename_i X parts ho
   obtain ⟨T1,L1,ups2,log2,hI1,h,hset⟩:=takeFor_runs hI h
   rw [hset]
   obtain ⟨h1,h2,log,h3⟩:=idleM_runs h
   exact step_build hI1 hC ho hdst h2 h1 h3
  ·rename_i X len parts ho
   obtain ⟨T1,L1,ups2,log2,hI1,h,hset⟩:=takeFor_runs hI h
   rw [hset]
   obtain ⟨h1,h2,log,h3⟩:=idleM_runs h
   exact step_row hI1 hC ho hdst h2 h1 h3
  ·rename_i x i ho
   obtain ⟨hd,h⟩:=h
   exact step_ext hI ho hdst (by simpa using hd) h
  ·rename_i X t f ho
   cases hb:hx.bx t with
   | false=>rw [hb] at h; exact hpure hdst h
   | true =>
    rw [hb] at h
    obtain ⟨h1,h2,log,h3⟩:=idleM_runs h
    obtain ⟨v,l1,l2,rfl,h4,hok,rfl,_⟩:=M.runs_bind h3
    intro K Q hK
    exact PureRes.inv hI h2 h1 hdst (pure_fieldBox hI hC ho h4 (okOn_mem hok)) hK
  ·rename_i c ho
   split at h
   ·rename_i f hf
    obtain ⟨T1,L1,ups2,log2,hI1,h,hset⟩:=iceFor_runs hI h
    rw [hset]
    obtain ⟨h1,h2,log,h3⟩:=idleM_runs h
    obtain ⟨callee,args,ats⟩:=c
    dsimp only at hf h3
    subst hf
    exact step_callZ hI1 htab ho hdst h2 h1 h3
   ·rename_i hf
    obtain ⟨h1,h2,log,h3⟩:=idleM_runs h
    obtain ⟨callee,args,ats⟩:=c
    dsimp only at hf h3
    subst hf
    exact step_max hI (mx:=true) (by rw [ho]; rfl) hdst h2 h1 h3
   ·rename_i hf
    obtain ⟨h1,h2,log,h3⟩:=idleM_runs h
    obtain ⟨callee,args,ats⟩:=c
    dsimp only at hf h3
    subst hf
    exact step_dmLen hI hC ho hdst h2 h1 h3 (fun _ hm=>step_pure hI hC hdst h2 h1 hm)
   ·rename_i hf
    obtain ⟨h1,h2,log,h3⟩:=idleM_runs h
    obtain ⟨callee,args,ats⟩:=c
    dsimp only at hf h3
    subst hf
    exact step_max hI (mx:=false) (by rw [ho]; rfl) hdst h2 h1 h3
   ·rename_i hf
    obtain ⟨callee,args,ats⟩:=c
    dsimp only at hf h
    subst hf
    split at h
    ·rename_i s x X X2
     obtain ⟨T1,L1,ups2,log2,hI1,h,hset⟩:=takeFor_runs hI h
     rw [hset]
     obtain ⟨h1,h2,log,h3⟩:=idleM_runs h
     exact step_append hI1 hC ho hdst h2 h1 h3
    ·exact h.elim
   ·exact hpure hdst h
  ·exact hpure hdst h
end
def resOne (t:Ty) (n s:Nat) (v:V):M (t.den×Option Nat×List Nat) :=
 if t.depth=0∨n=0 then (readD s v).bind fun z=>if h:z.2.1=t then .ret (h▸z.2.2,none,if t.depth=0 then [] else z.1.toList) else .fail
 else match v with
  | .d none k t' y=>if h:t'=t then (if n≤k then .ret (h▸y,some s,[]) else .fail) else .fail
  | .view r [] _ => .get r fun u=>match u with
   | .d none k t' y=>if h:t'=t then (if n≤k then .ret (h▸y,some r,[]) else .fail) else .fail
   | _ => .fail
  | _ => .fail
structure Src where
 s:Nat
 o:Nat
 sz:Nat
 n:Nat
structure Outs (rs:List (Ty×Nat)) where
 x:(rTy rs).den
 ss:List Src
 ls:List Nat
inductive RV where
 | tmp (s:Nat)
 | cell (s:Nat) (X:TypeId)
def RV.slot:RV→Nat
 | .tmp s=>s
 | .cell s _=>s
def RV.var:RV→ResultVar
 | .tmp s => .tmp s
 | .cell s X => .cell s X
def resCell (C:Ctx) (X:TypeId) (t:Ty) (n s:Nat) (v:V):M (t.den×Option Nat×List Nat) :=
 match v with
 | .box none k t' y=>if h:t'=t then
   if C.ty X=some t then
    (if t.depth=0∨n=0 then .ret (h▸y,none,if t.depth=0 then [] else [s]) else if n≤k then .ret (h▸y,some s,[]) else .fail)
   else .fail
  else .fail
 | _ => .fail
def resV1 (C:Ctx) (t:Ty) (n:Nat) (rv:RV) (v:V):M (t.den×Option Nat×List Nat) :=
 match rv with
 | .tmp s=>resOne t n s v
 | .cell s X=>resCell C X t n s v
def resM (C:Ctx):Nat→(rs:List (Ty×Nat))→List RV→M (Outs rs)
 | _,[],[] => .ret ⟨(),[],[]⟩
 | o,(t,n)::rs,rv::sl => .get rv.slot fun v=>(resV1 C t n rv v).bind fun y=>(resM C (o+t.sz) rs sl).bind fun r =>
   .ret ⟨(y.1,r.x),(match y.2.1 with | some s'=>⟨s',o,t.sz,n⟩::r.ss | none=>r.ss),y.2.2++r.ls⟩
 | _,_,_ => .fail
def FinVal (P:Program) (w:World) (a:Act):RV→Value→Prop
 | .tmp s,c=>c=a.tmps.getD s undef
 | .cell s X,c=>∃ A,a.tmps.getD s undef = .pointer (some A)∧(loadVar X A).run P w = .ok c w
def FinVals (P:Program) (w:World) (a:Act):List RV→List Value→Prop
 | [],cs=>cs=[]
 | rv::l,cs=>∃ c cs',cs=c::cs'∧FinVal P w a rv c∧FinVals P w a l cs'
def outM:Nat→(ps:List (Ty×Mode))→M ((mTy ps).den×List (Nat×Nat))
 | _,[] => .ret ((),[])
 | i,(t,.mut n)::ps => .get i fun v=>match v with
  | .d none k t' y=>if h:t'=t then (if k=n then (outM (i+1) ps).bind fun r => .ret ((h▸y,r.1),(i,i)::r.2) else .fail) else .fail
  | .view d [] tv => .get d fun u=>match u with
   | .box none k t' y=>if h:t'=t then (if k=n∧tv=t then (outM (i+1) ps).bind fun r => .ret ((h▸y,r.1),(d,i)::r.2) else .fail) else .fail
   | _ => .fail
  | _ => .fail
 | i,(t,.ptr n)::ps => .get i fun v=>match v with
  | .box none k t' y=>if h:t'=t then (if k=n then (outM (i+1) ps).bind fun r => .ret ((h▸y,r.1),(i,i)::r.2) else .fail) else .fail
  | _ => .fail
 | i,(_,.ro)::ps=>outM (i+1) ps
 | i,(_,.eat _)::ps=>outM (i+1) ps
def muts:Nat→List (Ty×Mode)→List Nat
 | _,[]=>[]
 | i,(_,.mut _)::ps=>i::muts (i+1) ps
 | i,(_,.ptr _)::ps=>i::muts (i+1) ps
 | i,(_,.ro)::ps=>muts (i+1) ps
 | i,(_,.eat _)::ps=>muts (i+1) ps
def finM (C:Ctx) (ps:List (Ty×Mode)) (rs:List (Ty×Nat)) (sl:List RV):M (Ty.pair (rTy rs) (mTy ps)).den :=
 (resM C 0 rs sl).bind fun r=>(outM 0 ps).bind fun m =>
  .chk (nodupB (r.ss.map (·.s)) && r.ls.all (fun l => !(r.ss.map (·.s)).contains l && !(m.2.map (·.1)).contains l) && (m.2.map (·.1)).all (fun i => !(r.ss.map (·.s)).contains i) && nodupB (m.2.map (·.1))) (.ret (r.x,m.1))
def finPM:(ps:List (Ty×Mode))→(rs:List (Ty×Nat))→List RV→M (Ty.pair (rTy rs) (mTy ps)).den
 | ps,[(t,n)],[.tmp s] => .get s fun v=>(boxOf s v).bind fun z=>if h:z.2.t=t then (if z.2.n+1000=n then (outM 0 ps).bind fun m => .chk (nodupB (z.1::m.2.map (·.1))) (.ret ((h▸z.2.x,()),m.1)) else .fail) else .fail
 | _,_,_ => .fail
def finLab (m:Nat) (mu:List (Nat×Nat)) (ss:List Src):Lab→Lab
 | .own s q=>match mu.find? (fun p=>p.1 == s) with
  | some p => .own p.2 q
  | none=>match ss.find? (fun p=>p.s == s) with
   | some p=>match q with
    | y::rest=>if y < p.sz then (if rest.length < p.n then .own m ((p.o+y)::rest) else .stable) else .stable
    | [] => .stable
   | none => .stable
 | x=>x
theorem find_none_of {mu:List (Nat×Nat)} {s:Nat} (h:s ∉ mu.map (·.1)):mu.find? (fun p=>p.1 == s)=none:=by
 rw [List.find?_eq_none]
 intro p hp he
 exact h (List.mem_map.2 ⟨p,hp,by simpa using he⟩)
theorem find_mu {mu:List (Nat×Nat)} {s j:Nat} (hn:nodupB (mu.map (·.1))=true) (h:(s,j)∈mu):mu.find? (fun p=>p.1 == s)=some (s,j):=by
 induction mu with
 | nil=>cases h
 | cons x l ih =>
  simp only [List.map_cons,nodupB,Bool.and_eq_true,Bool.not_eq_true'] at hn
  rcases List.mem_cons.1 h with rfl | hm
  ·simp
  ·have hne:x.1≠s:=fun e=>by
    have:(l.map (·.1)).contains x.1=true:=by
     rw [List.contains_iff_mem,e]
     exact List.mem_map.2 ⟨(s,j),hm,rfl⟩
    rw [hn.1] at this
    cases this
   rw [List.find?_cons_of_neg (by simpa using hne)]
   exact ih hn.2 hm
section
variable {P:Program} {C:Ctx} {w w' w0:World} {L L' L0:Nat→Lab} {N:Nat} {vs:List Nat} {T T':List V} {a:Act}
theorem finLab_lend [Glob] {m:Nat} {mu:List (Nat×Nat)} {ss:List Src} {s:Nat} {q:List Nat} (h1:s ∉ mu.map (·.1)) (h2:s ∉ ss.map (·.s)):finLab m mu ss (.own s q) = .stable:=by
 unfold finLab
 dsimp only
 rw [find_none_of h1]
 have:ss.find? (fun p=>p.s == s)=none:=by
  rw [List.find?_eq_none]
  intro p hp he
  exact h2 (List.mem_map.2 ⟨p,hp,by simpa using he⟩)
 rw [this]
theorem finLab_src [Glob] {m:Nat} {mu:List (Nat×Nat)} {ss:List Src} {p:Src} (hn:nodupB (ss.map (·.s))=true) (h1:p.s ∉ mu.map (·.1)) (hp:p∈ss) {y:Nat} {rest:List Nat} (hy:y < p.sz) :
  finLab m mu ss (.own p.s (y::rest))=if rest.length < p.n then .own m ((p.o+y)::rest) else .stable:=by
 unfold finLab
 dsimp only
 rw [find_none_of h1]
 have:ss.find? (fun p'=>p'.s == p.s)=some p:=by
  clear h1 hy
  induction ss with
  | nil=>cases hp
  | cons x l ih =>
   simp only [List.map_cons,nodupB,Bool.and_eq_true,Bool.not_eq_true'] at hn
   rcases List.mem_cons.1 hp with rfl | hp
   ·simp
   ·have hne:x.s≠p.s:=fun e=>by
     have:(l.map (·.s)).contains x.s=true:=by
      rw [List.contains_iff_mem,e]
      exact List.mem_map_of_mem hp
     rw [hn.1] at this
     cases this
    rw [List.find?_cons_of_neg (by simpa using hne)]
    exact ih hn.2 hp
 rw [this]
 dsimp only
 rw [if_pos hy]
theorem resOne_rep [Glob] (hI:Inv w0 L0 N vs T a w L) {t:Ty} {n s:Nat} {y:t.den} {src:Option Nat} {ls:List Nat} {log:List Nat} (h:(resOne t n s (T.getD s .dead)).Runs T (y,src,ls) log) :
  ∃ cells,Form t cells (a.tmps.getD s undef)∧(∀ s',src=some s'→n≠0∧t.depth≠0) ∧
   ∀ (L':Nat→Lab) (m o:Nat),(∀ k,L k = .stable→L' k = .stable)→(∀ k r q,r∈ls→L k = .own r q→L' k = .stable) →
    (∀ s' k i rest,src=some s'→L k = .own s' (i::rest)→i < t.sz→(rest.length < n→L' k = .own m ((o+i)::rest))∧(n≤rest.length→L' k = .stable)) →
    Own w L' (fun k=>L' k = .stable) m n t y [] o cells:=by
 have hs:=hI.slots s
 have howned:∀ {k:Nat} {cells:List Value} {s':Nat} {y:t.den},n≤k→Own w L (SL L none) s' k t y [] 0 cells→∀ (L':Nat→Lab) (m o:Nat),(∀ k,L k = .stable→L' k = .stable) →
    (∀ k i rest,L k = .own s' (i::rest)→i < t.sz→(rest.length < n→L' k = .own m ((o+i)::rest))∧(n≤rest.length→L' k = .stable)) →
    Own w L' (fun k=>L' k = .stable) m n t y [] o cells:=by
  intro k cells s' y hnk ho L' m o H1 H3
  refine Own.moveLow hnk (fun k hk=>⟨?_,rfl⟩) (fun k d rest hd hk => ?_) ho
  ·rcases hk with hk | ⟨_,_,hk,_⟩
   ·exact H1 k hk
   ·cases hk
  ·have hk':L k = .own s' (d::rest):=by simpa using hk
   have:=H3 k d rest hk' hd
   exact ⟨rfl,fun h=>by simpa using this.1 h,this.2⟩
 unfold resOne at h
 split at h
 ·rename_i hc
  obtain ⟨⟨l,t',y'⟩,l1,l2,rfl,h1,h2⟩:=M.runs_bind h
  dsimp only at h2
  split at h2
  ·rename_i ht
   subst ht
   obtain ⟨h2,_⟩:=h2
   cases h2
   obtain ⟨cells,hf,hrd,hdp⟩:=readD_rd hI h1 hs (fun _=>rfl)
   refine ⟨cells,hf,fun s' h=>(by cases h),fun L' m o H1 H2 _ => ?_⟩
   have h0:=Own.of_rd (L:=L) (s:=0) (q:=[]) (o:=0) hrd
   by_cases hd:t'.depth=0
   ·exact Own.flat hd h0
   ·have hn:n=0:=by omega
    subst hn
    rw [if_neg hd] at H2
    refine Own.of_rd (Rd.move (fun k hk=>⟨?_,rfl⟩) hrd)
    rcases hk with hk | ⟨r,q,hl,hk⟩
    ·exact H1 k hk
    ·exact H2 k r q (by simp [hl]) hk
  ·exact h2.elim
 ·rename_i hc
  have hc:=not_or.1 hc
  generalize hv:T.getD s .dead=v at h hs
  split at h
  ·rename_i k t' y'
   split at h
   ·rename_i ht
    subst ht
    split at h
    ·rename_i hnk
     obtain ⟨h,_⟩:=h
     cases h
     obtain ⟨_,cells,hf,ho⟩:=hs
     exact ⟨cells,hf,fun _ _=>⟨hc.2,hc.1⟩,fun L' m o H1 _ H3=>howned hnk ho L' m o H1 (fun k i rest hk hi=>H3 s k i rest rfl hk hi)⟩
    ·exact h.elim
   ·exact h.elim
  ·rename_i r t2
   obtain ⟨log2,rfl,h⟩:=h
   dsimp only at h
   split at h
   ·rename_i k t' y' hu
    split at h
    ·rename_i ht
     subst ht
     split at h
     ·rename_i hnk
      obtain ⟨h,_⟩:=h
      cases h
      obtain ⟨_,h1⟩:=hs
      have hr:=hI.slots r
      rw [hu] at hr
      obtain ⟨_,cells,hf,ho⟩:=hr
      refine ⟨cells,?_,fun _ _=>⟨hc.2,hc.1⟩,fun L' m o H1 _ H3=>howned hnk ho L' m o H1 (fun k i rest hk hi=>H3 r k i rest rfl hk hi)⟩
      rcases h1 with ⟨_,h2,_⟩ | ⟨_,_,_,h2,_⟩
      ·rw [h2]; exact hf
      ·rw [hu] at h2; simp [V.isD] at h2
     ·exact h.elim
    ·exact h.elim
   ·exact h.elim
  ·exact h.elim
theorem resCell_rep [Glob] (hI:Inv w0 L0 N vs T a w L) (hC:CtxOk P C) {X:TypeId} {t:Ty} {n s:Nat} {y:t.den} {src:Option Nat} {ls:List Nat} {log:List Nat} (h:(resCell C X t n s (T.getD s .dead)).Runs T (y,src,ls) log) :
  ∃ c cells,FinVal P w a (.cell s X) c∧Form t cells c∧(∀ s',src=some s'→n≠0∧t.depth≠0) ∧
   ∀ (L':Nat→Lab) (m o:Nat),(∀ k,L k = .stable→L' k = .stable)→(∀ k r q,r∈ls→L k = .own r q→L' k = .stable) →
    (∀ s' k i rest,src=some s'→L k = .own s' (i::rest)→i < t.sz→(rest.length < n→L' k = .own m ((o+i)::rest))∧(n≤rest.length→L' k = .stable)) →
    Own w L' (fun k=>L' k = .stable) m n t y [] o cells:=by
 have hs:=hI.slots s
 unfold resCell at h
 generalize hv:T.getD s .dead=v at h hs
 split at h
 ·rename_i k t' y'
  split at h
  ·rename_i ht
   subst ht
   split at h
   ·rename_i hX
    obtain ⟨_,g,cur,e,h1,h2,h3,h4,h5⟩:=hs
    obtain ⟨c,hrun,hf⟩:=(hC X t' hX).run_loadVar (w:=w) (g:=g) (o:=0) (Own.len h5) (fun i v hv=>by
     rw [Nat.zero_add,cell_cells h3]
     simpa using hv)
    have hfin:FinVal P w a (.cell s X) c:=⟨_,h1,hrun⟩
    have hst:∀ {L':Nat→Lab},(∀ k,L k = .stable→L' k = .stable)→∀ k,SL L none k→L' k = .stable∧w.heap[k]? = w.heap[k]? := by
     intro L' H k hk
     rcases hk with hk | ⟨_,_,hk,_⟩
     ·exact ⟨H k hk,rfl⟩
     ·cases hk
    split at h
    ·rename_i hc
     obtain ⟨h,_⟩:=h
     cases h
     refine ⟨c,cur.toList,hfin,hf,fun s' h=>(by cases h),fun L' m o H1 H2 _ => ?_⟩
     by_cases hd:t'.depth=0
     ·exact Own.flat hd h5
     ·have hn:n=0:=by omega
      subst hn
      rw [if_neg hd] at H2
      refine Own.of_rd (Own.rd (S':=fun k=>L' k = .stable) (fun k q hk=>H2 k s q (by simp) hk) (fun k hk=>(hst H1 k hk).1) h5)
    ·rename_i hc
     have hc:=not_or.1 hc
     split at h
     ·rename_i hnk
      obtain ⟨h,_⟩:=h
      cases h
      refine ⟨c,cur.toList,hfin,hf,fun _ _=>⟨hc.2,hc.1⟩,fun L' m o H1 _ H3 => ?_⟩
      refine Own.moveLow hnk (hst H1) (fun k d rest hd hk => ?_) h5
      have hk':L k = .own s (d::rest):=by simpa using hk
      have:=H3 s k d rest rfl hk' hd
      exact ⟨rfl,fun h=>by simpa using this.1 h,this.2⟩
     ·exact h.elim
   ·exact h.elim
  ·exact h.elim
 ·exact h.elim
theorem resV1_rep [Glob] (hI:Inv w0 L0 N vs T a w L) (hC:CtxOk P C) {t:Ty} {n:Nat} {rv:RV} {y:t.den} {src:Option Nat} {ls:List Nat} {log:List Nat} (h:(resV1 C t n rv (T.getD rv.slot .dead)).Runs T (y,src,ls) log) :
  ∃ c cells,FinVal P w a rv c∧Form t cells c∧(∀ s',src=some s'→n≠0∧t.depth≠0) ∧
   ∀ (L':Nat→Lab) (m o:Nat),(∀ k,L k = .stable→L' k = .stable)→(∀ k r q,r∈ls→L k = .own r q→L' k = .stable) →
    (∀ s' k i rest,src=some s'→L k = .own s' (i::rest)→i < t.sz→(rest.length < n→L' k = .own m ((o+i)::rest))∧(n≤rest.length→L' k = .stable)) →
    Own w L' (fun k=>L' k = .stable) m n t y [] o cells:=by
 cases rv with
 | tmp s =>
  obtain ⟨cells,h1,h2,h3⟩:=resOne_rep hI (s:=s) h
  exact ⟨_,cells,rfl,h1,h2,h3⟩
 | cell s X=>exact resCell_rep hI hC h
theorem resM_rep [Glob] (hI:Inv w0 L0 N vs T a w L) (hC:CtxOk P C):{rs:List (Ty×Nat)}→{o:Nat}→{sl:List RV}→{R:Outs rs}→{log:List Nat}→(resM C o rs sl).Runs T R log →
  ∃ cs,FinVals P w a sl cs∧(∀ p∈R.ss,o≤p.o∧∃ t,(t,p.n)∈rs∧p.n≠0∧t.depth≠0)∧(∀ p p',p∈R.ss→p'∈R.ss→p.s≠p'.s→p.o+p.sz≤p'.o∨p'.o+p'.sz≤p.o) ∧
  ∀ (L':Nat→Lab) (m:Nat),(∀ k,L k = .stable→L' k = .stable)→(∀ k r q,r∈R.ls→L k = .own r q→L' k = .stable) →
   (∀ p k i rest,p∈R.ss→L k = .own p.s (i::rest)→i < p.sz→(rest.length < p.n→L' k = .own m ((p.o+i)::rest))∧(p.n≤rest.length→L' k = .stable)) →
   ResRep w L' m o rs R.x cs
 | [],o,[],R,log,h=>by
  obtain ⟨rfl,_⟩:=h
  exact ⟨[],rfl,by simp,by simp,fun _ _ _ _ _=>rfl⟩
 | (t,n)::rs,o,s::sl,R,log,h=>by
  obtain ⟨log',rfl,h⟩:=h
  obtain ⟨⟨y,src,ls⟩,l1,l2,rfl,h1,h⟩:=M.runs_bind h
  obtain ⟨R',l3,l4,rfl,h2,h⟩:=M.runs_bind h
  obtain ⟨rfl,_⟩:=h
  obtain ⟨c,cells,k0,k1,k2,k3⟩:=resV1_rep hI hC h1
  obtain ⟨cs,j0,j1,j2,j3⟩:=resM_rep hI hC h2
  have hmem:∀ p,p∈(match src with | some s'=>(⟨s',o,t.sz,n⟩:Src)::R'.ss | none=>R'.ss)→(∃ s',src=some s'∧p=⟨s',o,t.sz,n⟩)∨p∈R'.ss:=by
   intro p hp
   cases src with
   | none=>exact .inr hp
   | some s' =>
    rcases List.mem_cons.1 hp with hp | hp
    ·exact .inl ⟨s',rfl,hp⟩
    ·exact .inr hp
  refine ⟨c::cs,⟨c,cs,rfl,k0,j0⟩,fun p hp => ?_,fun p p' hp hp' hne => ?_,fun L' m H1 H2 H3 => ?_⟩
  ·rcases hmem p hp with ⟨s',hs',rfl⟩ | hp
   ·exact ⟨Nat.le_refl _,t,by simp,(k2 s' hs').1,(k2 s' hs').2⟩
   ·obtain ⟨e1,t',e2,e3,e4⟩:=j1 p hp
    exact ⟨by omega,t',by simp [e2],e3,e4⟩
  ·rcases hmem p hp with ⟨s',hs',rfl⟩ | hp
   ·rcases hmem p' hp' with ⟨s2,hs2,rfl⟩ | hp'
    ·rw [hs'] at hs2
     injection hs2 with hs2
     exact absurd hs2 hne
    ·exact .inl (j1 p' hp').1
   ·rcases hmem p' hp' with ⟨s2,hs2,rfl⟩ | hp'
    ·exact .inr (j1 p hp).1
    ·exact j2 p p' hp hp' hne
  ·refine ⟨c,_,cells,rfl,k1,k3 L' m o H1 (fun k r q hr hk=>H2 k r q (List.mem_append_left _ hr) hk) (fun s' k i rest hs' hk hi => ?_),j3 L' m H1 (fun k r q hr hk=>H2 k r q (List.mem_append_right _ hr) hk) (fun p k i rest hp hk hi=>H3 p k i rest ?_ hk hi)⟩
   ·subst hs'
    exact H3 ⟨s',o,t.sz,n⟩ k i rest (by simp) hk hi
   ·cases src with
    | none=>exact hp
    | some s'=>exact List.mem_cons_of_mem _ hp
 | [],_,_::_,_,_,h=>h.elim
 | _::_,_,[],_,_,h=>h.elim
theorem muts_mem:{ps:List (Ty×Mode)}→{i s:Nat}→(s∈muts i ps↔i≤s∧∃ t m,ps[s - i]? = some (t,m)∧m.back=true)
 | [],i,s=>by simp [muts]
 | (t,md)::ps,i,s=>by
  have ih:=muts_mem (ps:=ps) (i:=i+1) (s:=s)
  have key:(i+1≤s∧∃ t' m,ps[s - (i+1)]? = some (t',m)∧m.back=true)↔(s≠i∧i≤s∧∃ t' m,((t,md)::ps)[s - i]? = some (t',m)∧m.back=true):=by
   constructor
   ·rintro ⟨h1,t',n',h2,h3⟩
    exact ⟨by omega,by omega,t',n',by rw [show s - i=(s - (i+1))+1 by omega]; simpa using h2,h3⟩
   ·rintro ⟨hs,h1,t',n',h2,h3⟩
    refine ⟨by omega,t',n',?_,h3⟩
    rw [show s - i=(s - (i+1))+1 by omega] at h2
    simpa using h2
  have put:md.back=true→((s=i∨s∈muts (i+1) ps)↔i≤s∧∃ t' m,((t,md)::ps)[s - i]? = some (t',m)∧m.back=true):=by
   intro hm
   rw [ih,key]
   constructor
   ·rintro (rfl | ⟨_,h⟩)
    ·exact ⟨Nat.le_refl _,t,md,by simp,hm⟩
    ·exact h
   ·intro h
    by_cases hs:s=i
    ·exact .inl hs
    ·exact .inr ⟨hs,h⟩
  match md,key,put with
  | .mut n,_,put=>simpa only [muts,List.mem_cons] using put (by simp)
  | .ptr n,_,put=>simpa only [muts,List.mem_cons] using put (by simp)
  | .ro,key,_ =>
   simp only [muts]
   rw [ih,key]
   constructor
   ·exact fun h=>h.2
   ·rintro ⟨h1,t',m,h2,h3⟩
    refine ⟨?_,h1,t',m,h2,h3⟩
    rintro rfl
    rw [Nat.sub_self] at h2
    simp only [List.getElem?_cons_zero,Option.some.injEq,Prod.mk.injEq] at h2
    rw [← h2.2] at h3; cases h3
  | .eat _,key,_ =>
   simp only [muts]
   rw [ih,key]
   constructor
   ·exact fun h=>h.2
   ·rintro ⟨h1,t',m,h2,h3⟩
    refine ⟨?_,h1,t',m,h2,h3⟩
    rintro rfl
    rw [Nat.sub_self] at h2
    simp only [List.getElem?_cons_zero,Option.some.injEq,Prod.mk.injEq] at h2
    rw [← h2.2] at h3; cases h3
theorem outM_rep [Glob] (hI:Inv w0 L0 N vs T a w L) {A0:List Value}:{ps:List (Ty×Mode)}→{i:Nat}→{y:(mTy ps).den}→{mu:List (Nat×Nat)}→{log:List Nat}→(outM i ps).Runs T (y,mu) log→ps.length=A0.length→(∀ j,(∃ t m,ps[j]? = some (t,m)∧m.back=true)→A0[j]? = some (a.tmps.getD (i+j) undef)) →
  ∀ (L':Nat→Lab),(∀ k,L k = .stable→L' k = .stable)→(∀ k s j q,(s,j)∈mu→L k = .own s q→L' k = .own j q)→MutRep w L' i ps y A0
 | [],i,y,mu,log,h,hl,_,L',_,_=>by
  simp only [List.length_nil] at hl
  exact List.eq_nil_of_length_eq_zero hl.symm
 | (t,.mut n)::ps,i,y,mu,log,h,hl,hA,L',H1,H2=>by
  cases A0 with
  | nil=>simp at hl
  | cons c A0 =>
   obtain ⟨log',rfl,h⟩:=h
   have hs:=hI.slots i
   have hc:c=a.tmps.getD i undef:=by
    have:=hA 0 ⟨t,.mut n,rfl,by simp⟩
    simpa using this
   subst hc
   have hA':∀ j,(∃ t m,ps[j]? = some (t,m)∧m.back=true)→A0[j]? = some (a.tmps.getD (i+1+j) undef):=fun j hj=>by
    have:=hA (j+1) (by simpa using hj)
    rw [show i+1+j=i+(j+1) by omega]
    simpa using this
   generalize hv:T.getD i .dead=v at h hs
   dsimp only at h
   split at h
   ·rename_i k t' y'
    split at h
    ·rename_i ht
     subst ht
     split at h
     ·rename_i hk
      subst hk
      obtain ⟨⟨r,mr⟩,l1,l2,rfl,h1,h2⟩:=M.runs_bind h
      obtain ⟨h2,_⟩:=h2
      injection h2 with h2 h3
      subst h2 h3
      obtain ⟨_,cells,hf,ho⟩:=hs
      refine ⟨_,A0,cells,rfl,hf,?_,outM_rep hI h1 (by simpa using hl) hA' L' H1 (fun k' s j q hm hk'=>H2 k' s j q (List.mem_cons_of_mem _ hm) hk')⟩
      ·refine Own.move (fun k' hk'=>⟨?_,rfl⟩) (fun k' d rest _ hk'=>⟨H2 k' i i _ (by simp) hk',rfl⟩) ho
       rcases hk' with hk' | ⟨_,_,hk',_⟩
       ·exact H1 k' hk'
       ·cases hk'
     ·exact h.elim
    ·exact h.elim
   ·rename_i d tv
    obtain ⟨log2,rfl,h⟩:=h
    have hd:=hI.slots d
    generalize hu:T.getD d .dead=u at h hd
    dsimp only at h
    split at h
    ·rename_i k t' y'
     split at h
     ·rename_i ht
      subst ht
      split at h
      ·rename_i hk
       obtain ⟨rfl,rfl⟩:=hk
       obtain ⟨⟨r,mr⟩,l1,l2,rfl,h1,h2⟩:=M.runs_bind h
       obtain ⟨h2,_⟩:=h2
       injection h2 with h2 h3
       subst h2 h3
       obtain ⟨_,hv2⟩:=hs
       rcases hv2 with ⟨_,_,l0,n0,x0,hd2,_⟩ | ⟨g,cur,e,_,g1,g2,g3,g4⟩
       ·rw [hu] at hd2; cases hd2
       ·obtain ⟨_,g',cur',e',_,j2,j3,j4,j5⟩:=hd
        obtain rfl:=hI.inj g g' d _ g1 j2
        rw [g2] at j3
        injection j3 with j3
        injection j3 with j3 _ _
        subst j3
        simp only [node,List.drop_zero] at g4
        rw [List.take_of_length_le (by rw [Array.length_toList,j4]; exact Nat.le_refl _)] at g4
        refine ⟨_,A0,cur.toList,rfl,g4,?_,outM_rep hI h1 (by simpa using hl) hA' L' H1 (fun k' s j q hm hk'=>H2 k' s j q (List.mem_cons_of_mem _ hm) hk')⟩
        refine Own.move (fun k' hk'=>⟨?_,rfl⟩) (fun k' dd rest _ hk'=>⟨H2 k' d i _ (by simp) hk',rfl⟩) j5
        rcases hk' with hk' | ⟨_,_,hk',_⟩
        ·exact H1 k' hk'
        ·cases hk'
      ·exact h.elim
     ·exact h.elim
    ·exact h.elim
   ·exact h.elim
 | (t,.ptr n)::ps,i,y,mu,log,h,hl,hA,L',H1,H2=>by
  cases A0 with
  | nil=>simp at hl
  | cons c A0 =>
   obtain ⟨log',rfl,h⟩:=h
   have hs:=hI.slots i
   have hc:c=a.tmps.getD i undef:=by
    have:=hA 0 ⟨t,.ptr n,rfl,by simp⟩
    simpa using this
   subst hc
   have hA':∀ j,(∃ t m,ps[j]? = some (t,m)∧m.back=true)→A0[j]? = some (a.tmps.getD (i+1+j) undef):=fun j hj=>by
    have:=hA (j+1) (by simpa using hj)
    rw [show i+1+j=i+(j+1) by omega]
    simpa using this
   generalize hv:T.getD i .dead=v at h hs
   dsimp only at h
   split at h
   ·rename_i k t' y'
    split at h
    ·rename_i ht
     subst ht
     split at h
     ·rename_i hk
      subst hk
      obtain ⟨⟨r,mr⟩,l1,l2,rfl,h1,h2⟩:=M.runs_bind h
      obtain ⟨h2,_⟩:=h2
      injection h2 with h2 h3
      subst h2 h3
      obtain ⟨_,g,cur,e,hf,hL,hg,hz,ho⟩:=hs
      refine ⟨_,A0,rfl,⟨g,cur,e,hf,H2 g i i _ (by simp) hL,hg,hz,?_⟩,outM_rep hI h1 (by simpa using hl) hA' L' H1 (fun k' s j q hm hk'=>H2 k' s j q (List.mem_cons_of_mem _ hm) hk')⟩
      refine Own.move (fun k' hk'=>⟨?_,rfl⟩) (fun k' d rest _ hk'=>⟨H2 k' i i _ (by simp) hk',rfl⟩) ho
      rcases hk' with hk' | ⟨_,_,hk',_⟩
      ·exact H1 k' hk'
      ·cases hk'
     ·exact h.elim
    ·exact h.elim
   ·exact h.elim
 | (t,.ro)::ps,i,y,mu,log,h,hl,hA,L',H1,H2=>by
  cases A0 with
  | nil=>simp at hl
  | cons c A0 =>
   refine ⟨c,A0,rfl,outM_rep (ps:=ps) (i:=i+1) hI h (by simpa using hl) (fun j hj => ?_) L' H1 H2⟩
   have:=hA (j+1) (by simpa using hj)
   rw [show i+1+j=i+(j+1) by omega]
   simpa using this
 | (t,.eat _)::ps,i,y,mu,log,h,hl,hA,L',H1,H2=>by
  cases A0 with
  | nil=>simp at hl
  | cons c A0 =>
   refine ⟨c,A0,rfl,outM_rep (ps:=ps) (i:=i+1) hI h (by simpa using hl) (fun j hj => ?_) L' H1 H2⟩
   have:=hA (j+1) (by simpa using hj)
   rw [show i+1+j=i+(j+1) by omega]
   simpa using this
theorem outM_mu:{ps:List (Ty×Mode)}→{i:Nat}→{y:(mTy ps).den}→{mu:List (Nat×Nat)}→{log:List Nat}→(outM i ps).Runs T (y,mu) log →
  ∀ s j,(s,j)∈mu→i≤j∧(∃ t m,ps[j - i]? = some (t,m)∧m.back=true)∧∀ s',(s',j)∈mu→s'=s
 | [],i,y,mu,log,h=>by
  obtain ⟨h,_⟩:=h
  injection h with _ h
  subst h
  simp
 | (t,.mut n)::ps,i,y,mu,log,h=>by
  obtain ⟨log',rfl,h⟩:=h
  have key:∀ {d:Nat} {y2:(mTy ps).den} {mr:List (Nat×Nat)} {l:List Nat},(outM (i+1) ps).Runs T (y2,mr) l→mu=(d,i)::mr→∀ s j,(s,j)∈mu→i≤j∧(∃ t' m',((t,Mode.mut n)::ps)[j - i]? = some (t',m')∧m'.back=true)∧∀ s',(s',j)∈mu→s'=s:=by
   intro d y2 mr l h1 hmu s j hm
   subst hmu
   have ih:=outM_mu h1
   rcases List.mem_cons.1 hm with hm | hm
   ·injection hm with h2 h3
    subst h2 h3
    refine ⟨Nat.le_refl _,⟨t,.mut n,by simp,by simp⟩,fun s' hm' => ?_⟩
    rcases List.mem_cons.1 hm' with hm' | hm'
    ·injection hm'
    ·have:=(ih s' j hm').1
     omega
   ·obtain ⟨e1,⟨t',n',e2,e2'⟩,e3⟩:=ih s j hm
    refine ⟨by omega,⟨t',n',by rw [show j - i=(j - (i+1))+1 by omega]; simpa using e2,e2'⟩,fun s' hm' => ?_⟩
    rcases List.mem_cons.1 hm' with hm' | hm'
    ·injection hm' with _ h3
     omega
    ·exact e3 s' hm'
  generalize hv:T.getD i .dead=v at h
  dsimp only at h
  split at h
  ·split at h
   ·split at h
    ·obtain ⟨⟨r,mr⟩,l1,l2,rfl,h1,h2⟩:=M.runs_bind h
     obtain ⟨h2,_⟩:=h2
     injection h2 with h2 h3
     exact key h1 h3
    ·exact h.elim
   ·exact h.elim
  ·rename_i d tv
   obtain ⟨log2,rfl,h⟩:=h
   generalize T.getD d .dead=u at h
   dsimp only at h
   split at h
   ·split at h
    ·split at h
     ·obtain ⟨⟨r,mr⟩,l1,l2,rfl,h1,h2⟩:=M.runs_bind h
      obtain ⟨h2,_⟩:=h2
      injection h2 with h2 h3
      exact key h1 h3
     ·exact h.elim
    ·exact h.elim
   ·exact h.elim
  ·exact h.elim
 | (t,.ptr n)::ps,i,y,mu,log,h=>by
  obtain ⟨log',rfl,h⟩:=h
  have key:∀ {d:Nat} {y2:(mTy ps).den} {mr:List (Nat×Nat)} {l:List Nat},(outM (i+1) ps).Runs T (y2,mr) l→mu=(d,i)::mr→∀ s j,(s,j)∈mu→i≤j∧(∃ t' m',((t,Mode.ptr n)::ps)[j - i]? = some (t',m')∧m'.back=true)∧∀ s',(s',j)∈mu→s'=s:=by
   intro d y2 mr l h1 hmu s j hm
   subst hmu
   have ih:=outM_mu h1
   rcases List.mem_cons.1 hm with hm | hm
   ·injection hm with h2 h3
    subst h2 h3
    refine ⟨Nat.le_refl _,⟨t,.ptr n,by simp,by simp⟩,fun s' hm' => ?_⟩
    rcases List.mem_cons.1 hm' with hm' | hm'
    ·injection hm'
    ·have:=(ih s' j hm').1
     omega
   ·obtain ⟨e1,⟨t',n',e2,e2'⟩,e3⟩:=ih s j hm
    refine ⟨by omega,⟨t',n',by rw [show j - i=(j - (i+1))+1 by omega]; simpa using e2,e2'⟩,fun s' hm' => ?_⟩
    rcases List.mem_cons.1 hm' with hm' | hm'
    ·injection hm' with _ h3
     omega
    ·exact e3 s' hm'
  generalize hv:T.getD i .dead=v at h
  dsimp only at h
  split at h
  ·split at h
   ·split at h
    ·obtain ⟨⟨r,mr⟩,l1,l2,rfl,h1,h2⟩:=M.runs_bind h
     obtain ⟨h2,_⟩:=h2
     injection h2 with h2 h3
     exact key h1 h3
    ·exact h.elim
   ·exact h.elim
  ·exact h.elim
 | (t,.ro)::ps,i,y,mu,log,h=>by
  intro s j hm
  obtain ⟨e1,⟨t',n',e2,e2'⟩,e3⟩:=outM_mu (ps:=ps) (i:=i+1) h s j hm
  exact ⟨by omega,⟨t',n',by rw [show j - i=(j - (i+1))+1 by omega]; simpa using e2,e2'⟩,e3⟩
 | (t,.eat _)::ps,i,y,mu,log,h=>by
  intro s j hm
  obtain ⟨e1,⟨t',n',e2,e2'⟩,e3⟩:=outM_mu (ps:=ps) (i:=i+1) h s j hm
  exact ⟨by omega,⟨t',n',by rw [show j - i=(j - (i+1))+1 by omega]; simpa using e2,e2'⟩,e3⟩
end
end Go.Proofs.YtkanidldnnfloaaGreat.P.Am
set_option linter.unusedVariables false
set_option linter.unusedSimpArgs false
namespace Go.Proofs.YtkanidldnnfloaaGreat.P.Am
def Mode.val (t:Ty) (x:t.den):Mode→V
 | .ptr n => .box none n t x
 | .mut n => .d none n t x
 | .eat n => .d none n t x
 | .ro => .d none 0 t x
def PRep (w:World) (L0:Nat→Lab) (i:Nat) (t:Ty) (x:t.den) (c:Value):Mode→Prop
 | .ptr n=>BoxAt w L0 (fun k=>L0 k = .stable) i n t x c
 | .mut n=>∃ cells,Form t cells c∧Own w L0 (fun k=>L0 k = .stable) i n t x [] 0 cells
 | .eat n=>∃ cells,Form t cells c∧Own w L0 (fun k=>L0 k = .stable) i n t x [] 0 cells
 | .ro=>∃ cells,Form t cells c∧Own w L0 (fun k=>L0 k = .stable) i 0 t x [] 0 cells
def initT:(ps:List (Ty×Mode))→(pTy ps).den→List V
 | [],_=>[]
 | (t,m)::ps,x=>m.val t x.1::initT ps x.2
def slots0 (N:Nat) (ps:List (Ty×Mode)) (x:(pTy ps).den):List V:=initT ps x++List.replicate (N - ps.length) .dead
def mkEnv (C:Ctx) (tab:Tab) (vs:List Nat) (N:Nat) (keep:Nat→Option Nat) (hx:Hints) (ps:List (Ty×Mode)):Env :=
 { step:=stepM C tab vs hx N,N:=N,pins:=fun p=>(muts 0 ps).contains p,keep:=keep }
def endK (C:Ctx) (ps:List (Ty×Mode)) (rs:List (Ty×Nat)) (sl:List RV):Ex→List V→Option (Ty.pair (rTy rs) (mTy ps)).den
 | .ext _,_=>none
 | _,T=>(bif lowR rs then finM C ps rs sl else finPM ps rs sl).runK T [] fun _ r=>some r
noncomputable def mkFn (C:Ctx) (tab:Tab) (vs:List Nat) (N:Nat) (keep:Nat→Option Nat) (hx:Hints) (ps:List (Ty×Mode)) (rs:List (Ty×Nat)) (sl:List RV) (c:Code):Fn :=
 { ps:=ps,rs:=rs,sem:=fun x=>denK (mkEnv C tab vs N keep hx ps) c (endK C ps rs sl) (slots0 N ps x) }
section
variable {P:Program} {C:Ctx} {w w' w0:World} {L L' L0:Nat→Lab} {N:Nat} {vs:List Nat} {T T':List V} {a:Act}
theorem ArgsRep.cons {t:Ty} {m:Mode} {ps:List (Ty×Mode)} {i:Nat} {x:(pTy ((t,m)::ps)).den} {cs:List Value} (h:ArgsRep w L0 i ((t,m)::ps) x cs) :
  ∃ c cs',cs=c::cs'∧PRep w L0 i t x.1 c m∧ArgsRep w L0 (i+1) ps x.2 cs':=by
 match m,x,h with
 | .ptr n,x,h=>exact h
 | .mut n,x,h =>
  obtain ⟨c,cs',cells,h1,h2,h3,h4⟩:=h
  exact ⟨c,cs',h1,⟨cells,h2,h3⟩,h4⟩
 | .eat n,x,h =>
  obtain ⟨c,cs',cells,h1,h2,h3,h4⟩:=h
  exact ⟨c,cs',h1,⟨cells,h2,h3⟩,h4⟩
 | .ro,x,h =>
  obtain ⟨c,cs',cells,h1,h2,h3,h4⟩:=h
  exact ⟨c,cs',h1,⟨cells,h2,h3⟩,h4⟩
theorem ArgsRep.len [Glob]:{ps:List (Ty×Mode)}→{i:Nat}→{x:(pTy ps).den}→{cs:List Value}→ArgsRep w L0 i ps x cs→cs.length=ps.length
 | [],_,_,_,h=>by simp only [ArgsRep] at h; subst h; rfl
 | (t,m)::ps,i,x,cs,h=>by
  obtain ⟨c,cs',rfl,_,h⟩:=h.cons
  simp [ArgsRep.len h]
theorem ArgsRep.get [Glob]:{ps:List (Ty×Mode)}→{i:Nat}→{x:(pTy ps).den}→{cs:List Value}→ArgsRep w L0 i ps x cs→∀ (s:Nat) (t:Ty) (m:Mode),ps[s]? = some (t,m) →
  ∃ y c,(initT ps x)[s]? = some (m.val t y)∧cs[s]? = some c∧PRep w L0 (i+s) t y c m
 | [],_,_,_,_,s,t,m,h=>by simp at h
 | (t0,m0)::ps,i,x,cs,h,s,t,m,hs=>by
  obtain ⟨c,cs',rfl,h1,h⟩:=h.cons
  cases s with
  | zero =>
   simp only [List.getElem?_cons_zero,Option.some.injEq,Prod.mk.injEq] at hs
   obtain ⟨rfl,rfl⟩:=hs
   exact ⟨x.1,c,rfl,rfl,h1⟩
  | succ s =>
   obtain ⟨y,c',e1,e2,e3⟩:=ArgsRep.get h s t m (by simpa using hs)
   exact ⟨y,c',by simpa [initT] using e1,by simpa using e2,by rw [show i+(s+1)=i+1+s by omega]; exact e3⟩
theorem Mode.val_owns {t:Ty} {x:t.den}:{m:Mode}→m.owned t=true→(m.val t x).owns=true
 | .ro,h=>by cases h
 | .mut n,h=>h
 | .eat n,h=>h
 | .ptr n,_=>rfl
theorem Mode.val_root {t:Ty} {x:t.den}:{m:Mode}→(m.val t x).root=none
 | .ro=>rfl
 | .mut _=>rfl
 | .eat _=>rfl
 | .ptr _=>rfl
theorem PRep.slot {i:Nat} {t:Ty} {x:t.den} {c:Value} {T:List V} {tm:Array Value}:{m:Mode}→PRep w L0 i t x c m→SRep L0 T tm i (m.val t x) w c
 | .ro,h=>by
  obtain ⟨cells,h1,h2⟩:=h
  exact ⟨by simp,cells,h1,Own.move (fun k hk=>⟨.inl hk,rfl⟩) (fun k d rest _ hk=>⟨hk,rfl⟩) h2⟩
 | .mut n,h=>by
  obtain ⟨cells,h1,h2⟩:=h
  exact ⟨by simp,cells,h1,Own.move (fun k hk=>⟨.inl hk,rfl⟩) (fun k d rest _ hk=>⟨hk,rfl⟩) h2⟩
 | .eat n,h=>by
  obtain ⟨cells,h1,h2⟩:=h
  exact ⟨by simp,cells,h1,Own.move (fun k hk=>⟨.inl hk,rfl⟩) (fun k d rest _ hk=>⟨hk,rfl⟩) h2⟩
 | .ptr n,h=>by
  obtain ⟨g,cur,e,h1,h2,h3,h4,h5⟩:=h
  exact ⟨by simp,g,cur,e,h1,h2,h3,h4,Own.move (fun k hk=>⟨.inl hk,rfl⟩) (fun k d rest _ hk=>⟨hk,rfl⟩) h5⟩
theorem initT_length:{ps:List (Ty×Mode)}→{x:(pTy ps).den}→(initT ps x).length=ps.length
 | [],_=>rfl
 | (t,m)::ps,x=>by simp [initT,initT_length]
theorem slots0_get [Glob] {ps:List (Ty×Mode)} {x:(pTy ps).den} (s:Nat):(slots0 N ps x).getD s .dead=((initT ps x)[s]?).getD .dead:=by
 unfold slots0
 rw [List.getD_eq_getElem?_getD]
 by_cases h:s < ps.length
 ·rw [List.getElem?_append_left (by rw [initT_length]; exact h)]
 ·rw [List.getElem?_append_right (by rw [initT_length]; omega),List.getElem?_eq_none (l:=initT ps x) (by rw [initT_length]; omega)]
  rw [List.getElem?_replicate]
  split <;> rfl
theorem start_inv [Glob] {ps:List (Ty×Mode)} {x:(pTy ps).den} {args:Array Value} (hl:Legit w L0 ps) (ha:ArgsRep w L0 0 ps x args.toList) (hN:ps.length≤N) (vs:List Nat) :
  Inv w L0 N vs (slots0 N ps x) { tmps:=args++Array.replicate (N - args.size) undef,defers:=[] } w L0:=by
 have hlen:args.size=ps.length:=by simpa using ha.len
 refine ⟨by simp; omega,by simp [slots0,initT_length]; omega,rfl,⟨rfl,rfl,rfl,Nat.le_refl _,Nat.le_refl _,fun _ _ _=>⟨rfl,rfl⟩,hl.glob⟩,hl.free,hl.inj,fun k s q h => ?_,fun s r h => ?_,fun s => ?_⟩
 ·obtain ⟨t,m,h1,h2⟩:=hl.owner k s q h
  obtain ⟨y,c,e1,_⟩:=ha.get s t _ h1
  rw [slots0_get,e1]
  exact Mode.val_owns h2
 ·rw [slots0_get] at h
  cases hp:ps[s]? with
  | none =>
   rw [List.getElem?_eq_none (by rw [initT_length]; exact List.getElem?_eq_none_iff.1 hp)] at h
   simp [V.on,V.root] at h
  | some p =>
   obtain ⟨t,m⟩:=p
   obtain ⟨y,c,e1,_⟩:=ha.get s t m hp
   rw [e1] at h
   unfold V.on at h
   rw [Option.getD_some,Mode.val_root] at h
   cases h
 ·rw [slots0_get]
  cases hp:ps[s]? with
  | none =>
   rw [List.getElem?_eq_none (by rw [initT_length]; exact List.getElem?_eq_none_iff.1 hp)]
   trivial
  | some p =>
   obtain ⟨t,m⟩:=p
   obtain ⟨y,c,e1,e2,e3⟩:=ha.get s t m hp
   rw [e1]
   have hs:s < args.size:=by rw [hlen]; exact (List.getElem?_eq_some_iff.1 hp).1
   have hc:(args++Array.replicate (N - args.size) undef).getD s undef=c:=by
    rw [Array.getD_eq_getD_getElem?,Array.getElem?_append_left hs]
    rw [Array.getElem?_toList] at e2
    rw [e2]; rfl
   rw [Nat.zero_add] at e3
   rw [Option.getD_some,hc]
   exact e3.slot
theorem finLab_own {m:Nat} {mu:List (Nat×Nat)} {ss:List Src} {l:Lab} {s':Nat} {q':List Nat} (h:finLab m mu ss l = .own s' q') :
  ∃ s q,l = .own s q∧(((s,s')∈mu∧q'=q)∨∃ p y rest,ss.find? (fun p=>p.s == s)=some p∧q=y::rest∧y < p.sz∧s'=m∧q'=(p.o+y)::rest):=by
 cases l with
 | own s q =>
  unfold finLab at h
  dsimp only at h
  split at h
  ·rename_i p hp
   injection h with h1 h2
   have n1:p.1=s:=by simpa using List.find?_some hp
   refine ⟨s,_,rfl,.inl ⟨?_,h2.symm⟩⟩
   have:=List.mem_of_find?_eq_some hp
   rw [← n1,← h1]
   exact this
  ·split at h
   ·rename_i p hp
    split at h
    ·split at h
     ·split at h
      ·injection h with h1 h2
       exact ⟨s,_,rfl,.inr ⟨p,_,_,hp,rfl,by assumption,h1.symm,h2.symm⟩⟩
      ·cases h
     ·cases h
    ·cases h
   ·cases h
 | stable=>cases h
 | free=>cases h
 | other=>cases h
theorem fin_ok [Glob] (hI:Inv w0 L0 N vs T a w L) (hC:CtxOk P C) {ps:List (Ty×Mode)} {rs:List (Ty×Nat)} {sl:List RV} {r:(Ty.pair (rTy rs) (mTy ps)).den} {log:List Nat} {A0:List Value} (h:(finM C ps rs sl).Runs T r log)
  (hl:ps.length=A0.length) (hA:∀ j,(∃ t m,ps[j]? = some (t,m)∧m.back=true)→A0[j]? = some (a.tmps.getD j undef)) :
  ∃ L' cs,FinVals P w a sl cs∧Left w0 w L0 L' ps rs∧ResRep w L' ps.length 0 rs r.1 cs∧MutRep w L' 0 ps r.2 A0:=by
 obtain ⟨R,l1,l2,rfl,h1,h⟩:=M.runs_bind h
 obtain ⟨⟨m,mu⟩,l3,l4,rfl,h2,hc,rfl,_⟩:=M.runs_bind h
 simp only [Bool.and_eq_true,List.all_eq_true,Bool.not_eq_true'] at hc
 obtain ⟨⟨⟨hnd,hls⟩,hmu⟩,hnm⟩:=hc
 have nmem:∀ {x:Nat} {l:List Nat},l.contains x=false→x ∉ l:=fun h hm=>by rw [List.contains_iff_mem.2 hm] at h; cases h
 obtain ⟨cs,k0,k1,k2,k3⟩:=resM_rep hI hC h1
 have hmm:=outM_mu h2
 have hsrc:∀ p∈R.ss,p.s ∉ mu.map (·.1):=fun p hp hm=>nmem (hmu p.s hm) (List.mem_map_of_mem hp)
 refine ⟨fun k=>finLab ps.length mu R.ss (L k),cs,k0,⟨hI.fr.os,hI.fr.tape,hI.fr.output,hI.fr.size,hI.fr.drawn,fun k hk h0 => ?_,fun k hk=>by rw [hI.free k hk]; rfl,fun k k' s q e e' => ?_,fun k s q e => ?_⟩,
  k3 _ _ (fun k hk=>by rw [hk]; rfl) (fun k r q hr hk => ?_) (fun p k i rest hp hk hi => ?_),outM_rep hI h2 hl (fun j hj=>by rw [Nat.zero_add]; exact hA j hj) _ (fun k hk=>by rw [hk]; rfl) (fun k s j q hm hk => ?_)⟩
 ·have:=hI.fr.keep k hk h0
  refine ⟨?_,this.2⟩
  rw [this.1]
  rcases h0 with h0 | h0 <;> rw [h0] <;> rfl
 ·obtain ⟨s1,q1,e1,e2⟩:=finLab_own e
  obtain ⟨s2,q2,e3,e4⟩:=finLab_own e'
  have hlt:∀ s j,(s,j)∈mu→j < ps.length:=fun s j hs=>by
   obtain ⟨_,⟨t,n,h,_⟩,_⟩:=hmm s j hs
   exact (List.getElem?_eq_some_iff.1 (by simpa using h)).1
  rcases e2 with ⟨h1,rfl⟩ | ⟨p,y,rest,h1,rfl,h3,rfl,rfl⟩
  ·rcases e4 with ⟨h2,rfl⟩ | ⟨p,y,rest,h2,rfl,h3,rfl,_⟩
   ·obtain rfl:=(hmm s2 s h2).2.2 s1 h1
    exact hI.inj k k' _ _ e1 e3
   ·exact absurd (hlt _ _ h1) (Nat.lt_irrefl _)
  ·rcases e4 with ⟨h2,rfl⟩ | ⟨p',y',rest',h2,rfl,h4,_,h5⟩
   ·exact absurd (hlt _ _ h2) (Nat.lt_irrefl _)
   ·injection h5 with h5 h6
    subst h6
    have m1:=List.mem_of_find?_eq_some h1
    have m2:=List.mem_of_find?_eq_some h2
    have n1:p.s=s1:=by simpa using List.find?_some h1
    have n2:p'.s=s2:=by simpa using List.find?_some h2
    by_cases hs:s1=s2
    ·subst hs
     rw [h1] at h2
     injection h2 with h2
     subst h2
     have:y=y':=by omega
     subst this
     exact hI.inj k k' _ _ e1 e3
    ·have:=k2 p p' m1 m2 (by rw [n1,n2]; exact hs)
     omega
 ·obtain ⟨s1,q1,e1,e2⟩:=finLab_own e
  rcases e2 with ⟨h1,rfl⟩ | ⟨p,y,rest,h1,rfl,h3,rfl,rfl⟩
  ·obtain ⟨_,⟨t,n,h,h'⟩,_⟩:=hmm _ _ h1
   exact .inr ⟨t,n,by simpa using h,h'⟩
  ·obtain ⟨_,t,h2,h3,h4⟩:=k1 p (List.mem_of_find?_eq_some h1)
   exact .inl ⟨rfl,t,p.n,h2,.inl ⟨h3,h4⟩⟩
 ·rw [hk]
  have:=hls r hr
  exact finLab_lend (nmem this.2) (nmem this.1)
 ·rw [hk,finLab_src hnd (hsrc p hp) hp hi]
  exact ⟨fun h=>by rw [if_pos h],fun h=>by rw [if_neg (by omega)]⟩
 ·rw [hk]
  unfold finLab
  dsimp only
  rw [find_mu hnm hm]
theorem finP_ok [Glob] (hI:Inv w0 L0 N vs T a w L) {ps:List (Ty×Mode)} {rs:List (Ty×Nat)} {sl:List RV} {r:(Ty.pair (rTy rs) (mTy ps)).den} {log:List Nat} {A0:List Value} (h:(finPM ps rs sl).Runs T r log)
  (hl:ps.length=A0.length) (hA:∀ j,(∃ t m,ps[j]? = some (t,m)∧m.back=true)→A0[j]? = some (a.tmps.getD j undef)) :
  ∃ L' cs,FinVals P w a sl cs∧Left w0 w L0 L' ps rs∧ResTop w L' ps.length rs r.1 cs∧MutRep w L' 0 ps r.2 A0:=by
 unfold finPM at h
 split at h
 ·rename_i _ t n s
  obtain ⟨log',rfl,h⟩:=h
  have hb:=M.runs_bind (m:=boxOf s (T.getD s .dead)) h
  clear h
  obtain ⟨⟨sb,z⟩,l3,l4,rfl,hbx,h⟩:=hb
  obtain ⟨hv,hsame⟩:=boxOf_rep hI hbx
  obtain ⟨k,t',y⟩:=z
  dsimp only at h hv
  have hs:=hI.slots sb
  rw [hv] at hs
  split at h
  ·rename_i ht
   subst ht
   split at h
   ·rename_i hk
    obtain ⟨⟨m,mu⟩,l1,l2,rfl,h2,hnd,rfl,_⟩:=M.runs_bind h
    have hmm:=outM_mu h2
    have hnd':nodupB (((sb,ps.length)::mu).map (·.1))=true:=hnd
    have hlt:∀ s j,(s,j)∈mu→j < ps.length:=fun s j hs=>by
     obtain ⟨_,⟨t,n,h,_⟩,_⟩:=hmm s j hs
     exact (List.getElem?_eq_some_iff.1 (by simpa using h)).1
    have huniq:∀ s1 s2 j,(s1,j)∈(sb,ps.length)::mu→(s2,j)∈(sb,ps.length)::mu→s1=s2:=by
     intro s1 s2 j h1 h2
     rcases List.mem_cons.1 h1 with h1 | h1
     ·injection h1 with e1 e2
      rcases List.mem_cons.1 h2 with h2 | h2
      ·injection h2 with e3 e4
       rw [e1,e3]
      ·exact absurd (hlt _ _ h2) (by omega)
     ·rcases List.mem_cons.1 h2 with h2 | h2
      ·injection h2 with e3 e4
       exact absurd (hlt _ _ h1) (by omega)
      ·exact (hmm s2 j h2).2.2 s1 h1
    have hown:∀ {l:Lab} {s':Nat} {q':List Nat},finLab ps.length ((sb,ps.length)::mu) [] l = .own s' q'→∃ s1,l = .own s1 q'∧(s1,s')∈(sb,ps.length)::mu:=by
     intro l s' q' e
     obtain ⟨s1,q1,e1,e2⟩:=finLab_own e
     rcases e2 with ⟨h1,rfl⟩ | ⟨p,y,rest,h1,_⟩
     ·exact ⟨s1,e1,h1⟩
     ·simp at h1
    have hto:∀ {s1 j:Nat} {q:List Nat},(s1,j)∈(sb,ps.length)::mu→finLab ps.length ((sb,ps.length)::mu) [] (.own s1 q) = .own j q:=by
     intro s1 j q hm
     unfold finLab
     dsimp only
     rw [find_mu hnd' hm]
    obtain ⟨_,g,cur,e,hf,hL,hg,hz,ho⟩:=hs
    rw [← hsame] at hf
    refine ⟨fun k=>finLab ps.length ((sb,ps.length)::mu) [] (L k),[a.tmps.getD s undef],⟨_,[],rfl,rfl,rfl⟩,⟨hI.fr.os,hI.fr.tape,hI.fr.output,hI.fr.size,hI.fr.drawn,fun k hk h0 => ?_,fun k hk=>by rw [hI.free k hk]; rfl,fun k k' s1 q e e' => ?_,fun k s1 q e => ?_⟩,
     .inr ⟨by omega,_,rfl,g,cur,e,hf,by show finLab _ _ _ (L g)=_; rw [hL]; exact hto (by simp),hg,hz,?_⟩,outM_rep hI h2 hl (fun j hj=>by rw [Nat.zero_add]; exact hA j hj) _ (fun k hk=>by rw [hk]; rfl) (fun k s1 j q hm hk=>by rw [hk]; exact hto (List.mem_cons_of_mem _ hm))⟩
    ·have:=hI.fr.keep k hk h0
     refine ⟨?_,this.2⟩
     rw [this.1]
     rcases h0 with h0 | h0 <;> rw [h0] <;> rfl
    ·obtain ⟨a1,e1,e2⟩:=hown e
     obtain ⟨a2,e3,e4⟩:=hown e'
     obtain rfl:=huniq _ _ _ e2 e4
     exact hI.inj k k' _ _ e1 e3
    ·obtain ⟨a1,e1,e2⟩:=hown e
     rcases List.mem_cons.1 e2 with e2 | e2
     ·injection e2 with _ e2
      exact .inl ⟨e2,t',n,by simp,.inr (by omega)⟩
     ·obtain ⟨_,⟨t,n,h,h'⟩,_⟩:=hmm _ _ e2
      exact .inr ⟨t,n,by simpa using h,h'⟩
    ·have hkn:n - 1000=k:=by omega
     rw [hkn]
     refine Own.move (fun k hk=>⟨?_,rfl⟩) (fun k d rest _ hk=>⟨by show finLab _ _ _ (L k)=_; rw [hk]; exact hto (by simp),rfl⟩) ho
     show finLab _ _ _ (L k)=_
     rcases hk with hk | ⟨_,_,hk,_⟩
     ·rw [hk]; rfl
     ·cases hk
   ·exact h.elim
  ·exact h.elim
 ·exact h.elim
theorem run_results {fn:Func} {sl:List RV} {cs:List Value} (hr:fn.results.toList=sl.map RV.var) (hf:FinVals P w a sl cs):(results fn a.tmps).run P w = .ok (resVal cs) w:=by
 have hm:∀ g:ResultVar→Sem Value,(∀ t,g (.tmp t)=pure (a.tmps.getD t undef))→(∀ s X,g (.cell s X)=(do loadVar X (← asAddr (a.tmps.getD s undef))))→(fn.results.mapM g).run P w = .ok cs.toArray w:=by
  intro g hg1 hg2
  rw [Array.mapM_eq_mapM_toList,hr]
  have:∀ (sl:List RV) (cs:List Value),FinVals P w a sl cs→((sl.map RV.var).mapM g).run P w = .ok cs w:=by
   intro sl
   induction sl with
   | nil=>intro cs h; obtain rfl:cs=[]:=h; simp
   | cons s sl ih =>
    intro cs h
    obtain ⟨c,cs',rfl,h1,h2⟩:=h
    have hrun:(g s.var).run P w = .ok c w:=by
     cases s with
     | tmp t =>
      obtain rfl:c=_:=h1
      show (g (.tmp t)).run P w=_
      rw [hg1]; rfl
     | cell t X =>
      obtain ⟨A,h3,h4⟩:=h1
      show (g (.cell t X)).run P w=_
      rw [hg2,h3]
      simp [asAddr,h4]
    simp only [List.map_cons,List.mapM_cons,Sem.run_bind,hrun,Result.andThen_ok,ih cs' h2,Sem.run_pure]
  have h2:=this sl cs hf
  simp only [Sem.run_map,h2,Result.andThen_ok]
 unfold results
 rw [Sem.run_bind,hm _ (fun t=>rfl) (fun s X=>rfl),Result.andThen_ok,Sem.run_pure]
 match cs with
 | []=>rfl
 | [s]=>rfl
 | s::s'::l=>rfl
theorem mkFn_ok [Glob] {tab:Tab} {keep:Nat→Option Nat} {hx:Hints} {ps:List (Ty×Mode)} {rs:List (Ty×Nat)} {sl:List RV} {c:Code} {f:FuncId} {fn:Func} (hmix:P.follows .mixedOrders=true) (hC:CtxOk P C) (htab:TabOk P tab)
  (hf : P.funcs[f]? = some fn) (hname : (fn.name == "runtime.NumGoroutine") = false) (hb : fn.body = some c) (hN : fn.ntmps = N) (hr : fn.results.toList = sl.map RV.var) (hps : ps.length ≤ N) :
  FnOk P f (mkFn C tab vs N keep hx ps rs sl c):=by
 refine ⟨⟨fn,hf,hname,by rw [hb]; rfl⟩,fun x r hsem w L0 args hl ha => ?_⟩
 change Legit w L0 ps at hl
 change ArgsRep w L0 0 ps x args.toList at ha
 have hlen:args.size=ps.length:=by have:=ha.len; rw [← this]; simp
 refine calls_of_wp hf hb ?_
 rw [hN]
 have hst:StepOk P w L0 vs (mkEnv C tab vs N keep hx ps):=stepM_ok hmix hC htab rfl
 let A0:Array Value:=args++Array.replicate (N - args.size) undef
 have hJ:J w L0 vs (mkEnv C tab vs N keep hx ps) A0 (slots0 N ps x) { tmps:=args++Array.replicate (N - args.size) undef,defers:=[] } w:=⟨⟨L0,start_inv hl ha hps vs⟩,fun _ _=>rfl⟩
 refine wp_mono (denK_sound (A0:=A0) hst hsem _ _ hJ) ?_
 rintro e a' w' ⟨ex,T',rfl,hk,⟨L,hI⟩,hpin⟩
 have hpins:∀ j,(∃ t m,ps[j]? = some (t,m)∧m.back=true)→args.toList[j]? = some (a'.tmps.getD j undef):=fun j hj=>by
  have hm:(mkEnv C tab vs N keep hx ps).pins j=true:=by
   show (muts 0 ps).contains j=true
   rw [List.contains_iff_mem]
   exact muts_mem.2 ⟨Nat.zero_le _,by simpa using hj⟩
  obtain ⟨t,n,hj,_⟩:=hj
  have hlt:j < args.size:=by rw [hlen]; exact (List.getElem?_eq_some_iff.1 hj).1
  rw [hpin j hm]
  show _=some ((args++Array.replicate (N - args.size) undef).getD j undef)
  rw [Array.getD_eq_getD_getElem?,Array.getElem?_append_left hlt]
  simp [hlt]
 have hfin:∀ {log:List Nat},(bif lowR rs then finM C ps rs sl else finPM ps rs sl).Runs T' r log→a'.defers=[]∧∃ v,(results fn a'.tmps).run P w' = .ok v w'∧∃ cs L',Ending.returned v = .returned (resVal cs)∧Left w w' L0 L' ps rs∧ResTop w' L' ps.length rs r.1 cs∧MutRep w' L' 0 ps r.2 args.toList:=by
  intro log hrun
  cases hlr:lowR rs with
  | true =>
   rw [hlr] at hrun
   obtain ⟨L',cs,h0,h1,h2,h3⟩:=fin_ok hI hC hrun (A0:=args.toList) (by simpa using hlen.symm) hpins
   exact ⟨hI.dfr,_,run_results hr h0,_,L',rfl,h1,(ResTop.low hlr).2 h2,h3⟩
  | false =>
   rw [hlr] at hrun
   obtain ⟨L',cs,h0,h1,h2,h3⟩:=finP_ok hI hrun (A0:=args.toList) (by simpa using hlen.symm) hpins
   exact ⟨hI.dfr,_,run_results hr h0,_,L',rfl,h1,h2,h3⟩
 cases ex with
 | ext i=>cases hk
 | nrm =>
  obtain ⟨r',log,h1,h2⟩:=M.runK_some hk
  injection h2 with h2
  subst h2
  exact hfin h1
 | ret =>
  obtain ⟨r',log,h1,h2⟩:=M.runK_some hk
  injection h2 with h2
  subst h2
  exact hfin h1
end
end Go.Proofs.YtkanidldnnfloaaGreat.P.Am
set_option linter.unusedVariables false
set_option linter.unusedSimpArgs false
namespace Go.Proofs.YtkanidldnnfloaaGreat.P.Am
abbrev Tys:=List (Nat×Ty×Nat)
def lookT:Tys→TypeId→Option (Ty×Nat)
 | [],_=>none
 | (k,t)::l,T=>cond (k == T) (some t) (lookT l T)
def mkCtx (tys:Tys):Ctx:={ ty:=fun T=>(lookT tys T).map (·.1),bytes:=fun T=>((lookT tys T).map (·.2)).getD 0 }
def zcellB:Value→Value→Bool
 | .int k n,.int k' n'=>k == k' && n == n'
 | .bool b,.bool b'=>b == b'
 | .string s,.string s'=>s.size == 0 && s'.size == 0
 | .pointer none,.pointer none=>true
 | .nilFunc,.nilFunc=>true
 | .nilIface,.nilIface=>true
 | .slice none a b,.slice none a' b'=>a == a' && b == b'
 | _,_=>false
def zcellsB:List Value→List Value→Bool
 | [],[]=>true
 | a::l,b::l'=>zcellB a b && zcellsB l l'
 | _,_=>false
def formB (t:Ty) (z:Value):Bool:=match t with
 | .agg _=>match z with
  | .agg cs=>zcellsB t.zcells cs.toList
  | _=>false
 | _=>zcellsB t.zcells [z]
theorem bytes_nil {s:ByteArray} (h:(s.size == 0)=true):s=ByteArray.empty:=by
 obtain ⟨d⟩:=s
 have:d.size=0:=by simpa [ByteArray.size] using h
 have:d = #[]:=Array.eq_empty_of_size_eq_zero this
 rw [this]; rfl
theorem zcellB_eq [Glob] {a b:Value} (h:zcellB a b=true):a=b:=by
 unfold zcellB at h
 split at h
 ·simp only [Bool.and_eq_true,beq_iff_eq] at h; rw [h.1,h.2]
 ·simp only [beq_iff_eq] at h; rw [h]
 ·simp only [Bool.and_eq_true] at h; rw [bytes_nil h.1,bytes_nil h.2]
 ·rfl
 ·rfl
 ·rfl
 ·simp only [Bool.and_eq_true,beq_iff_eq] at h; rw [h.1,h.2]
 ·cases h
theorem zcellsB_eq [Glob]:{l l':List Value}→zcellsB l l'=true→l=l'
 | [],[],_=>rfl
 | a::l,b::l',h=>by
  simp only [zcellsB,Bool.and_eq_true] at h
  rw [zcellB_eq h.1,zcellsB_eq h.2]
 | [],_::_,h=>by simp [zcellsB] at h
 | _::_,[],h=>by simp [zcellsB] at h
theorem formB_eq [Glob] {t:Ty} {z:Value} (h:formB t z=true):Form t t.zcells z:=by
 unfold formB at h
 split at h
 ·split at h
  ·rename_i cs
   have:=zcellsB_eq h
   show Value.agg cs=_
   rw [this]
  ·cases h
 ·have:=zcellsB_eq h
  cases t with
  | agg t=>rename_i hn; exact absurd rfl (hn t)
  | _=>exact this
def fieldsB (C:Ctx) (t:Ty):Nat→List Field→Bool
 | i,[]=>(compT i t).isNone
 | i,f::l=>(match compT i t,C.ty f.type with
  | some (o, t1), some t2 => o == f.offset && decide (t1 = t2) && t1.sz != 0 && f.name != "_"
  | _,_=>false) && fieldsB C t (i+1) l
def elemsB (te:Ty) (t:Ty):Nat→Nat→Bool
 | k,0=>(compT (k+1) t).isNone
 | k,m+1=>(match compT (k+1) t with
  | some (o,t1)=>o == k*te.sz && decide (t1=te)
  | none=>false) && elemsB te t (k+1) m
theorem elemsB_ok {te t:Ty}:{m k:Nat}→elemsB te t k m=true→(∀ j,j < m→compT (k+j+1) t=some ((k+j)*te.sz,te))∧compT (k+m+1) t=none
 | 0,k,h=>⟨fun j hj=>absurd hj (by omega),by simpa [elemsB] using h⟩
 | m+1,k,h=>by
  simp only [elemsB,Bool.and_eq_true] at h
  obtain ⟨h1,h2⟩:=h
  obtain ⟨h3,h4⟩:=elemsB_ok h2
  refine ⟨fun j hj => ?_,by rw [show k+(m+1)+1=k+1+m+1 by omega]; exact h4⟩
  cases j with
  | zero =>
   split at h1
   ·rename_i o t1 hc
    simp only [Bool.and_eq_true,beq_iff_eq,decide_eq_true_eq] at h1
    obtain ⟨rfl,rfl⟩:=h1
    simpa using hc
   ·cases h1
  | succ j =>
   have:=h3 j (by omega)
   rwa [show k+1+j=k+(j+1) by omega] at this
def arrB (C:Ctx) (t:Ty) (n:Nat) (e:TypeId):Bool:=match C.ty e with
 | some te => !te.isAgg && decide (2≤n) && elemsB te t 0 n
 | none=>false
def undB (P:Program) (C:Ctx) (T:TypeId) (t:Ty):Bool:=match t,P.underlying T with
 | .int k,some (.int k')=>k == k'
 | .bool,some .bool=>true
 | .str,some .string=>true
 | .raw _,some (.pointer _)=>true
 | .raw _,some (.func ..)=>true
 | .raw _,some (.interface _)=>true
 | .agg t',some (.struct fs) => !t'.isArr && (fieldsB C t' 0 fs.toList && !P.stoodInHeld T && !P.eqGuardType P.depth T)
 | .agg t',some (.array n e)=>t'.isArr && arrB C t' n e
 | .slice e t',some (.slice e')=>e == e' && decide (C.ty e=some t')
 | _,_=>false
def tyB (P:Program) (C:Ctx) (T:TypeId) (t:Ty):Bool:=(match P.info? T with
 | some i=>i.size == t.sz && i.bytes == C.bytes T && (match i.zero with
  | some z=>formB t z
  | none=>false)
 | none=>false) && undB P C T t
theorem compT_none {t:Ty}:{i:Nat}→compT i t=none→∀ j,i≤j→compT j t=none:=by
 have step:∀ (i:Nat) (t:Ty),compT i t=none→compT (i+1) t=none:=by
  intro i
  induction i with
  | zero=>intro t h; cases t <;> simp [compT] at h
  | succ i ih =>
   intro t h
   cases t with
   | pair a b =>
    simp only [compT,Option.map_eq_none_iff] at h ⊢
    exact ih b h
   | _=>rfl
 intro i h j hj
 induction hj with
 | refl=>exact h
 | step _ ih=>exact step _ _ ih
theorem fieldsB_ok {C : Ctx} {t : Ty} : {i : Nat} → {l : List Field} → fieldsB C t i l = true → (∀ (j : Nat) (f : Field), l[j]? = some f → ∃ t1, compT (i + j) t = some (f.offset, t1) ∧ C.ty f.type = some t1 ∧ t1.sz ≠ 0 ∧ f.name ≠ "_") ∧ compT (i + l.length) t = none
 | i,[],h=>⟨fun j f hj=>by simp at hj,by simpa [fieldsB] using h⟩
 | i,f::l,h=>by
  simp only [fieldsB,Bool.and_eq_true] at h
  obtain ⟨h1,h2⟩:=h
  obtain ⟨h3,h4⟩:=fieldsB_ok h2
  refine ⟨fun j f' hj => ?_,by rw [List.length_cons,show i+(l.length+1)=i+1+l.length by omega]; exact h4⟩
  cases j with
  | zero =>
   simp only [List.getElem?_cons_zero,Option.some.injEq] at hj
   subst hj
   split at h1
   ·rename_i o t1 t2 hc ht
    simp only [Bool.and_eq_true,beq_iff_eq,decide_eq_true_eq,bne_iff_ne] at h1
    obtain ⟨⟨⟨rfl,rfl⟩,h5⟩,h6⟩:=h1
    exact ⟨t1,by rw [Nat.add_zero]; exact hc,ht,h5,h6⟩
   ·cases h1
  | succ j =>
   have:=h3 j f' (by simpa using hj)
   rwa [show i+1+j=i+(j+1) by omega] at this
theorem undB_ok [Glob] {P:Program} {C:Ctx} {T:TypeId} {t:Ty}:undB P C T t=true→match t with
  | .int k=>P.underlying T=some (.int k)
  | .bool=>P.underlying T=some .bool
  | .str=>P.underlying T=some .string
  | .raw _=>∃ d,P.underlying T=some d∧(∀ fs,d ≠ .struct fs)∧∀ n e,d ≠ .array n e
  | .agg t'=>(t'.isArr=false∧(∃ fs,P.underlying T=some (.struct fs)∧fieldsOk C t' fs)∧P.stoodInHeld T=false∧P.eqGuardType P.depth T=false)∨(t'.isArr=true∧ArrOk P C T t')
  | .slice e t'=>P.underlying T=some (.slice e)∧C.ty e=some t'
  | _=>False:=by
 intro h
 unfold undB at h
 split at h
 ·rename_i hu; rw [beq_iff_eq] at h; subst h; exact hu
 ·assumption
 ·assumption
 ·rename_i hu; exact ⟨_,hu,by simp,by simp⟩
 ·rename_i hu; exact ⟨_,hu,by simp,by simp⟩
 ·rename_i hu; exact ⟨_,hu,by simp,by simp⟩
 ·rename_i t' fs hu
  simp only [Bool.and_eq_true,Bool.not_eq_true'] at h
  obtain ⟨h0,⟨h1,h2⟩,h3⟩:=h
  obtain ⟨h4,h5⟩:=fieldsB_ok h1
  refine .inl ⟨h0,⟨fs,hu,fun i f hf => ?_,fun i r hr => ?_⟩,h2,h3⟩
  ·have:=h4 i f (by simpa using hf)
   rwa [Nat.zero_add] at this
  ·rcases Nat.lt_or_ge i fs.size with h | h
   ·exact h
   ·rw [Nat.zero_add,Array.length_toList] at h5
    rw [compT_none h5 i h] at hr
    cases hr
 ·rename_i t' n e hu
  simp only [Bool.and_eq_true] at h
  obtain ⟨h0,h1⟩:=h
  unfold arrB at h1
  split at h1
  ·rename_i te hte
   simp only [Bool.and_eq_true,Bool.not_eq_true',decide_eq_true_eq] at h1
   obtain ⟨⟨h2,h3⟩,h4⟩:=h1
   obtain ⟨h5,h6⟩:=elemsB_ok h4
   refine .inr ⟨h0,n,e,te,hu,hte,h2,h3,fun k hk => ?_,fun k r hr => ?_⟩
   ·have:=h5 k hk
    simpa using this
   ·rcases Nat.lt_or_ge k n with h | h
    ·exact h
    ·rw [Nat.zero_add] at h6
     rw [compT_none h6 (k+1) (by omega)] at hr
     cases hr
  ·cases h1
 ·rename_i hu
  simp only [Bool.and_eq_true,beq_iff_eq,decide_eq_true_eq] at h
  obtain ⟨rfl,h2⟩:=h
  exact ⟨hu,h2⟩
 ·cases h
theorem tyB_ok [Glob] {P:Program} {C:Ctx} {T:TypeId} {t:Ty} (h:tyB P C T t=true):TyOk P C T t:=by
 unfold tyB at h
 simp only [Bool.and_eq_true] at h
 obtain ⟨h1,h2⟩:=h
 refine ⟨?_,by have h3:=undB_ok h2; cases t <;> exact h3⟩
 split at h1
 ·rename_i i hi
  simp only [Bool.and_eq_true,beq_iff_eq] at h1
  obtain ⟨⟨h3,h4⟩,h5⟩:=h1
  split at h5
  ·rename_i z hz
   exact ⟨i,z,hi,h3,h4,hz,formB_eq h5⟩
  ·cases h5
 ·cases h1
theorem lookT_mem {T:TypeId} {p:Ty×Nat}:{l:Tys}→lookT l T=some p→(T,p)∈l
 | [],h=>by cases h
 | (k,t)::l,h=>by
  simp only [lookT] at h
  cases hk:k == T with
  | true =>
   rw [hk] at h
   injection h with h
   rw [beq_iff_eq] at hk
   subst h hk
   simp
  | false =>
   rw [hk] at h
   exact List.mem_cons_of_mem _ (lookT_mem h)
theorem ctx_ok [Glob] {P:Program} {tys:Tys} (h:tys.all (fun p=>tyB P (mkCtx tys) p.1 p.2.1)=true):CtxOk P (mkCtx tys):=by
 intro T t ht
 obtain ⟨p,hp,rfl⟩:=Option.map_eq_some_iff.1 ht
 rw [List.all_eq_true] at h
 exact tyB_ok (h _ (lookT_mem hp))
end Go.Proofs.YtkanidldnnfloaaGreat.P.Am
set_option linter.unusedVariables false
set_option linter.unusedSimpArgs false
namespace Go.Proofs.YtkanidldnnfloaaGreat.P.Am
def WfD:(t:Ty)→t.den→Prop
 | .int k,x=>k.min≤x∧x≤k.max
 | .bool,_=>True
 | .str,x=>(x:ByteArray).size≤maxLen
 | .raw _,_=>True
 | .unit,_=>True
 | .pair a b,x=>WfD a x.1∧WfD b x.2
 | .agg t,x=>WfD t x
 | .slice _ t,xs=>(xs:List t.den).length≤maxLen∧∀ x∈(xs:List t.den),WfD t x
def Ty.flat:Ty→Bool
 | .raw _=>false
 | .unit=>false
 | .pair a b=>a.flat && b.flat
 | .agg t=>t.flat
 | .slice _ t=>t.flat
 | _=>true
theorem flat_struct {t:Ty} (h:(Ty.agg t).flat=true):t.isArr=false:=by
 cases hia:t.isArr with
 | false=>rfl
 | true =>
  unfold Ty.isArr at hia
  split at hia
  ·simp [Ty.flat] at h
  ·cases hia
theorem flat_pos:{t:Ty}→t.flat=true→0 < t.sz
 | .int _,_ | .bool,_ | .str,_ | .slice _ _,_=>by simp [Ty.sz]
 | .raw _,h | .unit,h=>by simp [Ty.flat] at h
 | .pair a b,h=>by
  simp only [Ty.flat,Bool.and_eq_true] at h
  have:=flat_pos h.1
  simp only [Ty.sz]; omega
 | .agg t,h=>by simp only [Ty.flat] at h; simpa [Ty.sz] using flat_pos h
theorem flat_comp:{i:Nat}→{t:Ty}→{o:Nat}→{t1:Ty}→compT i t=some (o,t1)→t.flat=true→t1.flat=true
 | 0,.pair a b,o,t1,h,hf=>by simp only [compT,Option.some.injEq,Prod.mk.injEq] at h; obtain ⟨rfl,rfl⟩:=h; simp only [Ty.flat,Bool.and_eq_true] at hf; exact hf.1
 | i+1,.pair a b,o,t1,h,hf=>by
  simp only [compT,Option.map_eq_some_iff] at h
  obtain ⟨⟨o2,t2⟩,h,he⟩:=h
  simp only [Prod.mk.injEq] at he
  obtain ⟨rfl,rfl⟩:=he
  simp only [Ty.flat,Bool.and_eq_true] at hf
  exact flat_comp h hf.2
 | 0,.int _,_,_,h,hf | 0,.bool,_,_,h,hf | 0,.str,_,_,h,hf | 0,.raw _,_,_,h,hf | 0,.unit,_,_,h,hf | 0,.agg _,_,_,h,hf | 0,.slice _ _,_,_,h,hf=>by
  simp only [compT,Option.some.injEq,Prod.mk.injEq] at h; obtain ⟨rfl,rfl⟩:=h; exact hf
def Good (w:World) (t:Ty) (cs:List Value):Prop:=∃ x:t.den,Rd w (fun k=>k < w.heap.size) t x cs∧WfD t x
theorem good_tuple {w:World}:{t:Ty}→{cs:List Value}→cs.length=t.sz→t ≠ .unit→(∀ j r,compT j t=some r→Good w r.2 ((cs.drop r.1).take r.2.sz))→Good w t cs
 | .pair a b,cs,hl,_,h=>by
  obtain ⟨x,hx,wx⟩:=h 0 (0,a) rfl
  simp only [Ty.sz] at hl
  by_cases hb:b = .unit
  ·subst hb
   refine ⟨(x,()),?_,wx,trivial⟩
   simp only [Rd]
   refine ⟨cs,[],by simp,?_,rfl⟩
   simp only [List.drop_zero] at hx
   rw [List.take_of_length_le (by simp [Ty.sz] at hl; omega)] at hx
   exact hx
  ·obtain ⟨y,hy,wy⟩:=good_tuple (t:=b) (cs:=cs.drop a.sz) (by simp; omega) hb (fun j r hr=>by
    have:=h (j+1) (a.sz+r.1,r.2) (by simp [compT,hr])
    rwa [← List.drop_drop] at this)
   refine ⟨(x,y),?_,wx,wy⟩
   simp only [Rd]
   exact ⟨cs.take a.sz,cs.drop a.sz,by simp,by simpa using hx,hy⟩
 | .int _,cs,hl,_,h | .bool,cs,hl,_,h | .str,cs,hl,_,h | .raw _,cs,hl,_,h | .agg _,cs,hl,_,h | .slice _ _,cs,hl,_,h=>by
  have:=h 0 _ rfl
  simp only [List.drop_zero] at this
  rwa [List.take_of_length_le (Nat.le_of_eq hl)] at this
 | .unit,cs,_,hu,_=>absurd rfl hu
theorem mapM_all {α β:Type} {f:α→Option β}:{l:List α}→{ys:List β}→l.mapM f=some ys→ys.length=l.length∧∀ i (h:i < l.length),∃ y,f l[i]=some y∧ys[i]? = some y
 | [],ys,h=>by simp at h; subst h; exact ⟨rfl,fun i h=>absurd h (by simp)⟩
 | a::l,ys,h=>by
  simp only [List.mapM_cons,Option.bind_eq_bind,Option.bind_eq_some_iff,Option.pure_def,Option.some.injEq] at h
  obtain ⟨y,hy,ys',hys,rfl⟩:=h
  obtain ⟨h1,h2⟩:=mapM_all hys
  refine ⟨by simp [h1],fun i hi => ?_⟩
  cases i with
  | zero=>exact ⟨y,hy,rfl⟩
  | succ i =>
   obtain ⟨z,hz,hz2⟩:=h2 i (by simpa using hi)
   exact ⟨z,by simpa using hz,by simpa using hz2⟩
theorem choose_list {α:Type} {Q:Nat→α→Prop}:{n:Nat}→(∀ i,i < n→∃ x,Q i x)→∃ xs:List α,xs.length=n∧∀ i (h:i < xs.length),Q i xs[i]
 | 0,_=>⟨[],rfl,fun i h=>absurd h (by simp)⟩
 | n+1,h=>by
  obtain ⟨xs,hl,hq⟩:=choose_list (n:=n) (fun i hi=>h i (by omega))
  obtain ⟨x,hx⟩:=h n (by omega)
  refine ⟨xs++[x],by simp [hl],fun i hi => ?_⟩
  by_cases hin:i < xs.length
  ·rw [List.getElem_append_left hin]; exact hq i hin
  ·have:i=n:=by simp at hi; omega
   subst this
   rw [List.getElem_append_right (by omega)]
   simpa using hx
theorem cells_some [Glob] {w:World} {base:Nat} {a:Addr} {n:Nat} {es:List Value} (h:w.cells? base a n=some es):es.length=n∧∀ i v,es[i]? = some v→w.cell? (a.add i)=some v:=by
 unfold World.cells? at h
 split at h
 ·obtain ⟨h1,h2⟩:=mapM_all h
  simp only [List.length_range] at h1
  refine ⟨h1,fun i v hv => ?_⟩
  obtain ⟨hi,_⟩:=List.getElem?_eq_some_iff.1 hv
  obtain ⟨y,hy,hy2⟩:=h2 i (by simpa using by omega)
  rw [hv] at hy2
  injection hy2 with hy2
  subst hy2
  simpa using hy
 ·cases h
theorem cell_lt {w:World} {a:Addr} {v:Value} (h:w.cell? a=some v):a.block < w.heap.size∧a.spot=none:=by
 unfold World.cell? at h
 split at h
 ·rename_i c _ _ hh
  split at h
  ·cases h
  ·rename_i hs
   exact ⟨(Array.getElem?_eq_some_iff.1 hh).1,by simpa using hs⟩
 ·cases h
theorem add_add (a:Addr) (i j:Nat) (h:a.spot=none):(a.add i).add j=⟨a.block,a.off+(i+j),none⟩:=by
 obtain ⟨b,o,s⟩:=a
 subst h
 unfold Addr.add
 split <;> split <;> simp_all <;> omega
section
variable {H:Type} {enc:TypeId×Value→H} {P:Program} {C:Ctx} {w:World} {base:Nat} {spare:Nat→Bool} {held:Bool}
theorem trod_slice {fuel:Nat} {X e:TypeId} {cs:List Value} {r:DataW H×List MemPlace} (hu:P.underlying X=some (.slice e)) (h:DataW.trod enc P w base spare held (fuel+1) X cs=some r) :
  cs=[.slice none 0 0]∨∃ a len cap elems,cs=[.slice (some a) len cap]∧len≤cap∧cap≤maxLen ∧
   (List.range len).mapM (fun i=>(w.cells? base (a.add (i*P.cellsOf e)) (P.cellsOf e)).bind (DataW.trod enc P w base spare held fuel e))=some elems:=by
 simp only [DataW.trod,hu] at h
 rcases cs with _ | ⟨c,_ | ⟨c2,cs⟩⟩
 ·simp at h
 ·cases c with
  | slice A len cap =>
   cases A with
   | none =>
    rcases len with _ | len <;> rcases cap with _ | cap <;> simp at h ⊢
   | some a =>
    right
    dsimp only at h
    split at h
    ·rename_i hc
     obtain ⟨elems,h1,_⟩:=Option.bind_eq_some_iff.1 h
     exact ⟨a,len,cap,elems,rfl,hc.2.1,hc.2.2,h1⟩
    ·cases h
  | _=>simp at h
 ·simp at h
theorem trod_good [Glob] (hC:CtxOk P C):∀ (fuel:Nat) (t:Ty) (X:TypeId) (cs:List Value) (r:DataW H×List MemPlace),C.ty X=some t→t.flat=true→DataW.trod enc P w base spare held fuel X cs=some r→Good w t cs:=by
 intro fuel
 induction fuel with
 | zero=>intro t X cs r _ _ h; simp [DataW.trod] at h
 | succ fuel ih =>
  intro t X cs r hX hf h
  have hty:=hC X t hX
  have hu:=hty.und
  obtain ⟨inf,z,hi1,hi2,_⟩:=hty.info
  have hcells:P.cellsOf X=t.sz:=by simp [Program.cellsOf,hi1,hi2]
  cases t with
  | int k =>
   simp only [DataW.trod] at h
   rw [hu] at h
   split at h <;> simp_all
   obtain ⟨h1,_⟩:=h
   obtain ⟨rfl,h1⟩:=h1
   simp only [Lit.wf,Bool.and_eq_true,decide_eq_true_eq] at h1
   exact ⟨_,show _=_ from rfl,h1⟩
  | bool =>
   simp only [DataW.trod] at h
   rw [hu] at h
   split at h <;> simp_all
   exact ⟨_,show _=_ from rfl,trivial⟩
  | str =>
   simp only [DataW.trod] at h
   rw [hu] at h
   split at h <;> simp_all
   exact ⟨_,show _=_ from rfl,h.1⟩
  | raw z=>simp [Ty.flat] at hf
  | unit=>simp [Ty.flat] at hf
  | pair a b=>exact hu.elim
  | slice e te =>
   obtain ⟨hu,he⟩:=hu
   have hfe:te.flat=true:=hf
   have hce:P.cellsOf e=te.sz:=by
    obtain ⟨inf',z',hi1',hi2',_⟩:=(hC e te he).info
    simp [Program.cellsOf,hi1',hi2']
   have hpos:=flat_pos hfe
   rcases trod_slice hu h with rfl | ⟨a,len,cap,elems,rfl,hlc,hcm,h1⟩
   ·exact ⟨[],by simp only [Rd]; exact ⟨none,0,rfl,by simp,by simp,by simp⟩,by simp [WfD,maxLen]⟩
   ·rw [hce] at h1
    obtain ⟨h2,h3⟩:=mapM_all h1
    have hel:∀ i,i < len→∃ es,w.cells? base (a.add (i*te.sz)) te.sz=some es∧Good w te es:=by
     intro i hi
     obtain ⟨y,hy,_⟩:=h3 i (by simpa using hi)
     simp only [List.getElem_range] at hy
     obtain ⟨es,hes,hy⟩:=Option.bind_eq_some_iff.1 hy
     exact ⟨es,hes,ih te _ es y he hfe hy⟩
    obtain ⟨xs,hxl,hxs⟩:=choose_list (Q:=fun i x=>∃ es,w.cells? base (a.add (i*te.sz)) te.sz=some es∧Rd w (fun k=>k < w.heap.size) te x es∧WfD te x) (n:=len) (fun i hi=>by
     obtain ⟨es,hes,x,hx,wx⟩:=hel i hi
     exact ⟨x,es,hes,hx,wx⟩)
    refine ⟨xs,?_,?_⟩
    ·simp only [Rd]
     refine ⟨some a,cap,by rw [hxl],by rw [hxl]; exact hlc,by simp,fun hne => ?_⟩
     have h0:0 < xs.length:=List.length_pos_iff.2 hne
     obtain ⟨es,hes,_⟩:=hxs 0 h0
     obtain ⟨hl0,hc0⟩:=cells_some hes
     obtain ⟨v0,hv0⟩:∃ v,es[0]? = some v:=⟨_,List.getElem?_eq_getElem (by omega)⟩
     obtain ⟨hlt,hsp⟩:=cell_lt (hc0 0 v0 hv0)
     have hspot:a.spot=none:=by simpa [Addr.add] using hsp
     have hblk:a.block < w.heap.size:=by simpa [Addr.add] using hlt
     refine ⟨a.block,a.off,by obtain ⟨b,o,s⟩:=a; simp_all,hblk,fun j hj => ?_⟩
     obtain ⟨es,hes,hrd,_⟩:=hxs j hj
     refine ⟨es,hrd,fun i v hv => ?_⟩
     have:=(cells_some hes).2 i v hv
     rwa [add_add a _ _ hspot] at this
    ·refine ⟨by rw [hxl]; omega,fun x hx => ?_⟩
     obtain ⟨i,hi,rfl⟩:=List.mem_iff_getElem.1 hx
     obtain ⟨es,_,_,wx⟩:=hxs i hi
     exact wx
  | agg t' =>
   obtain ⟨⟨fs,hu,hfo,hfn⟩,_⟩:=(hC X _ hX).str (flat_struct hf)
   simp only [DataW.trod] at h
   rw [hu] at h
   have h':(if cs.length=P.cellsOf X then (fs.toList.mapM fun f=>DataW.trod enc P w base spare held fuel f.type ((cs.drop f.offset).take (P.cellsOf f.type))).map fun xs=>(DataW.agg (xs.map (·.1)),xs.flatMap (·.2)) else none)=some r:=by
    split at h <;> simp_all
   clear h
   split at h'
   ·rename_i hl
    obtain ⟨xs,hxs,_⟩:=Option.map_eq_some_iff.1 h'
    obtain ⟨_,h3⟩:=mapM_all hxs
    have hft:t'.flat=true:=hf
    have hne:t' ≠ .unit:=by rintro rfl; simp [Ty.flat] at hft
    have hl':cs.length=t'.sz:=by rw [hl,hcells]; rfl
    have:Good w t' cs:=good_tuple hl' hne (fun j r hr=>by
     have hlt:=hfn j r hr
     obtain ⟨t1,e1,e2,_⟩:=hfo j fs[j] (Array.getElem?_eq_getElem hlt)
     rw [hr] at e1
     injection e1 with e1
     subst e1
     obtain ⟨y,hy,_⟩:=h3 j (by simpa using hlt)
     simp only [Array.getElem_toList] at hy
     obtain ⟨inf',z',hi1',hi2',_⟩:=(hC _ _ e2).info
     have hce:P.cellsOf fs[j].type=t1.sz:=by simp [Program.cellsOf,hi1',hi2']
     rw [hce] at hy
     exact ih t1 _ _ y e2 (flat_comp hr hft) hy)
    obtain ⟨x,hx,wx⟩:=this
    exact ⟨x,by simp only [Rd]; exact hx,wx⟩
   ·cases h'
end
end Go.Proofs.YtkanidldnnfloaaGreat.P.Am
set_option linter.unusedVariables false
set_option linter.unusedSimpArgs false
namespace Go.Proofs.YtkanidldnnfloaaGreat.P.Am
theorem mapM_congr {α β:Type} {f g:α→Option β}:{l:List α}→{ys:List β}→l.mapM f=some ys→(∀ a y,f a=some y→y∈ys→g a=some y)→l.mapM g=some ys
 | [],ys,h,_=>by simpa using h
 | a::l,ys,h,H=>by
  simp only [List.mapM_cons,Option.bind_eq_bind,Option.bind_eq_some_iff,Option.pure_def,Option.some.injEq] at h
  obtain ⟨y,hy,ys',hys,rfl⟩:=h
  have h1:=H a y hy (by simp)
  have h2:=mapM_congr hys (fun a y ha hm=>H a y ha (by simp [hm]))
  simp [h1,h2]
section
variable {H:Type} {enc:TypeId×Value→H} {P:Program} {C:Ctx} {w w':World} {base:Nat} {sp:Nat→Bool} {held:Bool}
theorem cells_again [Glob] (hH:∀ k,k < w.heap.size→w'.heap[k]? = w.heap[k]?) {a:Addr} {n:Nat} {es:List Value} (h:w.cells? base a n=some es):w'.cells? base a n=some es:=by
 unfold World.cells? at h ⊢
 split at h
 ·rename_i hb
  rw [if_pos hb]
  refine mapM_congr h (fun i v hv _ => ?_)
  have:=(cell_lt hv).1
  rw [World.cell?_of_block (hH _ this)]
  exact hv
 ·cases h
theorem row_mem {a:Addr} {n i:Nat} (h:i < n):∃ p∈MemPlace.row a n,p.block=a.block:=by
 unfold MemPlace.row
 exact ⟨_,List.mem_map.2 ⟨i,by simpa using h,rfl⟩,by simp [MemPlace.block]⟩
theorem trod_slice2 {fuel:Nat} {X e:TypeId} {a:Addr} {len cap:Nat} {r:DataW H×List MemPlace} {sp:Nat→Bool} (hu:P.underlying X=some (.slice e)) (h:DataW.trod enc P w base sp held (fuel+1) X [.slice (some a) len cap]=some r) :
  (base≤a.block∧len≤cap∧cap≤maxLen)∧∃ elems rest,(List.range len).mapM (fun i=>(w.cells? base (a.add (i*P.cellsOf e)) (P.cellsOf e)).bind (DataW.trod enc P w base sp held fuel e))=some elems ∧
   (if sp a.block=true then (List.range (cap - len)).mapM (fun j=>(w.cells? base (a.add ((len+j)*P.cellsOf e)) (P.cellsOf e)).bind (DataW.trod enc P w base sp held fuel e)) else some [])=some rest ∧
   r=(.slice (elems.map (·.1)) (rest.map (·.1)),MemPlace.row a ((elems.length+rest.length)*P.cellsOf e)++(elems++rest).flatMap (·.2)):=by
 simp only [DataW.trod,hu] at h
 split at h
 ·rename_i hc
  obtain ⟨elems,h1,h2⟩:=Option.bind_eq_some_iff.1 h
  obtain ⟨rest,h3,h4⟩:=Option.map_eq_some_iff.1 h2
  exact ⟨hc,elems,rest,h1,h3,h4.symm⟩
 ·cases h
theorem trod_again [Glob] (hC:CtxOk P C) (hH:∀ k,k < w.heap.size→w'.heap[k]? = w.heap[k]?):∀ (fuel:Nat) (t:Ty) (X:TypeId) (cs:List Value) (r:DataW H×List MemPlace),C.ty X=some t→t.flat=true →
  DataW.trod enc P w base (fun _=>true) held fuel X cs=some r→(∀ p∈r.2,sp p.block=true)→DataW.trod enc P w' base sp held fuel X cs=some r:=by
 intro fuel
 induction fuel with
 | zero=>intro t X cs r _ _ h; simp [DataW.trod] at h
 | succ fuel ih =>
  intro t X cs r hX hf h hs
  have hu:=(hC X t hX).und
  cases t with
  | int k =>
   simp only [DataW.trod,hu] at h ⊢
   rcases cs with _ | ⟨c,_ | ⟨c2,cs⟩⟩
   ·simp at h
   ·cases c <;> simp at h ⊢ <;> exact h
   ·simp at h
  | bool =>
   simp only [DataW.trod,hu] at h ⊢
   rcases cs with _ | ⟨c,_ | ⟨c2,cs⟩⟩
   ·simp at h
   ·cases c <;> simp at h ⊢ <;> exact h
   ·simp at h
  | str =>
   simp only [DataW.trod,hu] at h ⊢
   rcases cs with _ | ⟨c,_ | ⟨c2,cs⟩⟩
   ·simp at h
   ·cases c <;> simp at h ⊢ <;> exact h
   ·simp at h
  | raw z=>simp [Ty.flat] at hf
  | unit=>simp [Ty.flat] at hf
  | pair a b=>exact hu.elim
  | slice e te =>
   obtain ⟨hu,he⟩:=hu
   have hfe:te.flat=true:=hf
   have hce:P.cellsOf e=te.sz:=by
    obtain ⟨inf',z',hi1',hi2',_⟩:=(hC e te he).info
    simp [Program.cellsOf,hi1',hi2']
   have hpos:=flat_pos hfe
   rcases trod_slice hu h with rfl | ⟨a,len,cap,_,rfl,_,_,_⟩
   ·simp only [DataW.trod,hu] at h ⊢
    simpa using h
   ·obtain ⟨hc,elems,rest,h1,h2,rfl⟩:=trod_slice2 hu h
    rw [if_pos rfl] at h2
    have hstep:∀ (i:Nat) (y:DataW H×List MemPlace),((w.cells? base (a.add (i*P.cellsOf e)) (P.cellsOf e)).bind (DataW.trod enc P w base (fun _=>true) held fuel e))=some y→(∀ p∈y.2,sp p.block=true) →
      ((w'.cells? base (a.add (i*P.cellsOf e)) (P.cellsOf e)).bind (DataW.trod enc P w' base sp held fuel e))=some y:=by
     intro i y hy hp
     obtain ⟨es,hes,hy⟩:=Option.bind_eq_some_iff.1 hy
     rw [cells_again hH hes]
     exact ih te e es y he hfe hy hp
    have hmem:∀ y,(y∈elems∨y∈rest)→∀ p∈y.2,sp p.block=true:=fun y hy p hp=>hs p (by
     simp only [List.mem_append,List.mem_flatMap]
     exact .inr ⟨y,hy,hp⟩)
    have g1:=mapM_congr h1 (fun i y hy hm=>hstep i y hy (hmem y (.inl hm)))
    have g2:=mapM_congr h2 (fun j y hy hm=>hstep (len+j) y hy (hmem y (.inr hm)))
    simp only [DataW.trod,hu]
    rw [if_pos hc,g1,Option.bind_some]
    by_cases hsp:sp a.block=true
    ·rw [if_pos hsp,g2]; rfl
    ·have hz:elems.length+rest.length=0:=by
      apply Classical.byContradiction
      intro hne
      have:0 < (elems.length+rest.length)*P.cellsOf e:=by rw [hce]; exact Nat.mul_pos (by omega) hpos
      obtain ⟨p,hp,hb⟩:=row_mem (a:=a) this
      exact hsp (by rw [← hb]; exact hs p (List.mem_append_left _ hp))
     have:rest=[]:=List.eq_nil_of_length_eq_zero (by omega)
     subst this
     rw [if_neg hsp]; rfl
  | agg t' =>
   obtain ⟨⟨fs,hu,hfo,hfn⟩,_⟩:=(hC X _ hX).str (flat_struct hf)
   simp only [DataW.trod,hu] at h ⊢
   split at h
   ·rename_i hl
    rw [if_pos hl]
    obtain ⟨xs,hxs,rfl⟩:=Option.map_eq_some_iff.1 h
    have hft:t'.flat=true:=hf
    have:fs.toList.mapM (fun f=>DataW.trod enc P w' base sp held fuel f.type ((cs.drop f.offset).take (P.cellsOf f.type)))=some xs:=by
     have gen:∀ (l:List Field) (xs:List (DataW H×List MemPlace)),(∀ f∈l,f∈fs.toList)→l.mapM (fun f=>DataW.trod enc P w base (fun _=>true) held fuel f.type ((cs.drop f.offset).take (P.cellsOf f.type)))=some xs→(∀ y∈xs,∀ p∈y.2,sp p.block=true) →
       l.mapM (fun f=>DataW.trod enc P w' base sp held fuel f.type ((cs.drop f.offset).take (P.cellsOf f.type)))=some xs:=by
      intro l
      induction l with
      | nil=>intro xs _ h _; simpa using h
      | cons f l ihl =>
       intro xs hsub h hp
       simp only [List.mapM_cons,Option.bind_eq_bind,Option.bind_eq_some_iff,Option.pure_def,Option.some.injEq] at h
       obtain ⟨y,hy,ys',hys,rfl⟩:=h
       obtain ⟨j,hj⟩:=List.mem_iff_getElem?.1 (hsub f (by simp))
       obtain ⟨t1,e1,e2,_⟩:=hfo j f (by simpa using hj)
       have g1:=ih t1 _ _ y e2 (flat_comp e1 hft) hy (hp y (by simp))
       have g2:=ihl ys' (fun f hf=>hsub f (by simp [hf])) hys (fun z hz=>hp z (by simp [hz]))
       simp [g1,g2]
     exact gen _ _ (fun _ h=>h) hxs (fun y hy p hp=>hs p (by
      simp only [List.mem_flatMap]
      exact ⟨y,hy,hp⟩))
    rw [this]; rfl
   ·cases h
end
end Go.Proofs.YtkanidldnnfloaaGreat.P.Am
set_option linter.unusedVariables false
set_option linter.unusedSimpArgs false
namespace Go.Proofs.YtkanidldnnfloaaGreat.P.Am
open Go.ChangeShapes Go.WideShapes
section
variable {H:Type} {enc:TypeId×Value→H} {P:Program} {C:Ctx} {w w':World}
theorem okWide_form [Glob] (hC:CtxOk P C) {X:TypeId} {t:Ty} {v:Value} {base:Nat} (hX:C.ty X=some t) (hf:t.flat=true) (hok:Value.okWide P w .any base X v):Form t v.cells.toList v:=by
 have hu:=(hC X t hX).und
 unfold Value.okWide at hok
 cases t with
 | agg t' =>
  obtain ⟨⟨fs,hu,_⟩,_⟩:=(hC X _ hX).str (flat_struct hf)
  rw [hu] at hok
  obtain ⟨cs,rfl,_⟩:=hok
  simp [Form,Value.cells]
 | int k =>
  rw [hu] at hok
  cases v <;> simp [Cell.okWide,Cell.ok,hu] at hok
  rfl
 | bool =>
  rw [hu] at hok
  cases v <;> simp [Cell.okWide,Cell.ok,hu] at hok
  rfl
 | str =>
  rw [hu] at hok
  cases v <;> simp [Cell.okWide,Cell.ok,hu] at hok
  rfl
 | slice e te =>
  obtain ⟨hu,_⟩:=hu
  rw [hu] at hok
  cases v <;> simp [Cell.okWide,Cell.ok,hu] at hok
  rfl
 | raw z=>simp [Ty.flat] at hf
 | unit=>simp [Ty.flat] at hf
 | pair a b=>exact hu.elim
def parsB (C:Ctx):List TypeId→List (Ty×Mode)→Bool
 | [],[]=>true
 | X::Xs,(t,.ro)::ps=>decide (C.ty X=some t) && t.flat && parsB C Xs ps
 | _,_=>false
def lawLab (w:World):Nat→Lab:=fun k=>if k < w.heap.size then .stable else .free
theorem args_rep [Glob] (hC:CtxOk P C) {base:Nat}:{Xs:List TypeId}→{ps:List (Ty×Mode)}→{vs:List Value}→{ds:List (DataW H)}→{p:List MemPlace}→{i:Nat}→parsB C Xs ps=true →
  (∀ (j:Nat) t v,Xs[j]? = some t→vs[j]? = some v→Value.okWide P w .any base t v)→DataW.TrodAll enc P w 0 (fun _=>true) true Xs vs ds p→∃ x,ArgsRep w (lawLab w) i ps x vs∧WfD (pTy ps) x
 | [],[],vs,ds,p,i,_,_,h=>by
  obtain ⟨rfl,_⟩:=trodAll_nil h
  exact ⟨(),rfl,trivial⟩
 | X::Xs,(t,.ro)::ps,vs,ds,p,i,hb,hok,h=>by
  simp only [parsB,Bool.and_eq_true,decide_eq_true_eq] at hb
  obtain ⟨⟨hX,hf⟩,hb⟩:=hb
  obtain ⟨v,vs1,d,ds1,a,b,rfl,rfl,rfl,⟨fuel,h1⟩,h2⟩:=trodAll_cons h
  obtain ⟨x,hx,wx⟩:=trod_good hC fuel t X _ _ hX hf h1
  obtain ⟨y,hy,wy⟩:=args_rep (i:=i+1) hC hb (fun j t v' hj hv=>hok (j+1) t v' (by simpa using hj) (by simpa using hv)) h2
  refine ⟨(x,y),?_,wx,wy⟩
  refine ⟨v,vs1,v.cells.toList,rfl,okWide_form hC hX hf (hok 0 X v rfl rfl),Own.of_rd (Rd.move (fun k hk=>⟨?_,rfl⟩) hx),hy⟩
  have hk:k < w.heap.size:=hk
  show (lawLab w) k = .stable
  unfold lawLab
  rw [if_pos hk]
 | [],_::_,_,_,_,_,hb,_,_=>by simp [parsB] at hb
 | _::_,[],_,_,_,_,hb,_,_=>by simp [parsB] at hb
 | _::_,(_,.mut _)::_,_,_,_,_,hb,_,_=>by simp [parsB] at hb
theorem args_again [Glob] (hC:CtxOk P C) (hH:∀ k,k < w.heap.size→w'.heap[k]? = w.heap[k]?) {sp:Nat→Bool}:{Xs:List TypeId}→{ps:List (Ty×Mode)}→{vs:List Value}→{ds:List (DataW H)}→{p:List MemPlace}→parsB C Xs ps=true →
  DataW.TrodAll enc P w 0 (fun _=>true) true Xs vs ds p→(∀ q∈p,sp q.block=true)→DataW.TrodAll enc P w' 0 sp true Xs vs ds p
 | [],[],vs,ds,p,_,h,_=>by
  obtain ⟨rfl,rfl,rfl⟩:=trodAll_nil h
  exact trodAll_mk0
 | X::Xs,(t,.ro)::ps,vs,ds,p,hb,h,hs=>by
  simp only [parsB,Bool.and_eq_true,decide_eq_true_eq] at hb
  obtain ⟨⟨hX,hf⟩,hb⟩:=hb
  obtain ⟨v,vs1,d,ds1,a,b,rfl,rfl,rfl,⟨fuel,h1⟩,h2⟩:=trodAll_cons h
  exact ⟨a,b,⟨fuel,trod_again hC hH fuel t X _ _ hX hf h1 (fun q hq=>hs q (List.mem_append_left _ hq))⟩,args_again hC hH hb h2 (fun q hq=>hs q (List.mem_append_right _ hq)),rfl⟩
 | [],_::_,_,_,_,hb,_,_=>by simp [parsB] at hb
 | _::_,[],_,_,_,hb,_,_=>by simp [parsB] at hb
 | _::_,(_,.mut _)::_,_,_,_,hb,_,_=>by simp [parsB] at hb
theorem law_calls [Glob] (hC:CtxOk P C) {f:FuncId} {ps:List (Ty×Mode)} {sem:(pTy ps).den→Option (Ty.pair (rTy [(.bool,0)]) (mTy ps)).den} (hok:FnOk P f ⟨ps,[(.bool,0)],sem⟩)
  (hgl:Glob.ok w (lawLab w)) (hsem:∀ x,WfD (pTy ps) x→∃ m,sem x=some ((true,()),m)) {Xs:List TypeId} (hb:parsB C Xs ps=true) {args:Array Value} {base:Nat} {ds:List (DataW H)} {p:List MemPlace}
  (hval:∀ (j:Nat) t v,Xs[j]? = some t→args[j]? = some v→Value.okWide P w .any base t v) (hA:DataW.TrodAll enc P w 0 (fun _=>true) true Xs args.toList ds p) :
  Calls P f args w (fun e w'=>e = .returned (.bool true)∧w'.os=w.os∧w'.output=w.output∧w.heap.size≤w'.heap.size∧∀ k,k < w.heap.size→w'.heap[k]? = w.heap[k]?):=by
 obtain ⟨x,hx,wx⟩:=args_rep (i:=0) hC hb (fun j t v hj hv=>hval j t v hj (by simpa using hv)) hA
 obtain ⟨m,hm⟩:=hsem x wx
 have hl:Legit w (lawLab w) ps:=by
  refine ⟨fun k hk => ?_,fun k k' s q h => ?_,fun k s q h => ?_,hgl⟩
  ·unfold lawLab; rw [if_neg (by omega)]
  ·unfold lawLab at h; split at h <;> cases h
  ·unfold lawLab at h; split at h <;> cases h
 refine Calls.mono (hok.2 x _ hm w (lawLab w) args hl hx) ?_
 rintro e w' ⟨cs,L',rfl,hleft,hres,_⟩
 have hres:=(ResTop.low (rs:=[(.bool,0)]) rfl).1 hres
 simp only [ResRep] at hres
 obtain ⟨c,cs',cells,rfl,h1,h2,rfl⟩:=hres
 simp only [Own] at h2
 subst h2
 have hc:c = .bool true:=((List.cons.inj h1).1).symm
 subst hc
 exact ⟨rfl,hleft.os,hleft.output,hleft.size,fun k hk=>(hleft.keep k hk (.inl (by unfold lawLab; rw [if_pos hk]))).2⟩
theorem law_post [Glob] {f:Func} {s:ChangeSpec} {apart fresh handsOn again:Bool} {args:Array Value} {ds gs:List (DataW H)} {before:List MemPlace} (hC:CtxOk P C) {ps:List (Ty×Mode)} (hb:parsB C f.params.toList ps=true)
  (hW:DataW.Whole enc P f.params.toList s.vars apart w args.toList ds gs before) (hvars:s.vars=[]) (hs:s.fn H (ds++gs)={ results:=[.lit (.bool true)],args:=ds }) {B:TypeId} (hres:f.resultTypes = #[B]) (hB:P.underlying B=some .bool)
  (hos:w'.os=w.os) (hout:w'.output=w.output) (hH:∀ k,k < w.heap.size→w'.heap[k]? = w.heap[k]?):s.post enc P f apart fresh handsOn again w args (.bool true) w':=by
 have hlt:=hW.lt
 have hW0:=hW
 obtain ⟨p,q,hA,hV,rfl,hz,hn⟩:=hW
 rw [hvars] at hV
 have hq:q=[]∧gs=[]:=by
  cases gs with
  | nil=>exact ⟨hV,rfl⟩
  | cons _ _=>exact hV.elim
 obtain ⟨rfl,rfl⟩:=hq
 have hread:∀ (b:Nat) (sp:Nat→Bool) (hd:Bool),DataW.TrodAll enc P w' b sp hd f.resultTypes.toList ((Value.bool true).resultList f.resultTypes.size) (s.fn H (ds++[])).results []:=by
  intro b sp hd
  rw [hs,hres]
  refine ⟨[],[],⟨1,?_⟩,rfl,rfl⟩
  simp [DataW.trod,hB,Value.cells]
 have hargs:∀ sp:Nat→Bool,(∀ q∈p,sp q.block=true)→DataW.TrodAll enc P w' 0 sp true f.params.toList args.toList (s.fn H (ds++[])).args p:=by
  intro sp h
  rw [hs]
  exact args_again hC hH hb hA h
 have hv:∀ sp:Nat→Bool,DataW.TrodVars enc P w' sp s.vars (s.fn H (ds++[])).vars []:=by
  intro sp
  rw [hs,hvars]
  rfl
 have hkb:w.keptBut w' (fun _=>False):=by
  refine ⟨hos,hout,fun i hi => ?_⟩
  rw [hH i hi]
  split
  ·rename_i h1 h2
   rw [h1] at h2
   cases h2
   exact ⟨rfl,rfl,rfl,fun _ _=>rfl⟩
  ·rename_i h1 h2
   rw [h1] at h2
   cases h2
   exact .inr ⟨rfl,rfl⟩
  ·rfl
 refine ⟨ds,[],p++[],[],p,[],hW0,hread _ _ _,hargs _ (fun q hq=>by simpa using hlt q (by simpa using hq)),hv _,World.keptBut_mono (fun _ h=>h.elim) hkb,fun _ => ?_⟩
 refine ⟨fun j t r hj hr => ?_,_,_,([]++p)++[],⟨[]++p,[],trodAll_append (hargs _ (fun _ _=>rfl)) (hread _ _ _),hv _,rfl,fun b off hp => ?_,fun ha => ?_⟩,fun q hq _=>by simpa using hq⟩
 ·rw [hres] at hj hr
  cases j with
  | zero =>
   simp [Value.resultList] at hj hr
   subst hj hr
   simp [Value.okWide,hB,Cell.okWide,Cell.ok]
  | succ j=>simp at hj
 ·have hp':MemPlace.cell b off∈p++[]:=by simpa using hp
  have hb':b < w.heap.size:=hlt _ hp'
  have:=hz b off hp'
  unfold World.frozen? at this ⊢
  dsimp only at this ⊢
  rw [hH b hb']
  exact this
 ·have:=hn ha
  simpa using this
theorem trodAll_len {base:Nat} {sp:Nat→Bool} {held:Bool}:{ts:List TypeId}→{vs:List Value}→{ds:List (DataW H)}→{p:List MemPlace}→DataW.TrodAll enc P w base sp held ts vs ds p→ds.length=ts.length
 | [],_,_,_,h=>by obtain ⟨_,rfl,_⟩:=trodAll_nil h; rfl
 | _::_,_,_,_,h=>by
  obtain ⟨v,vs1,d,ds1,a,b,rfl,rfl,rfl,_,h2⟩:=trodAll_cons h
  simp [trodAll_len h2]
theorem law_contractG [Glob] (hC:CtxOk P C) {f:FuncId} {fn:Func} {s:ChangeSpec} {apart fresh handsOn again:Bool} {ps:List (Ty×Mode)} {sem:(pTy ps).den→Option (Ty.pair (rTy [(.bool,0)]) (mTy ps)).den}
  (hok:FnOk P f ⟨ps,[(.bool,0)],sem⟩) (hsem:∀ x,WfD (pTy ps) x→∃ m,sem x=some ((true,()),m)) (hb:parsB C fn.params.toList ps=true) (hvars:s.vars=[])
  (hs:∀ ds:List (DataW H),ds.length=fn.params.size→s.fn H ds={ results:=[.lit (.bool true)],args:=ds }) {B:TypeId} (hres:fn.resultTypes = #[B]) (hB:P.underlying B=some .bool)
  (W:World) (base:Nat) (args:Array Value) (ds gs:List (DataW H)) (before:List MemPlace)
  (hval:∀ (j:Nat) t v,fn.params[j]? = some t→args[j]? = some v→Value.okWide P W .any base t v) (hW:DataW.Whole enc P fn.params.toList s.vars apart W args.toList ds gs before) (hgl:Glob.ok W (lawLab W)) :
  Calls P f args W fun e W'=>∃ v,e = .returned v∧s.post enc P fn apart fresh handsOn again W args v W':=by
 have hW0:=hW
 obtain ⟨p,q,hA,hV,rfl,hz,hn⟩:=hW
 have hgs:gs=[]:=by
  rw [hvars] at hV
  cases gs with
  | nil=>rfl
  | cons _ _=>exact hV.elim
 refine Calls.mono (law_calls hC hok hgl hsem hb (fun j t v hj hv=>hval j t v (by simpa using hj) hv) hA) ?_
 rintro e W' ⟨rfl,h1,h2,h3,h4⟩
 refine ⟨_,rfl,law_post hC hb hW0 hvars ?_ hres hB h1 h2 h4⟩
 rw [hgs,List.append_nil]
 exact hs ds (by have:=trodAll_len hA; simpa using this)
theorem law_contract [Glob] (hC:CtxOk P C) {f:FuncId} {fn:Func} {s:ChangeSpec} {apart fresh handsOn again:Bool} {ps:List (Ty×Mode)} {sem:(pTy ps).den→Option (Ty.pair (rTy [(.bool,0)]) (mTy ps)).den}
  (hok:FnOk P f ⟨ps,[(.bool,0)],sem⟩) (hsem:∀ x,WfD (pTy ps) x→∃ m,sem x=some ((true,()),m)) (hgl:∀ w,Glob.ok w (lawLab w)) (hb:parsB C fn.params.toList ps=true) (hvars:s.vars=[])
  (hs:∀ ds:List (DataW H),ds.length=fn.params.size→s.fn H ds={ results:=[.lit (.bool true)],args:=ds }) {B:TypeId} (hres:fn.resultTypes = #[B]) (hB:P.underlying B=some .bool)
  (W:World) (base:Nat) (args:Array Value) (ds gs:List (DataW H)) (before:List MemPlace)
  (hval:∀ (j:Nat) t v,fn.params[j]? = some t→args[j]? = some v→Value.okWide P W .any base t v) (hW:DataW.Whole enc P fn.params.toList s.vars apart W args.toList ds gs before) :
  Calls P f args W fun e W'=>∃ v,e = .returned v∧s.post enc P fn apart fresh handsOn again W args v W' :=
 law_contractG hC hok hsem hb hvars hs hres hB W base args ds gs before hval hW (hgl W)
end
end Go.Proofs.YtkanidldnnfloaaGreat.P.Am
set_option linter.unusedVariables false
namespace Go.Proofs.YtkanidldnnfloaaGreat.P.Am
noncomputable def turnB (E:Env) {R:Type} (c:Code) (k:Ex→List V→Option R) (self:List V→Option R) (T:List V):Option R:=denK E c (fun e T'=>match e with
 | .nrm=>keepK (E.keep (loopKey c)) T' self
 | .ext i=>k (.ext i) T'
 | .ret=>k .ret T') T
noncomputable def contAt (E:Env) {R:Type}:List Nat→Code→(Ex→List V→Option R)→Code×(Ex→List V→Option R)
 | [],c,k=>(c,k)
 | 0::p,.seq a b,k=>contAt E p a (fun e T'=>match e with
  | .nrm=>keepK (E.keep (joinKey b)) T' (denK E b k)
  | .ext i=>k (.ext i) T'
  | .ret=>k .ret T')
 | 1::p,.seq a b,k=>contAt E p b k
 | 0::p,.cond _ a b,k=>contAt E p a k
 | 1::p,.cond _ a b,k=>contAt E p b k
 | 0::p,.block id c,k=>contAt E p c (fun e T'=>match e with
  | .nrm=>k .nrm T'
  | .ext i=>cond (i == id) (k .nrm T') (k (.ext i) T')
  | .ret=>k .ret T')
 | 0::p,.loop c,k=>contAt E p c (fun e T'=>match e with
  | .nrm=>keepK (E.keep (loopKey c)) T' (fixO (turnB E c k))
  | .ext i=>k (.ext i) T'
  | .ret=>k .ret T')
 | _,c,k=>(.skip,k)
noncomputable def loopAt0 (E:Env) {R:Type} (p:List Nat) (c:Code) (k:Ex→List V→Option R) (T:List V):Option R :=
 match contAt E p c k with
 | (.loop c',k')=>fixO (turnB E c' k') T
 | _=>none
noncomputable def shut {α:Type} (a:α):α:=Classical.choose (⟨a,rfl⟩:∃ x,x=a)
theorem shut_eq {α:Type} (a:α):shut a=a:=Classical.choose_spec (⟨a,rfl⟩:∃ x,x=a)
noncomputable def loopAt (E:Env) {R:Type} (p:List Nat) (c:Code) (k:Ex→List V→Option R) (T:List V):Option R:=shut (loopAt0 E p c k) T
noncomputable def turnAt (E:Env) {R:Type} (p:List Nat) (c:Code) (k:Ex→List V→Option R) (T:List V):Option R :=
 match contAt E p c k with
 | (.loop c',k')=>turnB E c' k' (fixO (turnB E c' k')) T
 | _=>none
theorem loopAt_eq [Glob] {R:Type} (E:Env) (p:List Nat) (c:Code) (k:Ex→List V→Option R) (T:List V):loopAt E p c k T=turnAt E p c k T:=by
 unfold loopAt
 rw [shut_eq]
 unfold loopAt0 turnAt
 split
 ·exact fixO_eq (turn_tail _) T
 ·rfl
noncomputable def joinAt0 (E:Env) {R:Type} (p:List Nat) (c:Code) (k:Ex→List V→Option R) (T:List V):Option R :=
 match contAt E p c k with
 | (c',k')=>denK E c' k' T
noncomputable def joinAt (E:Env) {R:Type} (p:List Nat) (c:Code) (k:Ex→List V→Option R) (T:List V):Option R:=shut (joinAt0 E p c k) T
theorem loop_eq [Glob] {E:Env} {R:Type} {c:Code} {k:Ex→List V→Option R} (T:List V):fixO (turnB E c k) T=turnB E c k (fixO (turnB E c k)) T:=fixO_eq (turn_tail k) T
end Go.Proofs.YtkanidldnnfloaaGreat.P.Am
set_option linter.unusedVariables false
set_option linter.unusedSimpArgs false
namespace Go.Proofs.YtkanidldnnfloaaGreat.P.Am
def lookP:List (Nat×List Nat)→Nat→Option (List Nat)
 | [],_=>none
 | (k,p)::l,key=>cond (k == key) (some p) (lookP l key)
def setC {α:Type}:List V→Nat→V→(List V→α)→α
 | [],_,_,K=>K []
 | _::l,0,v,K=>K (v::l)
 | a::l,n+1,v,K=>setC l n v fun l'=>K (a::l')
theorem setC_eq {α:Type}:(T:List V)→(i:Nat)→(v:V)→(K:List V→α)→setC T i v K=K (T.set i v)
 | [],_,_,_=>rfl
 | _::_,0,_,_=>rfl
 | a::l,n+1,v,K=>by simp only [setC,List.set_cons_succ]; rw [setC_eq l n v]
def setAllC {α:Type}:List (Nat×V)→List V→(List V→α)→α
 | [],T,K=>K T
 | u::l,T,K=>setC T u.1 u.2 fun T'=>setAllC l T' K
theorem setAllC_eq [Glob] {α:Type}:(ups:List (Nat×V))→(T:List V)→(K:List V→α)→setAllC ups T K=K (setAll T ups)
 | [],_,_=>rfl
 | u::l,T,K=>by
  simp only [setAllC]
  rw [setC_eq,setAllC_eq l]
  rfl
def forceC {α:Type}:List V→(List V→α)→α
 | [],K=>K []
 | a::l,K=>forceC l fun l'=>K (a::l')
theorem forceC_eq {α:Type}:(T:List V)→(K:List V→α)→forceC T K=K T
 | [],_=>rfl
 | a::l,K=>by simp only [forceC]; rw [forceC_eq l]
def keepC {α:Type} (ks:Nat):Nat→List V→(List V→α)→α
 | _,[],K=>K []
 | i,v::l,K=>cond (ks.testBit i) (keepC ks (i+1) l fun l'=>K (v::l')) (keepC ks (i+1) l fun l'=>K (.dead::l'))
theorem keepC_eq {α:Type} (ks:Nat):(i:Nat)→(T:List V)→(K:List V→α)→keepC ks i T K=K (keepL ks i T)
 | _,[],_=>rfl
 | i,v::l,K=>by
  simp only [keepC,keepL]
  cases ks.testBit i with
  | true=>simp only [cond_true]; rw [keepC_eq ks (i+1) l]
  | false=>simp only [cond_false]; rw [keepC_eq ks (i+1) l]
def frzC {α:Type} (k:Nat) (v:V) (K:V→α):α:=match v with
 | .d l n t x=>K (.d l (min k n) t x)
 | .box l n t x=>K (.box l (min k n) t x)
 | v=>K v
theorem frzC_eq {α:Type} (k:Nat) (v:V) (K:V→α):frzC k v K=K (frzV k v):=by cases v <;> rfl
def iceC {α:Type} (m:Nat):Nat→List V→(List V→α)→α
 | _,[],K=>K []
 | i,v::l,K=>cond (m.testBit (1000+i)) (frzC 0 v fun v'=>iceC m (i+1) l fun l'=>K (v'::l')) (cond (m.testBit (2000+i)) (frzC 1 v fun v'=>iceC m (i+1) l fun l'=>K (v'::l')) (iceC m (i+1) l fun l'=>K (v::l')))
theorem iceC_eq [Glob] {α:Type} (m:Nat):(i:Nat)→(T:List V)→(K:List V→α)→iceC m i T K=K (iceL m i T)
 | _,[],_=>rfl
 | i,v::l,K=>by
  simp only [iceC,iceL]
  cases m.testBit (1000+i) with
  | true=>simp only [cond_true]; rw [frzC_eq,iceC_eq m (i+1) l]
  | false =>
   simp only [cond_false]
   cases m.testBit (2000+i) with
   | true=>simp only [cond_true]; rw [frzC_eq,iceC_eq m (i+1) l]
   | false=>simp only [cond_false]; rw [iceC_eq m (i+1) l]
def keepF {R:Type} (ks:Option Nat) (T:List V) (K:List V→Option R):Option R :=
 match ks with
 | none=>K T
 | some m=>cond (keepOk m T 0 T) (cond (decide (m < 2 ^ 1000)) (keepC m 0 T K) (keepC m 0 T fun T'=>cond (iceOk m T' 0 T') (iceC m 0 T' K) none)) none
theorem keepF_eq [Glob] {R:Type} (ks:Option Nat) (T:List V) (K:List V→Option R):keepF ks T K=keepK ks T K:=by
 cases ks with
 | none=>rfl
 | some m=>simp only [keepF,keepK,keepC_eq,iceC_eq]
def opsF {R:Type} (E:Env) (ops:Array Oper) (draw:Bool) (K:List V→Option R) (T0:List V):List Oper→List V→List Rec→Option R
 | [],T,recs=>cond (!draw || (backB 0 ops.toList && tiedB (preds ops.toList []) [] (recs.map fun r=>(mask r.rd,mask r.wr)) && asksB T0 recs && decide (E.N≤tagK))) (K T) none
 | o::l,T,recs=>cond (pinOk E o) (match o.guard with
  | none=>(E.step o).runK T [] fun log ups=>setAllC ups T fun T=>opsF E ops draw K T0 l T (recs++[(log,ups)])
  | some (j,want)=>match (ops[j]?).bind (·.dst) with
   | none=>none
   | some g=>match T.getD g .dead with
    | .d l0 n0 .bool b=>cond b
      (setC T g (.d l0 n0 .bool true) fun T=>cond want
       ((E.step o).runK T [g] fun log ups=>setAllC ups T fun T=>opsF E ops draw K T0 l T (recs++[(log,ups)]))
       ((skipUps E o T).bind fun u=>setAllC u.2 T fun T=>opsF E ops draw K T0 l T (recs++[(g::u.1,u.2)])))
      (setC T g (.d l0 n0 .bool false) fun T=>cond want
       ((skipUps E o T).bind fun u=>setAllC u.2 T fun T=>opsF E ops draw K T0 l T (recs++[(g::u.1,u.2)]))
       ((E.step o).runK T [g] fun log ups=>setAllC ups T fun T=>opsF E ops draw K T0 l T (recs++[(log,ups)])))
    | .tup []=>(skipUps E o T).bind fun u=>setAllC u.2 T fun T=>opsF E ops draw K T0 l T (recs++[(g::u.1,u.2)])
    | _=>none) none
theorem opsF_eq [Glob] {R:Type} (E:Env) (ops:Array Oper) (draw:Bool) (K:List V→Option R) (T0:List V):(l:List Oper)→(T:List V)→(recs:List Rec)→opsF E ops draw K T0 l T recs=opsK E ops draw K T0 l T recs
 | [],T,recs=>rfl
 | o::l,T,recs=>by
  simp only [opsF,opsK,setAllC_eq,setC_eq,opsF_eq E ops draw K T0 l]
  rfl
section
variable (E:Env) {R:Type} (js:List (Nat×List Nat)) (c0:Code) (K0:Ex→List V→Option R)
noncomputable def restN (key:Nat) (f:List V→Option R):List V→Option R :=
 match lookP js key with
 | some p=>joinAt E p c0 K0
 | none=>f
noncomputable def loopN (key:Nat) (f:List V→Option R):List V→Option R :=
 match lookP js key with
 | some p=>loopAt E p c0 K0
 | none=>f
noncomputable def denE:Code→(Ex→List V→Option R)→List V→Option R
 | .skip,k,T=>k .nrm T
 | .label _,k,T=>k .nrm T
 | .region id ops draw,k,T=>keepF (E.keep id) T fun T=>opsF E ops draw (k .nrm) T ops.toList T []
 | .seq a b,k,T=>denE a (fun e T'=>match e with
  | .nrm=>keepF (E.keep (joinKey b)) T' (restN E js c0 K0 (joinKey b) (denE b k))
  | .ext i=>k (.ext i) T'
  | .ret=>k .ret T') T
 | .cond (.tmp t) a b,k,T=>match T.getD t .dead with
  | .d l0 n0 .bool x=>cond x (setC T t (.d l0 n0 .bool true) (denE a k)) (setC T t (.d l0 n0 .bool false) (denE b k))
  | _=>none
 | .block id c,k,T=>denE c (fun e T'=>match e with
  | .nrm=>k .nrm T'
  | .ext i=>cond (i == id) (k .nrm T') (k (.ext i) T')
  | .ret=>k .ret T') T
 | .exit id,k,T=>k (.ext id) T
 | .loop c,k,T=>keepF (E.keep (loopKey c)) T (loopN E js c0 K0 (loopKey c) (fixO (turnB E c k)))
 | .ret,k,T=>k .ret T
 | _,_,_=>none
noncomputable def contE:List Nat→Code→(Ex→List V→Option R)→Code×(Ex→List V→Option R)
 | [],c,k=>(c,k)
 | 0::p,.seq a b,k=>contE p a (fun e T'=>match e with
  | .nrm=>keepF (E.keep (joinKey b)) T' (restN E js c0 K0 (joinKey b) (denE E js c0 K0 b k))
  | .ext i=>k (.ext i) T'
  | .ret=>k .ret T')
 | 1::p,.seq a b,k=>contE p b k
 | 0::p,.cond _ a b,k=>contE p a k
 | 1::p,.cond _ a b,k=>contE p b k
 | 0::p,.block id c,k=>contE p c (fun e T'=>match e with
  | .nrm=>k .nrm T'
  | .ext i=>cond (i == id) (k .nrm T') (k (.ext i) T')
  | .ret=>k .ret T')
 | 0::p,.loop c,k=>contE p c (fun e T'=>match e with
  | .nrm=>keepF (E.keep (loopKey c)) T' (loopN E js c0 K0 (loopKey c) (fixO (turnB E c k)))
  | .ext i=>k (.ext i) T'
  | .ret=>k .ret T')
 | _,c,k=>(.skip,k)
noncomputable def joinE (p:List Nat) (T:List V):Option R :=
 match contE E js c0 K0 p c0 K0 with
 | (c',k')=>forceC T fun T=>denE E js c0 K0 c' k' T
end
def okB (js:List (Nat×List Nat)):Code→List Nat→Bool
 | .seq a b,q=>(match lookP js (joinKey b) with
  | none=>true
  | some p=>p == q++[1]) && (okB js a (q++[0]) && okB js b (q++[1]))
 | .cond _ a b,q=>okB js a (q++[0]) && okB js b (q++[1])
 | .block _ c,q=>okB js c (q++[0])
 | .loop c,q=>(match lookP js (loopKey c) with
  | none=>true
  | some p=>p == q) && okB js c (q++[0])
 | _,_=>true
section
variable {E:Env} {R:Type} {js:List (Nat×List Nat)} {c0:Code} {K0:Ex→List V→Option R}
theorem contAt_snoc (i:Nat):∀ (p:List Nat) (c:Code) (k:Ex→List V→Option R),contAt E (p++[i]) c k=contAt E [i] (contAt E p c k).1 (contAt E p c k).2
 | [],c,k=>by simp only [List.nil_append,contAt]
 | j::p,c,k=>by
  have hs:∀ k:Ex→List V→Option R,contAt E [i] .skip k=(.skip,k):=fun k=>by
   match i with
   | 0=>rfl
   | 1=>rfl
   | _+2=>rfl
  match j,c with
  | 0,.seq a b=>simp only [List.cons_append,contAt]; exact contAt_snoc i p a _
  | 1,.seq a b=>simp only [List.cons_append,contAt]; exact contAt_snoc i p b _
  | 0,.cond _ a b=>simp only [List.cons_append,contAt]; exact contAt_snoc i p a _
  | 1,.cond _ a b=>simp only [List.cons_append,contAt]; exact contAt_snoc i p b _
  | 0,.block _ c=>simp only [List.cons_append,contAt]; exact contAt_snoc i p c _
  | 0,.loop c=>simp only [List.cons_append,contAt]; exact contAt_snoc i p c _
  | 1,.block _ _ | 1,.loop _=>exact (hs k).symm
  | 0,.skip | 0,.label _ | 0,.region .. | 0,.exit _ | 0,.ret | 0,.rangeFunc .. | 0,.scope _ | 0,.goto _ | 0,.refuse _=>exact (hs k).symm
  | 1,.skip | 1,.label _ | 1,.region .. | 1,.exit _ | 1,.ret | 1,.rangeFunc .. | 1,.scope _ | 1,.goto _ | 1,.refuse _=>exact (hs k).symm
  | _+2,_=>exact (hs k).symm
theorem at0_seq [Glob] {q:List Nat} {a b:Code} {k:Ex→List V→Option R} (h:contAt E q c0 K0=(.seq a b,k)):contAt E (q++[0]) c0 K0=(a,fun e T'=>match e with
  | .nrm=>keepK (E.keep (joinKey b)) T' (denK E b k)
  | .ext i=>k (.ext i) T'
  | .ret=>k .ret T')∧contAt E (q++[1]) c0 K0=(b,k):=by
 constructor
 ·rw [contAt_snoc,h]; rfl
 ·rw [contAt_snoc,h]; rfl
theorem restN_eq [Glob] {q:List Nat} {b:Code} {k:Ex→List V→Option R} {f:List V→Option R} (h:contAt E q c0 K0=(b,k)) (hf:f=denK E b k)
  (hok:(match lookP js (joinKey b) with | none=>true | some p=>p == q)=true):restN E js c0 K0 (joinKey b) f=denK E b k:=by
 unfold restN
 split at hok
 ·rename_i hn; rw [hn]; exact hf
 ·rename_i p hp
  rw [hp]
  rw [beq_iff_eq] at hok
  subst hok
  funext T
  simp only [joinAt,shut_eq,joinAt0,h]
theorem loopN_eq [Glob] {q:List Nat} {c:Code} {k:Ex→List V→Option R} {f:List V→Option R} (h:contAt E q c0 K0=(.loop c,k)) (hf:f=fixO (turnB E c k))
  (hok:(match lookP js (loopKey c) with | none=>true | some p=>p == q)=true):loopN E js c0 K0 (loopKey c) f=fixO (turnB E c k):=by
 unfold loopN
 split at hok
 ·rename_i hn; rw [hn]; exact hf
 ·rename_i p hp
  rw [hp]
  rw [beq_iff_eq] at hok
  subst hok
  funext T
  simp only [loopAt,shut_eq,loopAt0,h]
theorem denE_eq [Glob]:(c:Code)→(k:Ex→List V→Option R)→(q:List Nat)→contAt E q c0 K0=(c,k)→okB js c q=true→denE E js c0 K0 c k=denK E c k
 | .skip,k,q,h,hok=>rfl
 | .label _,k,q,h,hok=>rfl
 | .region id ops draw,k,q,h,hok=>by
  funext T
  simp only [denE,denK,keepF_eq,opsF_eq]
 | .exit _,k,q,h,hok=>rfl
 | .ret,k,q,h,hok=>rfl
 | .seq a b,k,q,h,hok=>by
  simp only [okB,Bool.and_eq_true] at hok
  obtain ⟨h1,h2,h3⟩:=hok
  obtain ⟨e0,e1⟩:=at0_seq h
  have ib:=denE_eq b k (q++[1]) e1 h3
  have ia:=denE_eq a _ (q++[0]) e0 h2
  funext T
  simp only [denE,denK,keepF_eq]
  rw [restN_eq e1 ib h1]
  exact congrFun ia T
 | .cond c a b,k,q,h,hok=>by
  simp only [okB,Bool.and_eq_true] at hok
  have e0:contAt E (q++[0]) c0 K0=(a,k):=by rw [contAt_snoc,h]; rfl
  have e1:contAt E (q++[1]) c0 K0=(b,k):=by rw [contAt_snoc,h]; rfl
  have ia:=denE_eq a _ (q++[0]) e0 hok.1
  have ib:=denE_eq b _ (q++[1]) e1 hok.2
  funext T
  cases c <;> simp only [denE,denK,ia,ib,setC_eq] <;> rfl
 | .block id c,k,q,h,hok=>by
  simp only [okB] at hok
  have e0:contAt E (q++[0]) c0 K0=(c,fun e T'=>match e with
   | .nrm=>k .nrm T'
   | .ext i=>cond (i == id) (k .nrm T') (k (.ext i) T')
   | .ret=>k .ret T'):=by rw [contAt_snoc,h]; rfl
  have ic:=denE_eq c _ (q++[0]) e0 hok
  funext T
  simp only [denE,denK]
  exact congrFun ic T
 | .loop c,k,q,h,hok=>by
  simp only [okB,Bool.and_eq_true] at hok
  funext T
  simp only [denE,denK,keepF_eq]
  rw [loopN_eq h rfl hok.1]
  rfl
 | .rangeFunc ..,k,q,h,hok=>rfl
 | .scope _,k,q,h,hok=>rfl
 | .goto _,k,q,h,hok=>rfl
 | .refuse _,k,q,h,hok=>rfl
theorem contE_eq [Glob]:(p:List Nat)→(c:Code)→(k:Ex→List V→Option R)→(q:List Nat)→contAt E q c0 K0=(c,k)→okB js c q=true→contE E js c0 K0 p c k=contAt E p c k∧okB js (contAt E p c k).1 (q++p)=true∧contAt E (q++p) c0 K0=contAt E p c k
 | [],c,k,q,h,hok=>⟨rfl,by simpa [contAt] using hok,by simpa [contAt] using h⟩
 | j::p,c,k,q,h,hok=>by
  have hs:∀ k:Ex→List V→Option R,contE E js c0 K0 (j::p) c k=(.skip,k)→contAt E (j::p) c k=(.skip,k)→contAt E (q++j::p) c0 K0=contAt E (j::p) c k→contE E js c0 K0 (j::p) c k=contAt E (j::p) c k∧okB js (contAt E (j::p) c k).1 (q++j::p)=true∧contAt E (q++j::p) c0 K0=contAt E (j::p) c k:=fun k h1 h2 h3=>by
   refine ⟨by rw [h1,h2],by rw [h2]; rfl,h3⟩
  have hcat:contAt E (q++j::p) c0 K0=contAt E (j::p) c k:=by
   have gen:∀ (n:Nat) (p q:List Nat) (c:Code) (k:Ex→List V→Option R),p.length=n→contAt E q c0 K0=(c,k)→contAt E (q++p) c0 K0=contAt E p c k:=by
    intro n
    induction n with
    | zero =>
     intro p q c k hp h
     obtain rfl:=List.eq_nil_of_length_eq_zero hp
     simpa [contAt] using h
    | succ n ih =>
     intro p q c k hp h
     have hne:p≠[]:=by rintro rfl; simp at hp
     obtain ⟨p0,i,rfl⟩:∃ p0 i,p=p0++[i]:=⟨p.dropLast,p.getLast hne,(List.dropLast_concat_getLast hne).symm⟩
     rw [← List.append_assoc,contAt_snoc,ih p0 q c k (by simp at hp; omega) h,← contAt_snoc]
   exact gen _ _ q c k rfl h
  have hq:q++j::p=(q++[j])++p:=by simp
  match j,c with
  | 0,.seq a b =>
   simp only [okB,Bool.and_eq_true] at hok
   obtain ⟨h1,h2,h3⟩:=hok
   obtain ⟨e0,e1⟩:=at0_seq h
   have ib:=denE_eq b k (q++[1]) e1 h3
   have ia:=contE_eq p a _ (q++[0]) e0 h2
   rw [hq]
   simp only [contE,contAt,keepF_eq]
   rw [restN_eq e1 ib h1]
   exact ia
  | 1,.seq a b =>
   simp only [okB,Bool.and_eq_true] at hok
   have ia:=contE_eq p b _ (q++[1]) (at0_seq h).2 hok.2.2
   rw [hq]
   simp only [contE,contAt]
   exact ia
  | 0,.cond _ a b =>
   simp only [okB,Bool.and_eq_true] at hok
   have ia:=contE_eq p a _ (q++[0]) (by rw [contAt_snoc,h]; rfl) hok.1
   rw [hq]
   simp only [contE,contAt]
   exact ia
  | 1,.cond _ a b =>
   simp only [okB,Bool.and_eq_true] at hok
   have ia:=contE_eq p b _ (q++[1]) (by rw [contAt_snoc,h]; rfl) hok.2
   rw [hq]
   simp only [contE,contAt]
   exact ia
  | 0,.block id c =>
   simp only [okB] at hok
   have ia:=contE_eq p c _ (q++[0]) (by rw [contAt_snoc,h]; rfl) hok
   rw [hq]
   simp only [contE,contAt]
   exact ia
  | 0,.loop c =>
   simp only [okB,Bool.and_eq_true] at hok
   have ia:=contE_eq p c _ (q++[0]) (by rw [contAt_snoc,h]; rfl) hok.2
   rw [hq]
   simp only [contE,contAt,keepF_eq]
   rw [loopN_eq h rfl hok.1]
   exact ia
  | 1,.block _ _ | 1,.loop _=>exact hs k rfl rfl hcat
  | 0,.skip | 0,.label _ | 0,.region .. | 0,.exit _ | 0,.ret | 0,.rangeFunc .. | 0,.scope _ | 0,.goto _ | 0,.refuse _=>exact hs k rfl rfl hcat
  | 1,.skip | 1,.label _ | 1,.region .. | 1,.exit _ | 1,.ret | 1,.rangeFunc .. | 1,.scope _ | 1,.goto _ | 1,.refuse _=>exact hs k rfl rfl hcat
  | _+2,_=>exact hs k rfl rfl hcat
theorem join_eq [Glob] (hok:okB js c0 []=true) (p:List Nat) (T:List V):joinAt E p c0 K0 T=joinE E js c0 K0 p T:=by
 obtain ⟨h1,h2,h3⟩:=contE_eq (E:=E) (js:=js) (c0:=c0) (K0:=K0) p c0 K0 [] rfl hok
 rw [List.nil_append] at h2 h3
 unfold joinAt
 rw [shut_eq]
 unfold joinAt0 joinE
 rw [h1]
 simp only [forceC_eq]
 exact (congrFun (denE_eq _ _ p h3 h2) T).symm
theorem all_eq [Glob] (hok:okB js c0 []=true) (T:List V):denK E c0 K0 T=joinE E js c0 K0 [] T:=by
 rw [← join_eq hok]
 unfold joinAt
 rw [shut_eq]
 rfl
def isLoop:Code→Bool
 | .loop _=>true
 | _=>false
theorem turn_eq [Glob] (hok:okB js c0 []=true) (p:List Nat) (hl:isLoop (contAt E p c0 K0).1=true) (T:List V):loopAt E p c0 K0 T=joinE E js c0 K0 (p++[0]) T:=by
 rw [← join_eq hok,loopAt_eq]
 unfold turnAt joinAt
 rw [shut_eq]
 unfold joinAt0
 rw [contAt_snoc]
 generalize contAt E p c0 K0=ck at hl
 obtain ⟨c,k⟩:=ck
 cases c <;> first | rfl | cases hl
end
def dd:Nat→List V→List V
 | 0,l=>l
 | n+1,l => .dead::dd n l
end Go.Proofs.YtkanidldnnfloaaGreat.P.Am
set_option linter.unusedVariables false
set_option linter.unusedSimpArgs false
namespace Go.Proofs.YtkanidldnnfloaaGreat.P.Am
open Go.Sort
structure OrdOn {α:Type} (V:α→Prop) (cf:α→α→Int):Prop where
 irrefl:∀ x,V x→¬ cf x x < 0
 trans:∀ x y z,V x→V y→V z→cf x y < 0→cf y z < 0→cf x z < 0
 ntrans:∀ x y z,V x→V y→V z→¬ cf x y < 0→¬ cf y z < 0→¬ cf x z < 0
 anti:∀ x y,V x→V y→¬ cf x y < 0→¬ cf y x < 0→x=y
def sortBy {α:Type} (cf:α→α→Int) (l:List α):List α:=l.mergeSort fun x y => !decide (cf y x < 0)
theorem sortBy_perm {α:Type} (cf:α→α→Int) (l:List α):(sortBy cf l).Perm l:=List.mergeSort_perm _ _
theorem sortBy_pairwise {α:Type} {V:α→Prop} {cf:α→α→Int} (h:OrdOn V cf) {l:List α} (hV:∀ a∈l,V a):(sortBy cf l).Pairwise fun x y=>¬ cf y x < 0:=by
 have e:l=(l.attachWith V hV).map (·.1):=by simp
 have e2:sortBy cf l=((l.attachWith V hV).mergeSort fun x y => !decide (cf y.1 x.1 < 0)).map (·.1):=by
  rw [List.map_mergeSort (s:=fun x y => !decide (cf y x < 0)) (fun _ _ _ _=>rfl),← e]
  rfl
 rw [e2,List.pairwise_map]
 have:=List.pairwise_mergeSort (le:=fun x y:{a // V a} => !decide (cf y.1 x.1 < 0)) (fun a b c h1 h2=>by
   simp only [Bool.not_eq_true',decide_eq_false_iff_not] at h1 h2 ⊢
   exact h.ntrans _ _ _ c.2 b.2 a.2 h2 h1) (fun a b=>by
   simp only [Bool.or_eq_true,Bool.not_eq_true',decide_eq_false_iff_not]
   by_cases h1:cf b.1 a.1 < 0
   ·exact .inr fun h2=>h.irrefl _ a.2 (h.trans _ _ _ a.2 b.2 a.2 h2 h1)
   ·exact .inl h1) (l.attachWith V hV)
 exact this.imp (by simp)
theorem sortBy_unique {α:Type} {V:α→Prop} {cf:α→α→Int} (h:OrdOn V cf) {l l':List α} (hV:∀ a∈l,V a) (hp:l'.Perm l) (hs:l'.Pairwise fun x y=>¬ cf y x < 0):l'=sortBy cf l:=by
 refine List.Perm.eq_of_pairwise (le:=fun x y=>¬ cf y x < 0) (fun a b ha hb h1 h2 => ?_) hs (sortBy_pairwise h hV) (hp.trans (sortBy_perm cf l).symm)
 exact h.anti a b (hV a (hp.mem_iff.1 ha)) (hV b ((sortBy_perm cf l).mem_iff.1 hb)) h2 h1
theorem reads_grow [Glob] {P:Program} {g:FuncId} {u:Ty} {sem2:(pTy [(.agg u,.ro),(.agg u,.ro)]).den→Option (Ty.pair (rTy [(.int .i64,0)]) (mTy [(.agg u,.ro),(.agg u,.ro)])).den}
  (hg:FnOk P g ⟨[(.agg u,.ro),(.agg u,.ro)],[(.int .i64,0)],sem2⟩) {w:World} {x y:u.den} {cx cy:List Value} {c:Int}
  (hx:Rd w (fun k=>k < w.heap.size) u x cx) (hy:Rd w (fun k=>k < w.heap.size) u y cy) (he:sem2 (x,(y,()))=some ((c,()),())) (hgl:Glob.ok w (fun k=>if k < w.heap.size then .stable else .free)) :
  Calls P g #[.agg cx.toArray,.agg cy.toArray] w (fun e w'=>e = .returned (.int .i64 c)∧∃ q os',w'=grow (w.drewN q) os'):=by
 have hst:∀ k,k < w.heap.size→(if k < w.heap.size then Lab.stable else Lab.free)=Lab.stable:=fun k hk=>if_pos hk
 refine Calls.mono (hg.2 (x,(y,())) _ he w (fun k=>if k < w.heap.size then .stable else .free) #[.agg cx.toArray,.agg cy.toArray] ⟨fun k hk=>if_neg (by omega),fun k k' s q h => ?_,fun k s q h => ?_,hgl⟩ ?_) ?_
 ·split at h <;> cases h
 ·split at h <;> cases h
 ·exact ⟨_,_,cx,rfl,rfl,Own.of_rd (Rd.move (fun k hk=>⟨if_pos hk,rfl⟩) hx),_,_,cy,rfl,rfl,Own.of_rd (Rd.move (fun k hk=>⟨if_pos hk,rfl⟩) hy),rfl⟩
 ·rintro e w' ⟨cs,L',rfl,hl,hr,_⟩
  have hr:=(ResTop.low (rs:=[(.int .i64,0)]) rfl).1 hr
  simp only [ResRep] at hr
  obtain ⟨c1,cs',cells,rfl,h1,h2,rfl⟩:=hr
  simp only [Own] at h2
  subst h2
  have hc:=(List.cons.inj h1).1
  subst hc
  refine ⟨rfl,w'.drawn - w.drawn,w'.heap.extract w.heap.size,?_⟩
  have hd:=hl.drawn
  have hz:=hl.size
  have hh:w'.heap=w.heap++w'.heap.extract w.heap.size:=by
   apply Array.ext_getElem?
   intro k
   rw [Array.getElem?_append]
   split
   ·rename_i hk
    exact (hl.keep k hk (.inl (if_pos hk))).2
   ·rename_i hk
    rw [Array.getElem?_extract]
    split
    ·congr 1; omega
    ·rw [Array.getElem?_eq_none (by omega)]
  have h1:=hl.os
  have h2:=hl.tape
  have h3:=hl.output
  obtain ⟨heap',tape',drawn',os',out'⟩:=w'
  simp only at hd hh h1 h2 h3
  subst h1 h2 h3
  unfold grow World.drewN
  simp only [World.mk.injEq,true_and,and_true]
  exact ⟨hh,by omega⟩
end Go.Proofs.YtkanidldnnfloaaGreat.P.Am
