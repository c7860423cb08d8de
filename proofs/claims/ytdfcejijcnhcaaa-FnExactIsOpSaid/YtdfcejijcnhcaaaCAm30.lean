/- A part of the proof: Am30. No conditions. -/
import Derived.Test.YtdfcejijcnhcaaaCAm45
set_option linter.unusedVariables false
set_option linter.unusedSimpArgs false
namespace Go.Proofs.Ytdfcejijcnhcaaa.C.Am

/-! ## 30. All steps -/
def idleM (N d : Nat) (m : M (List (Nat × V))) : M (List (Nat × V)) := .get d fun v => .chk (v.idle && decide (d < N)) m

def pureUps (C : Ctx) (vs : List Nat) (d : Nat) (o : Oper) : M (List (Nat × V)) := (pureM C o).bind fun v => .chk (okOn vs v) (.ret [(d, v)])

/-- The greater, or the less, of two integers. -/
def maxUps (C : Ctx) (d : Nat) (mx : Bool) (args : List Operand) : M (List (Nat × V)) :=
  match args with
  | [x, y] => (opnd C 0 x).bind fun u => (opnd C 0 y).bind fun v => match u, v with
    | .d _ _ (.int k) m, .d _ _ (.int _) n => .ret [(d, .d none 0 (.int k) (cond mx (if m < n then n else m) (if n < m then n else m)))]
    | _, _ => .fail
  | _ => .fail

/-- A new variable that holds a value. -/
def boxUps (C : Ctx) (vs : List Nat) (X : TypeId) (d : Nat) (x : Operand) : M (List (Nat × V)) :=
  (opnd C X x).bind fun v => match v with
  | .d l k t y => if C.ty X = some t ∧ (k = 0 ∨ t.depth = 0) then .chk (okOn vs (.box l 0 t y)) (.ret [(d, .box l 0 t y)]) else .fail
  | _ => .fail

/-- A move: a tuple is parted, all else as ever. -/
def moveUps (C : Ctx) (vs : List Nat) (N d : Nat) (X : TypeId) (x : Operand) (hx : Nat → Nat → Option Nat) : M (List (Nat × V)) :=
  match x with
  | .tmp s => .get s fun v => match v with
    | .tup _ => .chk (decide (d < N)) (tupUps vs N d s (hx d))
    | _ => assignM C vs N d X x
  | _ => assignM C vs N d X x

def tmpsOf : List Operand → List Nat
  | [] => []
  | .tmp s :: l => s :: tmpsOf l
  | _ :: l => tmpsOf l

/-- The slots of an append that are given away. -/
def appTmps (C : Ctx) (X : TypeId) (s x : Operand) : List Nat :=
  match C.ty X with
  | some (.slice _ t) => if t.depth = 0 then tmpsOf [s] else tmpsOf [s, x]
  | _ => []

/-- What a function's text tells ahead: where a tuple's part waits, which slots are variables in memory, what may speak of a variable's memory. -/
structure Hints where
  hx : Nat → Nat → Option Nat
  bx : Nat → Bool
  kids : Nat → List Nat

def storeH (C : Ctx) (vs : List Nat) (N : Nat) (hx : Hints) (X : TypeId) (t : Nat) (x : Operand) : M (List (Nat × V)) :=
  .get t fun v => match addrOf t v with
  | none => .fail
  | some (r, p) => .get r fun u => match u with
    | .hole u' p' => fillM C vs N (hx.kids r) X r p u' p' x
    | _ => match p with
      | [] => cond (hx.bx r) (wholeM C vs N (hx.kids r) X r u x (storeM C vs N (some (hx.kids r)) X t x)) (storeM C vs N none X t x)
      | _ :: _ => storeM C vs N (cond (hx.bx r) (some (hx.kids r)) none) X t x

def stepM (C : Ctx) (tab : Tab) (vs : List Nat) (hx : Hints) (N : Nat) (o : Oper) : M (List (Nat × V)) :=
  match o.dst with
  | none => match o.op with
    | .store X (.tmp t) x => takeFor N hx.kids (tmpsOf [x]) (storeH C vs N hx X t x)
    | _ => .fail
  | some d => match o.op with
    | .move x => moveUps C vs N d o.type x hx.hx
    | .assign x => assignM C vs N d o.type x
    | .box X x => idleM N d (boxUps C vs X d x)
    | .build X parts => takeFor N hx.kids (tmpsOf (parts.toList.map (·.2))) (idleM N d (buildUps C vs X d parts.toList))
    | .buildSlice X len parts => takeFor N hx.kids (tmpsOf (parts.toList.map (·.2))) (idleM N d (rowUps C vs X d len parts.toList))
    | .extract x i => .chk (decide (d < N)) (extUps vs d x i)
    | .fieldAddr X (.tmp t) f => cond (hx.bx t) (idleM N d ((fieldBoxM C X f t).bind fun v => .chk (okOn vs v) (.ret [(d, v)]))) (idleM N d (pureUps C vs d o))
    | .call c => match c.callee with
      | .value (.func f) => idleM N d (callM C tab vs N d f c.args.toList)
      | .builtin .max => idleM N d (maxUps C d true c.args.toList)
      | .builtin .min => idleM N d (maxUps C d false c.args.toList)
      | .builtin .append => match c.args, c.argTypes with
        | ⟨[s, x]⟩, ⟨[X, X2]⟩ => takeFor N hx.kids (appTmps C X s x) (idleM N d (appUps C vs d X X2 s x))
        | _, _ => .fail
      | _ => idleM N d (pureUps C vs d o)
    | _ => idleM N d (pureUps C vs d o)

section
variable {P : Program} {C : Ctx} {w w' w0 : World} {L L' L0 : Nat → Lab} {N : Nat} {vs : List Nat} {T T' : List V} {a : Act}

theorem idleM_runs {d : Nat} {m : M (List (Nat × V))} {ups : List (Nat × V)} {log : List Nat} (h : (idleM N d m).Runs T ups log) : (T.getD d .dead).idle = true ∧ d < N ∧ ∃ log, m.Runs T ups log := by
  obtain ⟨log', rfl, hc, h⟩ := h
  simp only [Bool.and_eq_true, decide_eq_true_eq] at hc
  exact ⟨hc.1, hc.2, log', h⟩

theorem step_pure (hI : Inv w0 L0 N vs T a w L) (hC : CtxOk P C) {o : Oper} {d : Nat} {ups : List (Nat × V)} {log : List Nat} (hdst : o.dst = some d) (hd : d < N) (hid : (T.getD d .dead).idle = true)
    (h : (pureUps C vs d o).Runs T ups log) : Step P o w0 L0 N vs (setAll T ups) a w := by
  obtain ⟨v, l1, l2, rfl, h1, hok, rfl, _⟩ := M.runs_bind h
  intro K Q hK
  exact PureRes.inv hI hd hid hdst (pure_sound hI hC hid (okOn_mem hok) h1) hK

theorem step_max (hI : Inv w0 L0 N vs T a w L) {o : Oper} {mx : Bool} {args : Array Operand} {ats : Array TypeId} {d : Nat} {ups : List (Nat × V)} {log : List Nat} (ho : o.op = .call { callee := .builtin (cond mx .max .min), args, argTypes := ats }) (hdst : o.dst = some d) (hd : d < N) (hid : (T.getD d .dead).idle = true)
    (h : (maxUps C d mx args.toList).Runs T ups log) : Step P o w0 L0 N vs (setAll T ups) a w := by
  obtain ⟨args⟩ := args
  dsimp only at h
  unfold maxUps at h
  split at h
  · rename_i x y
    obtain ⟨u, l1, l2, rfl, h1, h⟩ := M.runs_bind h
    obtain ⟨v, l3, l4, rfl, h2, h⟩ := M.runs_bind h
    split at h
    · rename_i l n k m l' n' k' m' _
      obtain ⟨rfl, _⟩ := h
      have hx := opnd_int hI h1
      have hy := opnd_int hI h2
      have hres : PureRes P o vs T a w L d (.d none 0 (.int k) (cond mx (if m < m' then m' else m) (if m' < m then m' else m))) := by
        refine PureRes.still hI ?_ (fun _ => rfl) SRep.mkInt
        cases mx with
        | true => simp [execOp, ho, resolve, invoke, builtin, Builtin.max_, Builtin.max2, hx, hy]
        | false => simp [execOp, ho, resolve, invoke, builtin, Builtin.min_, Builtin.min2, hx, hy]
      intro K Q hK
      exact PureRes.inv hI hd hid hdst hres hK
    · exact h.elim
  · exact h.elim

theorem step_box (hI : Inv w0 L0 N vs T a w L) (hC : CtxOk P C) {o : Oper} {X : TypeId} {x : Operand} {d : Nat} {ups : List (Nat × V)} {log : List Nat} (ho : o.op = .box X x) (hdst : o.dst = some d) (hd : d < N) (hid : (T.getD d .dead).idle = true)
    (h : (boxUps C vs X d x).Runs T ups log) : Step P o w0 L0 N vs (setAll T ups) a w := by
  obtain ⟨v, l1, l2, rfl, h1, h2⟩ := M.runs_bind h
  split at h2
  · rename_i l k t y
    split at h2
    · rename_i hc
      obtain ⟨hX, hk⟩ := hc
      obtain ⟨hok, rfl, _⟩ := h2
      have hrep : ∃ s0, SRep L T a.tmps s0 (.d l k t y) w (a.eval x) := by
        rcases opnd_rep hI h1 with ⟨s, _, _, hs⟩ | ⟨_, hs⟩
        · exact ⟨s, hs⟩
        · exact ⟨0, hs _ _ _ _ _⟩
      obtain ⟨s0, hdp, cs, hf, how⟩ := hrep
      have hcs := Form.cells hf (Own.one how)
      have hrun : (execOp a.eval o).run P w = .ok (.value (.pointer (some ⟨w.heap.size, 0, none⟩))) (w.alloc (.cells (a.eval x).cells X)) := by
        simp [execOp, ho, Instr.box, newVar, newRow, newObj, Sem.run]
      have hres : PureRes P o vs T a w L d (.box l 0 t y) := by
        refine ⟨_, _, _, hrun, Grows.alloc hI d [] _, fun _ _ _ _ => rfl, okOn_mem hok, fun r hr => ?_, w.heap.size, (a.eval x).cells, X, rfl, by simp, heap_new _ _, ?_, ?_⟩
        · have := hdp r hr
          rw [getD_set, if_neg (fun e => idle_ne hid (V.owns_of_deep this) e.1)]
          exact this
        · rw [← Array.length_toList, hcs, Own.len how]
        · rw [hcs]
          have h0 := Own.rd0 (Own.at0 (s' := 0) (q' := []) (o' := 0) (n' := 0) hk how (.inl rfl))
          refine Own.of_rd (Rd.move (fun k hk => ?_) h0)
          have hlt : k < w.heap.size := hI.lt (by rcases hk with hk | ⟨_, _, _, hk⟩ <;> rw [hk] <;> simp)
          refine ⟨?_, Go.RowKit.Below.heap_alloc w _ k hlt⟩
          unfold SL
          dsimp only
          rw [if_neg (by omega)]
          exact hk
      intro K Q hK
      exact PureRes.inv hI hd hid hdst hres hK
    · exact h2.elim
  · exact h2.elim

theorem addr_rep (hI : Inv w0 L0 N vs T a w L) {t r : Nat} {p : List St} (he : addrOf t (T.getD t .dead) = some (r, p)) : ∃ g, a.eval (.tmp t) = .pointer (some ⟨g, (node [] 0 p).2, none⟩) ∧ L g = .own r (node [] 0 p).1 := by
  have hst := hI.slots t
  generalize T.getD t .dead = v at he hst
  cases v with
  | ptr r2 p2 t2 =>
    simp only [addrOf, Option.some.injEq, Prod.mk.injEq] at he
    obtain ⟨rfl, rfl⟩ := he
    exact hst
  | box l n t2 x2 =>
    simp only [addrOf, Option.some.injEq, Prod.mk.injEq] at he
    obtain ⟨rfl, rfl⟩ := he
    obtain ⟨_, g, cur, e, h1, h2, _⟩ := hst
    exact ⟨g, h1, h2⟩
  | dead => cases he
  | tup _ => cases he
  | d _ _ _ _ => cases he
  | rp _ _ _ => cases he
  | view _ _ _ => cases he
  | hole _ _ => cases he
  | part _ _ _ _ _ => cases he

theorem stepM_ok (hmix : P.follows .mixedOrders = true) (hC : CtxOk P C) {tab : Tab} (htab : TabOk P tab) {hx : Hints} {E : Env} (hE : E.step = stepM C tab vs hx E.N) : StepOk P w0 L0 vs E := by
  refine ⟨hmix, ?_⟩
  intro o T ups log a w L hI h
  rw [hE] at h
  unfold stepM at h
  have hpure : ∀ {d : Nat}, o.dst = some d → (idleM E.N d (pureUps C vs d o)).Runs T ups log → Step P o w0 L0 E.N vs (setAll T ups) a w := by
    intro d hdst h
    obtain ⟨h1, h2, log, h3⟩ := idleM_runs h
    exact step_pure hI hC hdst h2 h1 h3
  split at h
  · rename_i hdst
    split at h
    · rename_i X t x ho
      obtain ⟨T1, L1, ups2, log2, hI1, h, hset⟩ := takeFor_runs hI h
      rw [hset]
      obtain ⟨l1, rfl, h⟩ := h
      dsimp only at h
      split at h
      · exact h.elim
      · rename_i r p hadr
        obtain ⟨l2, rfl, h⟩ := h
        dsimp only at h
        split at h
        · rename_i u' p' hur
          exact step_fill hI1 hC ho hdst hadr (fun r p => addr_rep hI1) hur h
        · split at h
          · cases hb : hx.bx r with
            | true =>
              rw [hb, cond_true] at h
              exact step_whole hI1 hC ho hdst hadr (fun r p => addr_rep hI1) rfl (fun h => step_store hI1 hC ho hdst h) h
            | false =>
              rw [hb, cond_false] at h
              exact step_store hI1 hC ho hdst h
          · exact step_store hI1 hC ho hdst h
    · exact h.elim
  · rename_i d hdst
    split at h
    · rename_i x ho
      unfold moveUps at h
      split at h
      · rename_i s
        obtain ⟨log', rfl, h⟩ := h
        dsimp only at h
        split at h
        · obtain ⟨hd, h⟩ := h
          exact step_tup hI (.inl ho) hdst (by simpa using hd) h
        · exact step_assign hI (.inl ho) hdst h
      · exact step_assign hI (.inl ho) hdst h
    · rename_i x ho
      exact step_assign hI (.inr ho) hdst h
    · rename_i X x ho
      obtain ⟨h1, h2, log, h3⟩ := idleM_runs h
      exact step_box hI hC ho hdst h2 h1 h3
    · rename_i X parts ho
      obtain ⟨T1, L1, ups2, log2, hI1, h, hset⟩ := takeFor_runs hI h
      rw [hset]
      obtain ⟨h1, h2, log, h3⟩ := idleM_runs h
      exact step_build hI1 hC ho hdst h2 h1 h3
    · rename_i X len parts ho
      obtain ⟨T1, L1, ups2, log2, hI1, h, hset⟩ := takeFor_runs hI h
      rw [hset]
      obtain ⟨h1, h2, log, h3⟩ := idleM_runs h
      exact step_row hI1 hC ho hdst h2 h1 h3
    · rename_i x i ho
      obtain ⟨hd, h⟩ := h
      exact step_ext hI ho hdst (by simpa using hd) h
    · rename_i X t f ho
      cases hb : hx.bx t with
      | false => rw [hb] at h; exact hpure hdst h
      | true =>
        rw [hb] at h
        obtain ⟨h1, h2, log, h3⟩ := idleM_runs h
        obtain ⟨v, l1, l2, rfl, h4, hok, rfl, _⟩ := M.runs_bind h3
        intro K Q hK
        exact PureRes.inv hI h2 h1 hdst (pure_fieldBox hI hC ho h4 (okOn_mem hok)) hK
    · rename_i c ho
      split at h
      · rename_i f hf
        obtain ⟨h1, h2, log, h3⟩ := idleM_runs h
        obtain ⟨callee, args, ats⟩ := c
        dsimp only at hf h3
        subst hf
        exact step_call hI htab ho hdst h2 h1 h3
      · rename_i hf
        obtain ⟨h1, h2, log, h3⟩ := idleM_runs h
        obtain ⟨callee, args, ats⟩ := c
        dsimp only at hf h3
        subst hf
        exact step_max hI (mx := true) (by rw [ho]; rfl) hdst h2 h1 h3
      · rename_i hf
        obtain ⟨h1, h2, log, h3⟩ := idleM_runs h
        obtain ⟨callee, args, ats⟩ := c
        dsimp only at hf h3
        subst hf
        exact step_max hI (mx := false) (by rw [ho]; rfl) hdst h2 h1 h3
      · rename_i hf
        obtain ⟨callee, args, ats⟩ := c
        dsimp only at hf h
        subst hf
        split at h
        · rename_i s x X X2
          obtain ⟨T1, L1, ups2, log2, hI1, h, hset⟩ := takeFor_runs hI h
          rw [hset]
          obtain ⟨h1, h2, log, h3⟩ := idleM_runs h
          exact step_append hI1 hC ho hdst h2 h1 h3
        · exact h.elim
      · exact hpure hdst h
    · exact hpure hdst h
end

/-! ### results -/
/-- A result: its data, the slot whose rows it is, the slots that it reads. -/
def resOne (t : Ty) (n s : Nat) (v : V) : M (t.den × Option Nat × List Nat) :=
  if t.depth = 0 ∨ n = 0 then (readD s v).bind fun z => if h : z.2.1 = t then .ret (h ▸ z.2.2, none, if t.depth = 0 then [] else z.1.toList) else .fail
  else match v with
    | .d none k t' y => if h : t' = t then (if n ≤ k then .ret (h ▸ y, some s, []) else .fail) else .fail
    | .view r [] _ => .get r fun u => match u with
      | .d none k t' y => if h : t' = t then (if n ≤ k then .ret (h ▸ y, some r, []) else .fail) else .fail
      | _ => .fail
    | _ => .fail

/-- What becomes of a slot's rows: they are results' (from which cell on, of which type, how deep), a parameter's, or all else. -/
structure Src where
  s : Nat
  o : Nat
  sz : Nat
  n : Nat

structure Outs (rs : List (Ty × Nat)) where
  x : (rTy rs).den
  ss : List Src
  ls : List Nat

/-- Where a result lies: in a slot, or in a variable of its own. -/
inductive RV where
  | tmp (s : Nat)
  | cell (s : Nat) (X : TypeId)

def RV.slot : RV → Nat
  | .tmp s => s
  | .cell s _ => s

def RV.var : RV → ResultVar
  | .tmp s => .tmp s
  | .cell s X => .cell s X

def resCell (C : Ctx) (X : TypeId) (t : Ty) (n s : Nat) (v : V) : M (t.den × Option Nat × List Nat) :=
  match v with
  | .box none k t' y => if h : t' = t then
      if C.ty X = some t then
        (if t.depth = 0 ∨ n = 0 then .ret (h ▸ y, none, if t.depth = 0 then [] else [s]) else if n ≤ k then .ret (h ▸ y, some s, []) else .fail)
      else .fail
    else .fail
  | _ => .fail

def resV1 (C : Ctx) (t : Ty) (n : Nat) (rv : RV) (v : V) : M (t.den × Option Nat × List Nat) :=
  match rv with
  | .tmp s => resOne t n s v
  | .cell s X => resCell C X t n s v

def resM (C : Ctx) : Nat → (rs : List (Ty × Nat)) → List RV → M (Outs rs)
  | _, [], [] => .ret ⟨(), [], []⟩
  | o, (t, n) :: rs, rv :: sl => .get rv.slot fun v => (resV1 C t n rv v).bind fun y => (resM C (o + t.sz) rs sl).bind fun r =>
      .ret ⟨(y.1, r.x), (match y.2.1 with | some s' => ⟨s', o, t.sz, n⟩ :: r.ss | none => r.ss), y.2.2 ++ r.ls⟩
  | _, _, _ => .fail

/-- The value that is returned. -/
def FinVal (P : Program) (w : World) (a : Act) : RV → Value → Prop
  | .tmp s, c => c = a.tmps.getD s undef
  | .cell s X, c => ∃ A, a.tmps.getD s undef = .pointer (some A) ∧ (loadVar X A).run P w = .ok c w

def FinVals (P : Program) (w : World) (a : Act) : List RV → List Value → Prop
  | [], cs => cs = []
  | rv :: l, cs => ∃ c cs', cs = c :: cs' ∧ FinVal P w a rv c ∧ FinVals P w a l cs'

def outM : Nat → (ps : List (Ty × Mode)) → M (mTy ps).den
  | _, [] => .ret ()
  | i, (t, .mut n) :: ps => .get i fun v => match v with
    | .d none k t' y => if h : t' = t then (if k = n then (outM (i + 1) ps).bind fun r => .ret (h ▸ y, r) else .fail) else .fail
    | _ => .fail
  | i, (_, .ro) :: ps => outM (i + 1) ps

def muts : Nat → List (Ty × Mode) → List Nat
  | _, [] => []
  | i, (_, .mut _) :: ps => i :: muts (i + 1) ps
  | i, (_, .ro) :: ps => muts (i + 1) ps

def finM (C : Ctx) (ps : List (Ty × Mode)) (rs : List (Ty × Nat)) (sl : List RV) : M (Ty.pair (rTy rs) (mTy ps)).den :=
  (resM C 0 rs sl).bind fun r => (outM 0 ps).bind fun m =>
    .chk (nodupB (r.ss.map (·.s)) && r.ls.all (fun l => !(r.ss.map (·.s)).contains l && !(muts 0 ps).contains l) && (muts 0 ps).all fun i => !(r.ss.map (·.s)).contains i) (.ret (r.x, m))

/-- How the rows are labelled when the call is over. -/
def finLab (m : Nat) (mu : List Nat) (ss : List Src) : Lab → Lab
  | .own s q => if mu.contains s then .own s q else match ss.find? (fun p => p.s == s) with
    | some p => match q with
      | y :: rest => if y < p.sz then (if rest.length < p.n then .own m ((p.o + y) :: rest) else .stable) else .stable
      | [] => .stable
    | none => .stable
  | x => x

section
variable {P : Program} {C : Ctx} {w w' w0 : World} {L L' L0 : Nat → Lab} {N : Nat} {vs : List Nat} {T T' : List V} {a : Act}

theorem finLab_lend {m : Nat} {mu : List Nat} {ss : List Src} {s : Nat} {q : List Nat} (h1 : s ∉ mu) (h2 : s ∉ ss.map (·.s)) : finLab m mu ss (.own s q) = .stable := by
  unfold finLab
  dsimp only
  rw [if_neg (fun h => h1 (by simpa using h))]
  have : ss.find? (fun p => p.s == s) = none := by
    rw [List.find?_eq_none]
    intro p hp he
    exact h2 (List.mem_map.2 ⟨p, hp, by simpa using he⟩)
  rw [this]

theorem finLab_src {m : Nat} {mu : List Nat} {ss : List Src} {p : Src} (hn : nodupB (ss.map (·.s)) = true) (h1 : p.s ∉ mu) (hp : p ∈ ss) {y : Nat} {rest : List Nat} (hy : y < p.sz) :
    finLab m mu ss (.own p.s (y :: rest)) = if rest.length < p.n then .own m ((p.o + y) :: rest) else .stable := by
  unfold finLab
  dsimp only
  rw [if_neg (fun h => h1 (by simpa using h))]
  have : ss.find? (fun p' => p'.s == p.s) = some p := by
    clear h1 hy
    induction ss with
    | nil => cases hp
    | cons x l ih =>
      simp only [List.map_cons, nodupB, Bool.and_eq_true, Bool.not_eq_true'] at hn
      rcases List.mem_cons.1 hp with rfl | hp
      · simp
      · have hne : x.s ≠ p.s := fun e => by
          have : (l.map (·.s)).contains x.s = true := by
            rw [List.contains_iff_mem, e]
            exact List.mem_map_of_mem hp
          rw [hn.1] at this
          cases this
        rw [List.find?_cons_of_neg (by simpa using hne)]
        exact ih hn.2 hp
  rw [this]
  dsimp only
  rw [if_pos hy]

theorem resOne_rep (hI : Inv w0 L0 N vs T a w L) {t : Ty} {n s : Nat} {y : t.den} {src : Option Nat} {ls : List Nat} {log : List Nat} (h : (resOne t n s (T.getD s .dead)).Runs T (y, src, ls) log) :
    ∃ cells, Form t cells (a.tmps.getD s undef) ∧ (∀ s', src = some s' → n ≠ 0 ∧ t.depth ≠ 0) ∧
      ∀ (L' : Nat → Lab) (m o : Nat), (∀ k, L k = .stable → L' k = .stable) → (∀ k r q, r ∈ ls → L k = .own r q → L' k = .stable) →
        (∀ s' k i rest, src = some s' → L k = .own s' (i :: rest) → i < t.sz → (rest.length < n → L' k = .own m ((o + i) :: rest)) ∧ (n ≤ rest.length → L' k = .stable)) →
        Own w L' (fun k => L' k = .stable) m n t y [] o cells := by
  have hs := hI.slots s
  have howned : ∀ {k : Nat} {cells : List Value} {s' : Nat} {y : t.den}, n ≤ k → Own w L (SL L none) s' k t y [] 0 cells → ∀ (L' : Nat → Lab) (m o : Nat), (∀ k, L k = .stable → L' k = .stable) →
        (∀ k i rest, L k = .own s' (i :: rest) → i < t.sz → (rest.length < n → L' k = .own m ((o + i) :: rest)) ∧ (n ≤ rest.length → L' k = .stable)) →
        Own w L' (fun k => L' k = .stable) m n t y [] o cells := by
    intro k cells s' y hnk ho L' m o H1 H3
    refine Own.moveLow hnk (fun k hk => ⟨?_, rfl⟩) (fun k d rest hd hk => ?_) ho
    · rcases hk with hk | ⟨_, _, hk, _⟩
      · exact H1 k hk
      · cases hk
    · have hk' : L k = .own s' (d :: rest) := by simpa using hk
      have := H3 k d rest hk' hd
      exact ⟨rfl, fun h => by simpa using this.1 h, this.2⟩
  unfold resOne at h
  split at h
  · rename_i hc
    obtain ⟨⟨l, t', y'⟩, l1, l2, rfl, h1, h2⟩ := M.runs_bind h
    dsimp only at h2
    split at h2
    · rename_i ht
      subst ht
      obtain ⟨h2, _⟩ := h2
      cases h2
      obtain ⟨cells, hf, hrd, hdp⟩ := readD_rd hI h1 hs (fun _ => rfl)
      refine ⟨cells, hf, fun s' h => (by cases h), fun L' m o H1 H2 _ => ?_⟩
      have h0 := Own.of_rd (L := L) (s := 0) (q := []) (o := 0) hrd
      by_cases hd : t'.depth = 0
      · exact Own.flat hd h0
      · have hn : n = 0 := by omega
        subst hn
        rw [if_neg hd] at H2
        refine Own.of_rd (Rd.move (fun k hk => ⟨?_, rfl⟩) hrd)
        rcases hk with hk | ⟨r, q, hl, hk⟩
        · exact H1 k hk
        · exact H2 k r q (by simp [hl]) hk
    · exact h2.elim
  · rename_i hc
    have hc := not_or.1 hc
    generalize hv : T.getD s .dead = v at h hs
    split at h
    · rename_i k t' y'
      split at h
      · rename_i ht
        subst ht
        split at h
        · rename_i hnk
          obtain ⟨h, _⟩ := h
          cases h
          obtain ⟨_, cells, hf, ho⟩ := hs
          exact ⟨cells, hf, fun _ _ => ⟨hc.2, hc.1⟩, fun L' m o H1 _ H3 => howned hnk ho L' m o H1 (fun k i rest hk hi => H3 s k i rest rfl hk hi)⟩
        · exact h.elim
      · exact h.elim
    · rename_i r t2
      obtain ⟨log2, rfl, h⟩ := h
      dsimp only at h
      split at h
      · rename_i k t' y' hu
        split at h
        · rename_i ht
          subst ht
          split at h
          · rename_i hnk
            obtain ⟨h, _⟩ := h
            cases h
            obtain ⟨_, h1⟩ := hs
            have hr := hI.slots r
            rw [hu] at hr
            obtain ⟨_, cells, hf, ho⟩ := hr
            refine ⟨cells, ?_, fun _ _ => ⟨hc.2, hc.1⟩, fun L' m o H1 _ H3 => howned hnk ho L' m o H1 (fun k i rest hk hi => H3 r k i rest rfl hk hi)⟩
            rcases h1 with ⟨_, h2, _⟩ | ⟨_, _, _, h2, _⟩
            · rw [h2]; exact hf
            · rw [hu] at h2; simp [V.isD] at h2
          · exact h.elim
        · exact h.elim
      · exact h.elim
    · exact h.elim

theorem resCell_rep (hI : Inv w0 L0 N vs T a w L) (hC : CtxOk P C) {X : TypeId} {t : Ty} {n s : Nat} {y : t.den} {src : Option Nat} {ls : List Nat} {log : List Nat} (h : (resCell C X t n s (T.getD s .dead)).Runs T (y, src, ls) log) :
    ∃ c cells, FinVal P w a (.cell s X) c ∧ Form t cells c ∧ (∀ s', src = some s' → n ≠ 0 ∧ t.depth ≠ 0) ∧
      ∀ (L' : Nat → Lab) (m o : Nat), (∀ k, L k = .stable → L' k = .stable) → (∀ k r q, r ∈ ls → L k = .own r q → L' k = .stable) →
        (∀ s' k i rest, src = some s' → L k = .own s' (i :: rest) → i < t.sz → (rest.length < n → L' k = .own m ((o + i) :: rest)) ∧ (n ≤ rest.length → L' k = .stable)) →
        Own w L' (fun k => L' k = .stable) m n t y [] o cells := by
  have hs := hI.slots s
  unfold resCell at h
  generalize hv : T.getD s .dead = v at h hs
  split at h
  · rename_i k t' y'
    split at h
    · rename_i ht
      subst ht
      split at h
      · rename_i hX
        obtain ⟨_, g, cur, e, h1, h2, h3, h4, h5⟩ := hs
        obtain ⟨c, hrun, hf⟩ := (hC X t' hX).run_loadVar (w := w) (g := g) (o := 0) (Own.len h5) (fun i v hv => by
          rw [Nat.zero_add, cell_cells h3]
          simpa using hv)
        have hfin : FinVal P w a (.cell s X) c := ⟨_, h1, hrun⟩
        have hst : ∀ {L' : Nat → Lab}, (∀ k, L k = .stable → L' k = .stable) → ∀ k, SL L none k → L' k = .stable ∧ w.heap[k]? = w.heap[k]? := by
          intro L' H k hk
          rcases hk with hk | ⟨_, _, hk, _⟩
          · exact ⟨H k hk, rfl⟩
          · cases hk
        split at h
        · rename_i hc
          obtain ⟨h, _⟩ := h
          cases h
          refine ⟨c, cur.toList, hfin, hf, fun s' h => (by cases h), fun L' m o H1 H2 _ => ?_⟩
          by_cases hd : t'.depth = 0
          · exact Own.flat hd h5
          · have hn : n = 0 := by omega
            subst hn
            rw [if_neg hd] at H2
            refine Own.of_rd (Own.rd (S' := fun k => L' k = .stable) (fun k q hk => H2 k s q (by simp) hk) (fun k hk => (hst H1 k hk).1) h5)
        · rename_i hc
          have hc := not_or.1 hc
          split at h
          · rename_i hnk
            obtain ⟨h, _⟩ := h
            cases h
            refine ⟨c, cur.toList, hfin, hf, fun _ _ => ⟨hc.2, hc.1⟩, fun L' m o H1 _ H3 => ?_⟩
            refine Own.moveLow hnk (hst H1) (fun k d rest hd hk => ?_) h5
            have hk' : L k = .own s (d :: rest) := by simpa using hk
            have := H3 s k d rest rfl hk' hd
            exact ⟨rfl, fun h => by simpa using this.1 h, this.2⟩
          · exact h.elim
      · exact h.elim
    · exact h.elim
  · exact h.elim

theorem resV1_rep (hI : Inv w0 L0 N vs T a w L) (hC : CtxOk P C) {t : Ty} {n : Nat} {rv : RV} {y : t.den} {src : Option Nat} {ls : List Nat} {log : List Nat} (h : (resV1 C t n rv (T.getD rv.slot .dead)).Runs T (y, src, ls) log) :
    ∃ c cells, FinVal P w a rv c ∧ Form t cells c ∧ (∀ s', src = some s' → n ≠ 0 ∧ t.depth ≠ 0) ∧
      ∀ (L' : Nat → Lab) (m o : Nat), (∀ k, L k = .stable → L' k = .stable) → (∀ k r q, r ∈ ls → L k = .own r q → L' k = .stable) →
        (∀ s' k i rest, src = some s' → L k = .own s' (i :: rest) → i < t.sz → (rest.length < n → L' k = .own m ((o + i) :: rest)) ∧ (n ≤ rest.length → L' k = .stable)) →
        Own w L' (fun k => L' k = .stable) m n t y [] o cells := by
  cases rv with
  | tmp s =>
    obtain ⟨cells, h1, h2, h3⟩ := resOne_rep hI (s := s) h
    exact ⟨_, cells, rfl, h1, h2, h3⟩
  | cell s X => exact resCell_rep hI hC h

theorem resM_rep (hI : Inv w0 L0 N vs T a w L) (hC : CtxOk P C) : {rs : List (Ty × Nat)} → {o : Nat} → {sl : List RV} → {R : Outs rs} → {log : List Nat} → (resM C o rs sl).Runs T R log →
    ∃ cs, FinVals P w a sl cs ∧ (∀ p ∈ R.ss, o ≤ p.o ∧ ∃ t, (t, p.n) ∈ rs ∧ p.n ≠ 0 ∧ t.depth ≠ 0) ∧ (∀ p p', p ∈ R.ss → p' ∈ R.ss → p.s ≠ p'.s → p.o + p.sz ≤ p'.o ∨ p'.o + p'.sz ≤ p.o) ∧
    ∀ (L' : Nat → Lab) (m : Nat), (∀ k, L k = .stable → L' k = .stable) → (∀ k r q, r ∈ R.ls → L k = .own r q → L' k = .stable) →
      (∀ p k i rest, p ∈ R.ss → L k = .own p.s (i :: rest) → i < p.sz → (rest.length < p.n → L' k = .own m ((p.o + i) :: rest)) ∧ (p.n ≤ rest.length → L' k = .stable)) →
      ResRep w L' m o rs R.x cs
  | [], o, [], R, log, h => by
    obtain ⟨rfl, _⟩ := h
    exact ⟨[], rfl, by simp, by simp, fun _ _ _ _ _ => rfl⟩
  | (t, n) :: rs, o, s :: sl, R, log, h => by
    obtain ⟨log', rfl, h⟩ := h
    obtain ⟨⟨y, src, ls⟩, l1, l2, rfl, h1, h⟩ := M.runs_bind h
    obtain ⟨R', l3, l4, rfl, h2, h⟩ := M.runs_bind h
    obtain ⟨rfl, _⟩ := h
    obtain ⟨c, cells, k0, k1, k2, k3⟩ := resV1_rep hI hC h1
    obtain ⟨cs, j0, j1, j2, j3⟩ := resM_rep hI hC h2
    have hmem : ∀ p, p ∈ (match src with | some s' => (⟨s', o, t.sz, n⟩ : Src) :: R'.ss | none => R'.ss) → (∃ s', src = some s' ∧ p = ⟨s', o, t.sz, n⟩) ∨ p ∈ R'.ss := by
      intro p hp
      cases src with
      | none => exact .inr hp
      | some s' =>
        rcases List.mem_cons.1 hp with hp | hp
        · exact .inl ⟨s', rfl, hp⟩
        · exact .inr hp
    refine ⟨c :: cs, ⟨c, cs, rfl, k0, j0⟩, fun p hp => ?_, fun p p' hp hp' hne => ?_, fun L' m H1 H2 H3 => ?_⟩
    · rcases hmem p hp with ⟨s', hs', rfl⟩ | hp
      · exact ⟨Nat.le_refl _, t, by simp, (k2 s' hs').1, (k2 s' hs').2⟩
      · obtain ⟨e1, t', e2, e3, e4⟩ := j1 p hp
        exact ⟨by omega, t', by simp [e2], e3, e4⟩
    · rcases hmem p hp with ⟨s', hs', rfl⟩ | hp
      · rcases hmem p' hp' with ⟨s2, hs2, rfl⟩ | hp'
        · rw [hs'] at hs2
          injection hs2 with hs2
          exact absurd hs2 hne
        · exact .inl (j1 p' hp').1
      · rcases hmem p' hp' with ⟨s2, hs2, rfl⟩ | hp'
        · exact .inr (j1 p hp).1
        · exact j2 p p' hp hp' hne
    · refine ⟨c, _, cells, rfl, k1, k3 L' m o H1 (fun k r q hr hk => H2 k r q (List.mem_append_left _ hr) hk) (fun s' k i rest hs' hk hi => ?_), j3 L' m H1 (fun k r q hr hk => H2 k r q (List.mem_append_right _ hr) hk) (fun p k i rest hp hk hi => H3 p k i rest ?_ hk hi)⟩
      · subst hs'
        exact H3 ⟨s', o, t.sz, n⟩ k i rest (by simp) hk hi
      · cases src with
        | none => exact hp
        | some s' => exact List.mem_cons_of_mem _ hp
  | [], _, _ :: _, _, _, h => h.elim
  | _ :: _, _, [], _, _, h => h.elim

theorem muts_mem : {ps : List (Ty × Mode)} → {i s : Nat} → (s ∈ muts i ps ↔ i ≤ s ∧ ∃ t n, ps[s - i]? = some (t, .mut n))
  | [], i, s => by simp [muts]
  | (t, .mut n) :: ps, i, s => by
    simp only [muts, List.mem_cons, muts_mem (ps := ps) (i := i + 1)]
    constructor
    · rintro (rfl | ⟨h1, t', n', h2⟩)
      · exact ⟨Nat.le_refl _, t, n, by simp⟩
      · exact ⟨by omega, t', n', by rw [show s - i = (s - (i + 1)) + 1 by omega]; simpa using h2⟩
    · rintro ⟨h1, t', n', h2⟩
      by_cases hs : s = i
      · exact .inl hs
      · refine .inr ⟨by omega, t', n', ?_⟩
        rw [show s - i = (s - (i + 1)) + 1 by omega] at h2
        simpa using h2
  | (t, .ro) :: ps, i, s => by
    simp only [muts, muts_mem (ps := ps) (i := i + 1)]
    constructor
    · rintro ⟨h1, t', n', h2⟩
      exact ⟨by omega, t', n', by rw [show s - i = (s - (i + 1)) + 1 by omega]; simpa using h2⟩
    · rintro ⟨h1, t', n', h2⟩
      by_cases hs : s = i
      · subst hs
        rw [Nat.sub_self] at h2
        simp at h2
      · refine ⟨by omega, t', n', ?_⟩
        rw [show s - i = (s - (i + 1)) + 1 by omega] at h2
        simpa using h2

theorem outM_rep (hI : Inv w0 L0 N vs T a w L) {A0 : List Value} : {ps : List (Ty × Mode)} → {i : Nat} → {y : (mTy ps).den} → {log : List Nat} → (outM i ps).Runs T y log → ps.length = A0.length → (∀ j, (∃ t n, ps[j]? = some (t, .mut n)) → A0[j]? = some (a.tmps.getD (i + j) undef)) →
    ∀ (L' : Nat → Lab), (∀ k, L k = .stable → L' k = .stable) → (∀ k s q, s ∈ muts i ps → L k = .own s q → L' k = .own s q) → MutRep w L' i ps y A0
  | [], i, y, log, h, hl, _, L', _, _ => by
    simp only [List.length_nil] at hl
    exact List.eq_nil_of_length_eq_zero hl.symm
  | (t, .mut n) :: ps, i, y, log, h, hl, hA, L', H1, H2 => by
    cases A0 with
    | nil => simp at hl
    | cons c A0 =>
      obtain ⟨log', rfl, h⟩ := h
      have hs := hI.slots i
      generalize hv : T.getD i .dead = v at h hs
      dsimp only at h
      split at h
      · rename_i k t' y'
        split at h
        · rename_i ht
          subst ht
          split at h
          · rename_i hk
            subst hk
            obtain ⟨r, l1, l2, rfl, h1, h2⟩ := M.runs_bind h
            obtain ⟨rfl, _⟩ := h2
            obtain ⟨_, cells, hf, ho⟩ := hs
            have hc : c = a.tmps.getD i undef := by
              have := hA 0 ⟨t', k, rfl⟩
              simpa using this
            subst hc
            refine ⟨_, A0, cells, rfl, hf, ?_, outM_rep hI h1 (by simpa using hl) (fun j hj => ?_) L' H1 (fun k' s q hm hk' => H2 k' s q (by simp [muts, hm]) hk')⟩
            · refine Own.move (fun k' hk' => ⟨?_, rfl⟩) (fun k' d rest _ hk' => ⟨H2 k' i _ (by simp [muts]) hk', rfl⟩) ho
              rcases hk' with hk' | ⟨_, _, hk', _⟩
              · exact H1 k' hk'
              · cases hk'
            · have := hA (j + 1) (by simpa using hj)
              rw [show i + 1 + j = i + (j + 1) by omega]
              simpa using this
          · exact h.elim
        · exact h.elim
      · exact h.elim
  | (t, .ro) :: ps, i, y, log, h, hl, hA, L', H1, H2 => by
    cases A0 with
    | nil => simp at hl
    | cons c A0 =>
      refine ⟨c, A0, rfl, outM_rep (ps := ps) (i := i + 1) hI h (by simpa using hl) (fun j hj => ?_) L' H1 (fun k' s q hm hk' => H2 k' s q (by simpa [muts] using hm) hk')⟩
      have := hA (j + 1) (by simpa using hj)
      rw [show i + 1 + j = i + (j + 1) by omega]
      simpa using this

end
end Go.Proofs.Ytdfcejijcnhcaaa.C.Am
