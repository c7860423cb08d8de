/- A part of the proof: Am12. No conditions. -/
import Derived.Test.YtdfcejijcnhcaaaCAm11
set_option linter.unusedVariables false
set_option linter.unusedSimpArgs false
namespace Go.Proofs.Ytdfcejijcnhcaaa.C.Am

/-! ## 12. The pure operations, all of them -/
def boolV (op : BinOp) (b : Bool) : M V :=
  match op with
  | .eql => .ret (.d none 0 .bool b)
  | .neq => .ret (.d none 0 .bool (!b))
  | _ => .fail

def binV (C : Ctx) (op : BinOp) (X : TypeId) : V → V → M V
  | .d l n (.int k) x, .d l' n' (.int k') y => if isShift op = true then shV op k x y else if k = k' then intV op k x y else .fail
  | .d l n .str x, .d l' n' .str y => strV op x y
  | .d none n t x, .d none n' t' y => if h : t' = t then if C.ty X = some t ∧ t.height < 10000 ∧ t.depth = 0 then match eqD t x (h ▸ y) with
      | some b => boolV op b
      | none => .fail
    else .fail else .fail
  | _, _ => .fail

def optInt (C : Ctx) : Option Operand → M (Option Int)
  | none => .ret none
  | some x => (opnd C 0 x).bind fun v => match v with
    | .d _ _ (.int _) i => .ret (some i)
    | _ => .fail

def convV (C : Ctx) (src dst : TypeId) (v : V) : M V :=
  match C.ty src, C.ty dst, v with
  | some (.int _), some (.int k), .d _ _ (.int _) n => .ret (.d none 0 (.int k) (k.wrap n))
  | some .str, some .str, .d _ _ .str s => .ret (.d none 0 .str s)
  | _, _, _ => .fail

def okOn (vs : List Nat) : V → Bool
  | .d (some r) _ _ _ => vs.contains r
  | .box (some r) _ _ _ => vs.contains r
  | .rp (some r) _ _ => vs.contains r
  | .ptr r _ _ => vs.contains r
  | .view r _ _ => vs.contains r
  | .hole _ _ => false
  | .part _ _ _ _ _ => false
  | _ => true

def pureM (C : Ctx) (o : Oper) : M V :=
  match o.op with
  | .move x => moveM C o.type x
  | .pick c x y => (opnd C o.type c).bind fun v => match v with
    | .d _ _ .bool b => match b with
      | true => moveM C o.type x
      | false => moveM C o.type y
    | _ => .fail
  | .alloc X => allocV C X
  | .load X (.tmp t) => .get t (loadV C X t)
  | .nilCheck (.tmp t) => .get t (nilCheckV t)
  | .fieldAddr X (.tmp t) f => .get t (fieldAddrV C X f t)
  | .indexAddr X (.tmp t) y => (opnd C 0 y).bind fun v => match v with
    | .d _ _ (.int _) i => .get t (indexAddrV C X t i)
    | _ => .fail
  | .index X x y => (opnd C X x).bind fun u => (opnd C 0 y).bind fun v => match u, v with
    | .d _ _ .str s, .d _ _ (.int _) i => if C.ty X = some .str then .bnd (.int .u8) (getB s i) fun b => .ret (.d none 0 (.int .u8) b) else .fail
    | _, _ => .fail
  | .binOp op X x y _ => (opnd C X x).bind fun u => (opnd C X y).bind fun v => binV C op X u v
  | .unOp op X x => (opnd C X x).bind fun u => unV op u
  | .convert src dst x => (opnd C src x).bind fun u => convV C src dst u
  | .makeSlice X x y => (opnd C 0 x).bind fun u => (opnd C 0 y).bind fun v => match u, v with
    | .d _ _ (.int _) n, .d _ _ (.int _) c => makeV C X n c
    | _, _ => .fail
  | .slice X (.tmp t) lo hi none => (optInt C lo).bind fun l => (optInt C hi).bind fun h => .get t fun v => sliceV C X t (l.getD 0) h v
  | .call c => match c.callee, c.args.toList, c.argTypes.toList with
    | .builtin .len, [.tmp t], [X] => match C.ty X with
      | some tx => .get t (lenV tx t)
      | none => .fail
    | _, _, _ => .fail
  | _ => .fail

section
variable {P : Program} {C : Ctx} {w w' w0 : World} {S S' : Nat → Prop} {L L' L0 : Nat → Lab} {s N : Nat} {vs : List Nat} {T T' : List V} {tm tm' : Array Value} {a : Act}

theorem okOn_mem {v : V} (h : okOn vs v = true) : ∀ r, v.on r = true → r ∈ vs := by
  intro r hr
  cases v with
  | d l n t x => cases l <;> simp_all [V.on, V.root, okOn]
  | box l n t x => cases l <;> simp_all [V.on, V.root, okOn]
  | rp l t x => cases l <;> simp_all [V.on, V.root, okOn]
  | ptr r p t => simp_all [V.on, V.root, okOn]
  | view r p t => simp_all [V.on, V.root, okOn]
  | hole v p => simp [okOn] at h
  | part _ _ _ _ _ => simp [okOn] at h
  | dead => simp [V.on, V.root] at hr
  | tup _ => simp [V.on, V.root] at hr

theorem M.runs_get {α : Type} {T : List V} {t : Nat} {k : V → M α} {b : α} {log : List Nat} (h : (M.get t k).Runs T b log) : ∃ log', (k (T.getD t .dead)).Runs T b log' := by
  obtain ⟨l, rfl, h⟩ := h
  exact ⟨l, h⟩

theorem opnd_flat_rd (hI : Inv w0 L0 N vs T a w L) {X : TypeId} {x : Operand} {n : Nat} {t : Ty} {y : t.den} {log : List Nat} (hd : t.depth = 0) (h : (opnd C X x).Runs T (.d none n t y) log) :
    ∃ cs, Form t cs (a.eval x) ∧ Rd w (SL L none) t y cs := by
  have key : ∀ {s : Nat}, SRep L T a.tmps s (.d none n t y) w (a.eval x) → ∃ cs, Form t cs (a.eval x) ∧ Rd w (SL L none) t y cs := by
    rintro s ⟨_, cs, hf, ho⟩
    exact ⟨cs, hf, Own.rd0 (Own.at0 (s' := 0) (q' := []) (o' := 0) (n' := 0) (.inr hd) ho (.inl rfl))⟩
  rcases opnd_rep hI h with ⟨t, _, _, h⟩ | ⟨_, h⟩
  · exact key h
  · exact key (h L T a.tmps 0 w)

theorem pure_bin (hI : Inv w0 L0 N vs T a w L) (hC : CtxOk P C) {o : Oper} {X Y : TypeId} {op : BinOp} {x y : Operand} {u v r : V} {d : Nat} {log log1 log2 : List Nat} (ho : o.op = .binOp op X x y Y)
    (hx : (opnd C X x).Runs T u log1) (hy : (opnd C X y).Runs T v log2) (h : (binV C op X u v).Runs T r log) : PureRes P o vs T a w L d r := by
  unfold binV at h
  split at h
  · split at h
    · exact pure_shift hI ho (opnd_int hI hx) (opnd_int hI hy) h
    · split at h
      · rename_i hk
        subst hk
        exact pure_int hI ho (opnd_int hI hx) (opnd_int hI hy) h
      · exact h.elim
  · exact pure_str hI ho (opnd_str hI hx) (opnd_str hI hy) h
  · rename_i n t x' n' t' y' _ _
    split at h
    · rename_i ht
      subst ht
      split at h
      · rename_i hc
        obtain ⟨hX, hh, hd⟩ := hc
        split at h
        · rename_i b he
          obtain ⟨cs1, f1, r1⟩ := opnd_flat_rd hI hd hx
          obtain ⟨cs2, f2, r2⟩ := opnd_flat_rd hI hd hy
          have hrun := (eq_run (w := w) hC t').1 X Op.maxDepth x' y' cs1 cs2 _ _ b _ _ hX hh f1 f2 r1 r2 he
          have hg : (eqGuard op X x y (a.eval x) (a.eval y)).run P w = .ok () w := by
            cases t' with
            | int k => 
              simp only [Rd] at r1
              subst r1
              obtain hx1 := (List.cons.inj f1).1
              rw [← hx1, eqGuard_at_int]; rfl
            | bool =>
              simp only [Rd] at r1
              subst r1
              obtain hx1 := (List.cons.inj f1).1
              rw [← hx1, eqGuard_at_bool]; rfl
            | str =>
              simp only [Rd] at r1
              subst r1
              obtain hx1 := (List.cons.inj f1).1
              rw [← hx1, eqGuard_at_string]; rfl
            | raw z => simp [eqD] at he
            | unit => simp [eqD] at he
            | slice e t => simp [eqD] at he
            | pair a b => exact ((hC X _ hX).und).elim
            | agg t =>
              rw [f1.agg, f2.agg]
              have hq := ((hC X _ hX).und).2.2
              cases op <;> simp [eqGuard, hq]
          have hop : op = .eql ∨ op = .neq := by cases op <;> simp_all [boolV, M.Runs]
          have hbin : ∀ c, ((binOp op X (a.eval x) (a.eval y)).run P w = .ok c w) → (execOp a.eval o).run P w = .ok (.value c) w := by
            intro c hc
            simp [execOp, ho, hg, hc]
          have hval : ∀ (z1 z2 : Value), Form t' cs1 z1 → Form t' cs2 z2 → (Op.equalIn Op.maxDepth X z1 z2).run P w = .ok b w → 
              ((binOp .eql X z1 z2).run P w = .ok (.bool b) w ∧ (binOp .neq X z1 z2).run P w = .ok (.bool !b) w) := by
            intro z1 z2 g1 g2 hr
            cases t' with
            | int k =>
              simp only [Rd] at r1 r2
              subst r1 r2
              obtain rfl := (List.cons.inj g1).1
              obtain rfl := (List.cons.inj g2).1
              simp only [eqD, Option.some.injEq] at he
              subst he
              constructor <;> simp [binOp, Op.intCmp]
              rfl
            | bool =>
              simp only [Rd] at r1 r2
              subst r1 r2
              obtain rfl := (List.cons.inj g1).1
              obtain rfl := (List.cons.inj g2).1
              constructor <;> simp [binOp, Op.equal, hr]
            | str =>
              simp only [Rd] at r1 r2
              subst r1 r2
              obtain rfl := (List.cons.inj g1).1
              obtain rfl := (List.cons.inj g2).1
              simp only [eqD, Option.some.injEq] at he
              subst he
              constructor <;> simp [binOp, Op.stringOp]
            | raw z => simp [eqD] at he
            | unit => simp [eqD] at he
            | slice e t => simp [eqD] at he
            | pair a b => exact ((hC X _ hX).und).elim
            | agg t =>
              obtain rfl := g1.agg
              obtain rfl := g2.agg
              constructor <;> simp [binOp, Op.equal, hr]
          obtain ⟨e1, e2⟩ := hval _ _ f1 f2 hrun
          rcases hop with rfl | rfl
          · obtain ⟨rfl, _⟩ := h
            exact PureRes.still hI (hbin _ e1) (fun _ => rfl) SRep.mkBool
          · obtain ⟨rfl, _⟩ := h
            exact PureRes.still hI (hbin _ e2) (fun _ => rfl) SRep.mkBool
        · exact h.elim
      · exact h.elim
    · exact h.elim
  · exact h.elim
end
end Go.Proofs.Ytdfcejijcnhcaaa.C.Am
