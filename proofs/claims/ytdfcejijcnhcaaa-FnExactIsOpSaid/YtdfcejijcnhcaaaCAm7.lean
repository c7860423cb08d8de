/- A part of the proof: Am7. No conditions. -/
import Derived.Test.YtdfcejijcnhcaaaCAm6
set_option linter.unusedVariables false
set_option linter.unusedSimpArgs false
namespace Go.Proofs.Ytdfcejijcnhcaaa.C.Am

/-! ## 7. Pure operations -/
def constM (C : Ctx) (X : TypeId) : Value → M V
  | .int k n => .ret (.d none 0 (.int k) n)
  | .bool b => .ret (.d none 0 .bool b)
  | .string s => .ret (.d none 0 .str s)
  | .pointer none => .ret (.d none 0 (.raw 0) (.pointer none))
  | .nilFunc => .ret (.d none 0 (.raw 1) .nilFunc)
  | .nilIface => .ret (.d none 0 (.raw 2) .nilIface)
  | .slice none 0 0 => match C.ty X with
    | some (.slice e t) => .ret (.d none (t.depth + 1) (.slice e t) [])
    | _ => .fail
  | _ => .fail

def opnd (C : Ctx) (X : TypeId) : Operand → M V
  | .const c => constM C X c
  | .func f => .ret (.d none 0 (.raw 1) (.func (.func f) #[] #[]))
  | .tmp t => .get t .ret
  | .global _ => .fail

/-- What an operand is, as a copy: rows of a slot's own are looked at. -/
def copyOf (t : Nat) : V → M V
  | .d l n t' x => if (n != 0 && t'.depth != 0) = true then .ret (.view t [] t') else .ret (.d l n t' x)
  | .box _ _ t' _ => .ret (.ptr t [] t')
  | .rp l t' x => .ret (.rp l t' x)
  | .ptr r p t' => .ret (.ptr r p t')
  | .view r p t' => .ret (.view r p t')
  | _ => .fail

def moveM (C : Ctx) (X : TypeId) : Operand → M V
  | .tmp t => .get t (copyOf t)
  | x => opnd C X x

def intV (op : BinOp) (k : IntKind) (x y : Int) : M V :=
  match op with
  | .add => .ret (.d none 0 (.int k) (k.wrap (x + y)))
  | .sub => .ret (.d none 0 (.int k) (k.wrap (x - y)))
  | .mul => .ret (.d none 0 (.int k) (k.wrap (x * y)))
  | .quo => .chk (y != 0) (.ret (.d none 0 (.int k) (k.wrap (x.tdiv y))))
  | .rem => .chk (y != 0) (.ret (.d none 0 (.int k) (x.tmod y)))
  | .and => .ret (.d none 0 (.int k) (k.wrap (BitVec.ofInt k.bits x &&& BitVec.ofInt k.bits y).toNat))
  | .or => .ret (.d none 0 (.int k) (k.wrap (BitVec.ofInt k.bits x ||| BitVec.ofInt k.bits y).toNat))
  | .xor => .ret (.d none 0 (.int k) (k.wrap (BitVec.ofInt k.bits x ^^^ BitVec.ofInt k.bits y).toNat))
  | .andNot => .ret (.d none 0 (.int k) (k.wrap (BitVec.ofInt k.bits x &&& ~~~ BitVec.ofInt k.bits y).toNat))
  | .eql => .ret (.d none 0 .bool (x == y))
  | .neq => .ret (.d none 0 .bool (x != y))
  | .lss => .ret (.d none 0 .bool (x < y))
  | .leq => .ret (.d none 0 .bool (x ≤ y))
  | .gtr => .ret (.d none 0 .bool (x > y))
  | .geq => .ret (.d none 0 .bool (x ≥ y))
  | _ => .fail

def shV (op : BinOp) (k : IntKind) (x y : Int) : M V :=
  match op with
  | .shl => .chk (decide (0 ≤ y)) (.ret (.d none 0 (.int k) (k.wrap (x * 2 ^ (min y.toNat k.bits)))))
  | .shr => .chk (decide (0 ≤ y)) (.ret (.d none 0 (.int k) (x.fdiv (2 ^ (min y.toNat k.bits)))))
  | _ => .fail

def isShift : BinOp → Bool
  | .shl | .shr => true
  | _ => false

def strV (op : BinOp) (x y : ByteArray) : M V :=
  match op with
  | .add => .chk (decide (x.size + y.size ≤ 140737488355328)) (.ret (.d none 0 .str (x ++ y)))
  | .eql => .ret (.d none 0 .bool (x.toList == y.toList))
  | .neq => .ret (.d none 0 .bool (!(x.toList == y.toList)))
  | .lss => .ret (.d none 0 .bool (Op.bytesLess x.toList y.toList))
  | .leq => .ret (.d none 0 .bool (Op.bytesLess x.toList y.toList || x.toList == y.toList))
  | .gtr => .ret (.d none 0 .bool (!(Op.bytesLess x.toList y.toList || x.toList == y.toList)))
  | .geq => .ret (.d none 0 .bool (!Op.bytesLess x.toList y.toList))
  | _ => .fail

def unV (op : UnOp) : V → M V
  | .d _ _ (.int k) x => match op with
    | .neg => .ret (.d none 0 (.int k) (k.wrap (0 - x)))
    | _ => .fail
  | .d _ _ .bool x => match op with
    | .not => .ret (.d none 0 .bool (!x))
    | _ => .fail
  | _ => .fail

section
variable {P : Program} {C : Ctx} {w w' w0 : World} {S S' : Nat → Prop} {L L' L0 : Nat → Lab} {s N : Nat} {vs : List Nat} {T T' : List V} {tm tm' : Array Value} {a : Act}

theorem SRep.int {l : Option Nat} {n : Nat} {k : IntKind} {x : Int} {c : Value} (h : SRep L T tm s (.d l n (.int k) x) w c) : c = .int k x := by
  obtain ⟨_, cs, h1, h2⟩ := h
  simp only [Own] at h2
  subst h2
  exact ((List.cons.inj h1).1).symm
theorem SRep.bool {l : Option Nat} {n : Nat} {x : Bool} {c : Value} (h : SRep L T tm s (.d l n .bool x) w c) : c = .bool x := by
  obtain ⟨_, cs, h1, h2⟩ := h
  simp only [Own] at h2
  subst h2
  exact ((List.cons.inj h1).1).symm
theorem SRep.str {l : Option Nat} {n : Nat} {x : ByteArray} {c : Value} (h : SRep L T tm s (.d l n .str x) w c) : c = .string x := by
  obtain ⟨_, cs, h1, h2⟩ := h
  simp only [Own] at h2
  subst h2
  exact ((List.cons.inj h1).1).symm
theorem SRep.raw {l : Option Nat} {n z : Nat} {x : Value} {c : Value} (h : SRep L T tm s (.d l n (.raw z) x) w c) : c = x ∧ Value.plain1 x = true := by
  obtain ⟨_, cs, h1, h2⟩ := h
  simp only [Own] at h2
  obtain ⟨rfl, h2⟩ := h2
  exact ⟨((List.cons.inj h1).1).symm, h2⟩
theorem SRep.mkInt {k : IntKind} {x : Int} : SRep L T tm s (.d none 0 (.int k) x) w (.int k x) := ⟨by simp, _, rfl, by simp [Own]⟩
theorem SRep.mkBool {x : Bool} : SRep L T tm s (.d none 0 .bool x) w (.bool x) := ⟨by simp, _, rfl, by simp [Own]⟩
theorem SRep.mkStr {x : ByteArray} : SRep L T tm s (.d none 0 .str x) w (.string x) := ⟨by simp, _, rfl, by simp [Own]⟩
theorem SRep.mkRaw {z : Nat} {x : Value} (h : Value.plain1 x = true) : SRep L T tm s (.d none 0 (.raw z) x) w x := ⟨by simp, _, rfl, by simp [Own, h]⟩

theorem constM_rep {X : TypeId} {c : Value} {v : V} {log : List Nat} (h : (constM C X c).Runs T' v log) : SRep L T tm s v w c ∧ (∀ r, v.on r = false) ∧ log = [] := by
  unfold constM at h
  split at h
  · obtain ⟨rfl, rfl⟩ := h; exact ⟨SRep.mkInt, fun _ => rfl, rfl⟩
  · obtain ⟨rfl, rfl⟩ := h; exact ⟨SRep.mkBool, fun _ => rfl, rfl⟩
  · obtain ⟨rfl, rfl⟩ := h; exact ⟨SRep.mkStr, fun _ => rfl, rfl⟩
  · obtain ⟨rfl, rfl⟩ := h; exact ⟨SRep.mkRaw rfl, fun _ => rfl, rfl⟩
  · obtain ⟨rfl, rfl⟩ := h; exact ⟨SRep.mkRaw rfl, fun _ => rfl, rfl⟩
  · obtain ⟨rfl, rfl⟩ := h; exact ⟨SRep.mkRaw rfl, fun _ => rfl, rfl⟩
  · split at h
    · obtain ⟨rfl, rfl⟩ := h
      exact ⟨⟨by simp, _, rfl, by simp [Own]⟩, fun _ => rfl, rfl⟩
    · exact h.elim
  · exact h.elim

/-- What an operand's value says. -/
theorem opnd_rep (hI : Inv w0 L0 N vs T a w L) {X : TypeId} {x : Operand} {v : V} {log : List Nat} (h : (opnd C X x).Runs T v log) :
    (∃ t, x = .tmp t ∧ v = T.getD t .dead ∧ SRep L T a.tmps t v w (a.eval x)) ∨ ((∀ r, v.on r = false) ∧ ∀ L T tm s w, SRep L T tm s v w (a.eval x)) := by
  cases x with
  | tmp t =>
    obtain ⟨log', rfl, rfl, _⟩ := h
    exact .inl ⟨t, rfl, rfl, hI.slots t⟩
  | const c =>
    have h1 := constM_rep (L := L) (T := T) (tm := a.tmps) (s := 0) (w := w) h
    exact .inr ⟨h1.2.1, fun L T tm s w => (constM_rep h).1⟩
  | func f =>
    obtain ⟨rfl, _⟩ := h
    exact .inr ⟨fun _ => rfl, fun L T tm s w => SRep.mkRaw rfl⟩
  | global g => exact h.elim

theorem opnd_int (hI : Inv w0 L0 N vs T a w L) {X : TypeId} {x : Operand} {l : Option Nat} {n : Nat} {k : IntKind} {y : Int} {log : List Nat} (h : (opnd C X x).Runs T (.d l n (.int k) y) log) : a.eval x = .int k y := by
  rcases opnd_rep hI h with ⟨t, _, _, h⟩ | ⟨_, h⟩
  · exact h.int
  · exact (h L T a.tmps 0 w).int
theorem opnd_bool (hI : Inv w0 L0 N vs T a w L) {X : TypeId} {x : Operand} {l : Option Nat} {n : Nat} {y : Bool} {log : List Nat} (h : (opnd C X x).Runs T (.d l n .bool y) log) : a.eval x = .bool y := by
  rcases opnd_rep hI h with ⟨t, _, _, h⟩ | ⟨_, h⟩
  · exact h.bool
  · exact (h L T a.tmps 0 w).bool
theorem opnd_str (hI : Inv w0 L0 N vs T a w L) {X : TypeId} {x : Operand} {l : Option Nat} {n : Nat} {y : ByteArray} {log : List Nat} (h : (opnd C X x).Runs T (.d l n .str y) log) : a.eval x = .string y := by
  rcases opnd_rep hI h with ⟨t, _, _, h⟩ | ⟨_, h⟩
  · exact h.str
  · exact (h L T a.tmps 0 w).str

/-- What is to be shown of a pure operation. -/
def PureRes (P : Program) (o : Oper) (vs : List Nat) (T : List V) (a : Act) (w : World) (L : Nat → Lab) (d : Nat) (v : V) : Prop :=
  ∃ c w' L', (execOp a.eval o).run P w = .ok (.value c) w' ∧ Grows w w' L L' d ∧ (∀ k q, w.heap.size ≤ k → L' k = .own d q → v.owns = true) ∧ (∀ r, v.on r = true → r ∈ vs) ∧
    SRep L' (T.set d v) (a.tmps.setIfInBounds d c) d v w' c

theorem PureRes.inv {o : Oper} {d : Nat} {v : V} (hI : Inv w0 L0 N vs T a w L) (hd : d < N) (hid : (T.getD d .dead).idle = true) (ho : o.dst = some d) (h : PureRes P o vs T a w L d v)
    {K : Act → World → Prop} {Q : Exit → Act → World → Prop} (hK : ∀ a' w' L', Inv w0 L0 N vs (T.set d v) a' w' L' → K a' w') : o.wp P a w K Q := by
  obtain ⟨c, w', L', h1, h2, h3, h4, h5⟩ := h
  unfold Oper.wp
  rw [h1, Oper.upon_value, ho]
  exact hK _ _ L' (Inv.set hI hd hid h2 v c h3 h4 h5)

/-- The world as it was; the value owns nothing and hangs on nothing. -/
theorem PureRes.still (hI : Inv w0 L0 N vs T a w L) {o : Oper} {d : Nat} {v : V} {c : Value} (hrun : (execOp a.eval o).run P w = .ok (.value c) w) (hon : ∀ r, v.on r = false)
    (h : SRep L (T.set d v) (a.tmps.setIfInBounds d c) d v w c) : PureRes P o vs T a w L d v :=
  ⟨c, w, L, hrun, Grows.refl hI d, fun k q hk h => (by rw [hI.free k hk] at h; cases h), fun r hr => (by rw [hon] at hr; cases hr), h⟩

theorem pure_move (hI : Inv w0 L0 N vs T a w L) {o : Oper} {x : Operand} {d : Nat} {v : V} {log : List Nat} (ho : o.op = .move x) (hid : (T.getD d .dead).idle = true)
    (h : (moveM C o.type x).Runs T v log) (hvs : ∀ r, v.on r = true → r ∈ vs) : PureRes P o vs T a w L d v := by
  have hrun : (execOp a.eval o).run P w = .ok (.value (a.eval x)) w := by simp [execOp, ho]
  have hg := Grows.refl hI d
  refine ⟨a.eval x, w, L, hrun, hg, fun k q hk h => (by rw [hI.free k hk] at h; cases h), hvs, ?_⟩
  have hconst : ∀ {x : Operand}, (opnd C o.type x).Runs T v log → (∀ t, x ≠ .tmp t) → SRep L (T.set d v) (a.tmps.setIfInBounds d (a.eval x)) d v w (a.eval x) := by
    intro x h hx
    rcases opnd_rep hI h with ⟨t, rfl, _⟩ | ⟨_, h⟩
    · exact absurd rfl (hx t)
    · exact h _ _ _ _ _
  cases x with
  | const c => exact hconst h (by simp)
  | func c => exact hconst h (by simp)
  | global c => exact hconst h (by simp)
  | tmp t =>
    obtain ⟨log', rfl, h⟩ := h
    have hs := hI.slots t
    show SRep L (T.set d v) (a.tmps.setIfInBounds d (a.tmps.getD t undef)) d v w (a.tmps.getD t undef)
    have hne : (T.getD t .dead).owns = true → t ≠ d := fun h1 => idle_ne hid h1
    generalize hv : T.getD t .dead = v0 at h hs hne
    cases v0 with
    | d l n t' y =>
      simp only [copyOf] at h
      split at h
      · rename_i hdp
        obtain ⟨rfl, _⟩ := h
        have hown : (V.d l n t' y).owns = true := hdp
        have htd := hne hown
        refine ⟨?_, .inl ⟨rfl, ?_, l, n, y, ?_, hown⟩⟩
        · rw [getD_set, if_neg (fun h => htd h.1), hv]; exact hdp
        · rw [getD_setA, if_neg (fun h => htd h.1)]
        · rw [getD_set, if_neg (fun h => htd h.1), hv]
      · rename_i hdp
        obtain ⟨rfl, _⟩ := h
        exact SRep.copy hI hid hg (by simpa [V.owns] using hdp) hs _
    | box l n t' y =>
      obtain ⟨rfl, _⟩ := h
      obtain ⟨_, g, cur, e, h1, h2, _⟩ := hs
      exact ⟨g, h1, h2⟩
    | rp l t' y =>
      obtain ⟨rfl, _⟩ := h
      exact SRep.copy hI hid hg rfl hs _
    | ptr r p t' =>
      obtain ⟨rfl, _⟩ := h
      exact SRep.copy hI hid hg rfl hs _
    | view r p t' =>
      obtain ⟨rfl, _⟩ := h
      exact SRep.copy hI hid hg rfl hs _
    | dead => exact h.elim
    | tup _ => exact h.elim
    | hole _ _ => exact h.elim
    | part _ _ _ _ _ => exact h.elim

theorem pure_int (hI : Inv w0 L0 N vs T a w L) {o : Oper} {X Y : TypeId} {op : BinOp} {x y : Operand} {k : IntKind} {m n : Int} {d : Nat} {v : V} {log : List Nat} (ho : o.op = .binOp op X x y Y)
    (hx : a.eval x = .int k m) (hy : a.eval y = .int k n) (h : (intV op k m n).Runs T v log) : PureRes P o vs T a w L d v := by
  have hne : isShift op = false := by cases op <;> first | rfl | exact h.elim
  have key : ∀ c, ((binOp op X (.int k m) (.int k n)).run P w = .ok c w) → (execOp a.eval o).run P w = .ok (.value c) w := by
    intro c hc
    simp only [execOp, ho, hx, hy, eqGuard_at_int]
    simp [hc]
  cases op <;> simp only [intV] at h
  case add => obtain ⟨rfl, _⟩ := h; exact PureRes.still hI (key _ (by simp [binOp, Op.intArith])) (fun _ => rfl) SRep.mkInt
  case sub => obtain ⟨rfl, _⟩ := h; exact PureRes.still hI (key _ (by simp [binOp, Op.intArith])) (fun _ => rfl) SRep.mkInt
  case mul => obtain ⟨rfl, _⟩ := h; exact PureRes.still hI (key _ (by simp [binOp, Op.intArith])) (fun _ => rfl) SRep.mkInt
  case quo => obtain ⟨h0, rfl, _⟩ := h; exact PureRes.still hI (key _ (by simp [binOp, Op.intDiv]; intro hn; exact absurd hn (by simpa using h0))) (fun _ => rfl) SRep.mkInt
  case rem => obtain ⟨h0, rfl, _⟩ := h; exact PureRes.still hI (key _ (by simp [binOp, Op.intDiv]; intro hn; exact absurd hn (by simpa using h0))) (fun _ => rfl) SRep.mkInt
  case and => obtain ⟨rfl, _⟩ := h; exact PureRes.still hI (key _ (by simp [binOp, Op.intBits])) (fun _ => rfl) SRep.mkInt
  case or => obtain ⟨rfl, _⟩ := h; exact PureRes.still hI (key _ (by simp [binOp, Op.intBits])) (fun _ => rfl) SRep.mkInt
  case xor => obtain ⟨rfl, _⟩ := h; exact PureRes.still hI (key _ (by simp [binOp, Op.intBits])) (fun _ => rfl) SRep.mkInt
  case andNot => obtain ⟨rfl, _⟩ := h; exact PureRes.still hI (key _ (by simp [binOp, Op.intBits])) (fun _ => rfl) SRep.mkInt
  case eql => obtain ⟨rfl, _⟩ := h; exact PureRes.still hI (key _ (by simp [binOp, Op.intCmp])) (fun _ => rfl) SRep.mkBool
  case neq => obtain ⟨rfl, _⟩ := h; exact PureRes.still hI (key _ (by simp [binOp, Op.intCmp])) (fun _ => rfl) SRep.mkBool
  case lss => obtain ⟨rfl, _⟩ := h; exact PureRes.still hI (key _ (by simp [binOp, Op.intCmp])) (fun _ => rfl) SRep.mkBool
  case leq => obtain ⟨rfl, _⟩ := h; exact PureRes.still hI (key _ (by simp [binOp, Op.intCmp])) (fun _ => rfl) SRep.mkBool
  case gtr => obtain ⟨rfl, _⟩ := h; exact PureRes.still hI (key _ (by simp [binOp, Op.intCmp])) (fun _ => rfl) SRep.mkBool
  case geq => obtain ⟨rfl, _⟩ := h; exact PureRes.still hI (key _ (by simp [binOp, Op.intCmp])) (fun _ => rfl) SRep.mkBool
  all_goals exact h.elim

theorem pure_shift (hI : Inv w0 L0 N vs T a w L) {o : Oper} {X Y : TypeId} {op : BinOp} {x y : Operand} {k k' : IntKind} {m n : Int} {d : Nat} {v : V} {log : List Nat} (ho : o.op = .binOp op X x y Y)
    (hx : a.eval x = .int k m) (hy : a.eval y = .int k' n) (h : (shV op k m n).Runs T v log) : PureRes P o vs T a w L d v := by
  have key : ∀ c, ((binOp op X (.int k m) (.int k' n)).run P w = .ok c w) → (execOp a.eval o).run P w = .ok (.value c) w := by
    intro c hc
    simp only [execOp, ho, hx, hy, eqGuard_at_int]
    simp [hc]
  cases op <;> simp only [shV] at h
  case shl => obtain ⟨h0, rfl, _⟩ := h; exact PureRes.still hI (key _ (by simp at h0; simp [binOp, Op.shift, Int.not_lt.2 h0])) (fun _ => rfl) SRep.mkInt
  case shr => obtain ⟨h0, rfl, _⟩ := h; exact PureRes.still hI (key _ (by simp at h0; simp [binOp, Op.shift, Int.not_lt.2 h0])) (fun _ => rfl) SRep.mkInt
  all_goals exact h.elim

theorem pure_str (hI : Inv w0 L0 N vs T a w L) {o : Oper} {X Y : TypeId} {op : BinOp} {x y : Operand} {m n : ByteArray} {d : Nat} {v : V} {log : List Nat} (ho : o.op = .binOp op X x y Y)
    (hx : a.eval x = .string m) (hy : a.eval y = .string n) (h : (strV op m n).Runs T v log) : PureRes P o vs T a w L d v := by
  have key : ∀ c, ((binOp op X (.string m) (.string n)).run P w = .ok c w) → (execOp a.eval o).run P w = .ok (.value c) w := by
    intro c hc
    simp only [execOp, ho, hx, hy, eqGuard_at_string]
    simp [hc]
  cases op <;> simp only [strV] at h
  case add =>
    obtain ⟨h0, rfl, _⟩ := h
    refine PureRes.still hI (key _ ?_) (fun _ => rfl) SRep.mkStr
    simp at h0
    simp only [binOp, Op.stringOp, IntKind.max_i64]
    rw [if_neg (by omega)]
    rfl
  case eql => obtain ⟨rfl, _⟩ := h; exact PureRes.still hI (key _ (by simp [binOp, Op.stringOp])) (fun _ => rfl) SRep.mkBool
  case neq => obtain ⟨rfl, _⟩ := h; exact PureRes.still hI (key _ (by simp [binOp, Op.stringOp])) (fun _ => rfl) SRep.mkBool
  case lss => obtain ⟨rfl, _⟩ := h; exact PureRes.still hI (key _ (by simp [binOp, Op.stringOp])) (fun _ => rfl) SRep.mkBool
  case leq => obtain ⟨rfl, _⟩ := h; exact PureRes.still hI (key _ (by simp [binOp, Op.stringOp])) (fun _ => rfl) SRep.mkBool
  case gtr => obtain ⟨rfl, _⟩ := h; exact PureRes.still hI (key _ (by simp [binOp, Op.stringOp])) (fun _ => rfl) SRep.mkBool
  case geq => obtain ⟨rfl, _⟩ := h; exact PureRes.still hI (key _ (by simp [binOp, Op.stringOp])) (fun _ => rfl) SRep.mkBool
  all_goals exact h.elim

theorem pure_un (hI : Inv w0 L0 N vs T a w L) {o : Oper} {X : TypeId} {op : UnOp} {x : Operand} {u v : V} {d : Nat} {log log2 : List Nat} (ho : o.op = .unOp op X x)
    (hx : (opnd C X x).Runs T u log) (h : (unV op u).Runs T v log2) : PureRes P o vs T a w L d v := by
  have key : ∀ c, ((Op.unary op (a.eval x)).run P w = .ok c w) → (execOp a.eval o).run P w = .ok (.value c) w := by
    intro c hc
    simp [execOp, ho, hc]
  unfold unV at h
  split at h
  · split at h
    · obtain ⟨rfl, _⟩ := h
      refine PureRes.still hI (key _ ?_) (fun _ => rfl) SRep.mkInt
      rw [opnd_int hI hx]
      simp [Op.unary, Op.intArith]
    · exact h.elim
  · split at h
    · obtain ⟨rfl, _⟩ := h
      refine PureRes.still hI (key _ ?_) (fun _ => rfl) SRep.mkBool
      rw [opnd_bool hI hx]
      simp [Op.unary]
    · exact h.elim
  · exact h.elim
end
end Go.Proofs.Ytdfcejijcnhcaaa.C.Am
