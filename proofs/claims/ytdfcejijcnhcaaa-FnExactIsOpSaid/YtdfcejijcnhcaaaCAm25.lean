/- A part of the proof: Am25. No conditions. -/
import Derived.Test.YtdfcejijcnhcaaaCAm24
set_option linter.unusedVariables false
set_option linter.unusedSimpArgs false
namespace Go.Proofs.Ytdfcejijcnhcaaa.C.Am

/-! ## 25. Stores -/
def addrOf (t : Nat) : V → Option (Nat × List St)
  | .ptr r p _ => some (r, p)
  | .box _ _ _ _ => some (t, [])
  | _ => none

/-- All slots. -/
def allM : Nat → Nat → M (List V)
  | _, 0 => .ret []
  | i, n + 1 => .get i fun v => (allM (i + 1) n).bind fun l => .ret (v :: l)

def depsU (r : Nat) (root : V) (src : Option Nat) : Nat → List V → List (Nat × V)
  | _, [] => []
  | i, v :: l => cond (v.on r && i != r && src != some i && !keepable root src v) ((i, .dead) :: depsU r root src (i + 1) l) (depsU r root src (i + 1) l)

def depsOk (r : Nat) (root : V) (src : Option Nat) : Nat → List V → Bool
  | _, [] => true
  | i, v :: l => (!(v.on r && i != r && src != some i && !keepable root src v) || !v.owns) && depsOk r root src (i + 1) l

/-- A value to be stored: its data; the slot that gives it up. -/
def valM (C : Ctx) (vs : List Nat) (X : TypeId) (x : Operand) (t : Ty) (n r : Nat) : M (t.den × Option Nat) :=
  (opnd C X x).bind fun v => match v with
  | .d none k tv y => if h : tv = t then
      if t.depth = 0 ∨ (n = 0 ∧ k = 0) then .ret (h ▸ y, none)
      else match x with
        | .tmp s => if n ≠ 0 ∧ (n ≤ k ∨ t.depth ≤ k) ∧ k ≠ 0 ∧ vs.contains s = false ∧ s ≠ r then .ret (h ▸ y, some s) else .fail
        | .const _ => if n ≤ k then .ret (h ▸ y, none) else .fail
        | _ => .fail
    else .fail
  | _ => .fail

def maskOf (strong : Bool) : List Nat → Nat
  | [] => cond strong 1 0
  | k :: l => 2 ^ (k + 1) ||| maskOf strong l

def kidsM {α : Type} (strong : Bool) (r s : Nat) : List Nat → M α → M α
  | [], m => m
  | k :: l, m => cond (k == s) (kidsM strong r s l m) (.get k fun v => .chk (!cond strong (v.on r) (v.deepOn r)) (kidsM strong r s l m))

/-- Nothing but slot s hangs on r (or: speaks of r's memory). -/
def bareM {α : Type} (strong : Bool) (r s : Nat) (kids : List Nat) (m : M α) : M α :=
  if r < 100000 then kidsM strong r s kids (.ask (bareKey r (maskOf strong (s :: kids))) m) else .fail

def storeM (C : Ctx) (vs : List Nat) (N : Nat) (bk : Option (List Nat)) (X : TypeId) (t : Nat) (x : Operand) : M (List (Nat × V)) :=
  .get t fun v => match addrOf t v with
  | none => .fail
  | some (r, p) => .get r fun u => (rootD p u).bind fun z =>
    if C.ty X = some z.2.t ∧ (u.root != some r) = true ∧ r < N then
      (valM C vs X x z.2.t z.2.n r).bind fun y =>
      (modRoot p u z.2.t y.1).bind fun u' =>
      cond (!u.deep && y.2.isNone) (.ret [(r, u')])
        (match bk with
          | some ks => .chk u.boxy (bareM false r (y.2.getD r) ks (.ret ((r, u') :: y.2.toList.map (fun s => (s, V.dead)))))
          | none => (allM 0 N).bind fun Ts => .chk (depsOk r u y.2 0 Ts) (.ret ((r, u') :: (y.2.toList.map (fun s => (s, V.dead)) ++ depsU r u y.2 0 Ts))))
    else .fail

section
variable {P : Program} {C : Ctx} {w w' w0 : World} {S S' : Nat → Prop} {L L' L0 : Nat → Lab} {s N : Nat} {vs : List Nat} {T T' : List V} {tm tm' : Array Value} {a : Act}

theorem allM_runs : {n i : Nat} → {l : List V} → {log : List Nat} → (allM i n).Runs T l log → i + n = T.length → l = T.drop i
  | 0, i, l, log, h, hl => by
    obtain ⟨rfl, _⟩ := h
    rw [List.drop_eq_nil_of_le (by omega)]
  | n + 1, i, l, log, h, hl => by
    obtain ⟨log', rfl, h⟩ := h
    obtain ⟨l', l1, l2, rfl, h1, h2⟩ := M.runs_bind h
    obtain ⟨rfl, _⟩ := h2
    rw [allM_runs h1 (by omega)]
    have hlt : i < T.length := by omega
    rw [List.getD_eq_getElem?_getD, List.getElem?_eq_getElem hlt]
    simp

theorem getD_setAll_mem {ups : List (Nat × V)} {T : List V} {s : Nat} {v : V} (hs : s < T.length) (hm : s ∈ ups.map (·.1)) (h : ∀ v', (s, v') ∈ ups → v' = v) : (setAll T ups).getD s .dead = v := by
  have key : ∀ (ups : List (Nat × V)) (T : List V), s < T.length → (∀ v', (s, v') ∈ ups → v' = v) → (T.getD s .dead = v ∨ s ∈ ups.map (·.1)) → (setAll T ups).getD s .dead = v := by
    intro ups
    induction ups with
    | nil =>
      intro T _ _ h
      exact h.resolve_right (by simp)
    | cons u l ih =>
      intro T hs h hm
      show (setAll (T.set u.1 u.2) l).getD s .dead = v
      refine ih _ (by simpa using hs) (fun v' hv => h v' (by simp [hv])) ?_
      by_cases hu : s = u.1
      · left
        rw [getD_set, if_pos ⟨hu, by rw [← hu]; exact hs⟩]
        exact h u.2 (by rw [hu]; simp)
      · rcases hm with hm | hm
        · left
          rw [getD_set, if_neg (fun e => hu e.1)]
          exact hm
        · right
          simp only [List.map_cons, List.mem_cons] at hm
          exact hm.resolve_left hu
  exact key ups T hs h (.inr hm)

theorem maskOf_bit {strong : Bool} {z : Nat} : {l : List Nat} → z ∉ l → (maskOf strong l).testBit (z + 1) = false
  | [], _ => by cases strong <;> simp [maskOf, Nat.testBit_succ]
  | k :: l, h => by
    simp only [List.mem_cons, not_or] at h
    simp only [maskOf, Nat.testBit_or, maskOf_bit h.2, Bool.or_false]
    rw [Nat.testBit_two_pow]
    simp
    omega

theorem maskOf_zero {strong : Bool} : {l : List Nat} → (maskOf strong l).testBit 0 = strong
  | [] => by cases strong <;> simp [maskOf]
  | k :: l => by
    simp only [maskOf, Nat.testBit_or, maskOf_zero (l := l)]
    rw [Nat.testBit_two_pow]
    simp

theorem kidsM_runs {α : Type} {strong : Bool} {r s : Nat} {m : M α} {x : α} : {l : List Nat} → {log : List Nat} → (kidsM strong r s l m).Runs T x log → (∀ k ∈ l, k ≠ s → cond strong ((T.getD k .dead).on r) ((T.getD k .dead).deepOn r) = false) ∧ ∃ log', m.Runs T x log'
  | [], log, h => ⟨by simp, log, h⟩
  | k :: l, log, h => by
    simp only [kidsM] at h
    cases hk : (k == s) with
    | true =>
      rw [hk] at h
      obtain ⟨h1, h2⟩ := kidsM_runs (l := l) h
      refine ⟨fun k' hk' hne => ?_, h2⟩
      rcases List.mem_cons.1 hk' with rfl | hk'
      · exact absurd (by simpa using hk) hne
      · exact h1 k' hk' hne
    | false =>
      rw [hk] at h
      obtain ⟨log', rfl, hc, h⟩ := h
      obtain ⟨h1, h2⟩ := kidsM_runs (l := l) h
      refine ⟨fun k' hk' hne => ?_, h2⟩
      rcases List.mem_cons.1 hk' with rfl | hk'
      · simpa using hc
      · exact h1 k' hk' hne

theorem bareM_runs {α : Type} {strong : Bool} {r s : Nat} {kids : List Nat} {m : M α} {x : α} {log : List Nat} (h : (bareM strong r s kids m).Runs T x log) :
    (∀ z, z ≠ s → cond strong ((T.getD z .dead).on r) ((T.getD z .dead).deepOn r) = false) ∧ ∃ log', m.Runs T x log' := by
  unfold bareM at h
  split at h
  · rename_i hr
    obtain ⟨h1, log', h⟩ := kidsM_runs h
    obtain ⟨⟨hq, _⟩, log2, rfl, h⟩ := h
    refine ⟨fun z hz => ?_, log2, h⟩
    by_cases hm : z ∈ kids
    · exact h1 z hm hz
    · have := ask_bare hr hq z (maskOf_bit (by simp [hz, hm]))
      rwa [maskOf_zero] at this
  · exact h.elim

theorem depsU_mem {r : Nat} {root : V} {src : Option Nat} : {i : Nat} → {l : List V} → (s : Nat) → (v : V) → ((s, v) ∈ depsU r root src i l ↔ v = .dead ∧ i ≤ s ∧ s < i + l.length ∧ ((l.getD (s - i) .dead).on r && s != r && src != some s && !keepable root src (l.getD (s - i) .dead)) = true)
  | i, [], s, v => by simp [depsU]; omega
  | i, v0 :: l, s, v => by
    have ih := depsU_mem (r := r) (root := root) (src := src) (i := i + 1) (l := l) s v
    have hsh : i + 1 ≤ s → (v0 :: l).getD (s - i) .dead = l.getD (s - (i + 1)) .dead := fun h => by
      rw [show s - i = (s - (i + 1)) + 1 by omega, List.getD_cons_succ]
    simp only [depsU]
    cases hc : (v0.on r && i != r && src != some i && !keepable root src v0) with
    | true =>
      simp only [cond_true, List.mem_cons, Prod.mk.injEq, ih, List.length_cons]
      constructor
      · rintro (⟨rfl, rfl⟩ | ⟨h1, h2, h3, h4⟩)
        · refine ⟨rfl, Nat.le_refl _, by omega, ?_⟩
          rw [Nat.sub_self, List.getD_cons_zero]
          exact hc
        · refine ⟨h1, by omega, by omega, ?_⟩
          rw [hsh h2]
          exact h4
      · rintro ⟨h1, h2, h3, h4⟩
        by_cases hs : s = i
        · exact .inl ⟨hs, h1⟩
        · refine .inr ⟨h1, by omega, by omega, ?_⟩
          rw [← hsh (by omega)]
          exact h4
    | false =>
      simp only [cond_false, ih, List.length_cons]
      constructor
      · rintro ⟨h1, h2, h3, h4⟩
        refine ⟨h1, by omega, by omega, ?_⟩
        rw [hsh h2]
        exact h4
      · rintro ⟨h1, h2, h3, h4⟩
        by_cases hs : s = i
        · subst hs
          rw [Nat.sub_self, List.getD_cons_zero, hc] at h4
          cases h4
        · refine ⟨h1, by omega, by omega, ?_⟩
          rw [← hsh (by omega)]
          exact h4

theorem depsOk_spec {r : Nat} {root : V} {src : Option Nat} : {i : Nat} → {l : List V} → depsOk r root src i l = true → ∀ s, s < l.length → ((l.getD s .dead).on r && (i + s) != r && src != some (i + s) && !keepable root src (l.getD s .dead)) = true → (l.getD s .dead).owns = false
  | _, [], _, s, hs, _ => by simp at hs
  | i, v0 :: l, h, s, hs, hc => by
    simp only [depsOk, Bool.and_eq_true, Bool.or_eq_true, Bool.not_eq_true'] at h
    cases s with
    | zero =>
      simp only [List.getD_cons_zero, Nat.add_zero] at hc ⊢
      rcases h.1 with h | h
      · rw [hc] at h; cases h
      · exact h
    | succ s =>
      simp only [List.getD_cons_succ] at hc ⊢
      exact depsOk_spec h.2 s (by simpa using hs) (by rwa [show i + 1 + s = i + (s + 1) by omega])

theorem deps_none {r : Nat} {root : V} {src : Option Nat} : {i : Nat} → {l : List V} → (∀ s, (l.getD s .dead).on r = true → i + s ≠ r → src ≠ some (i + s) → keepable root src (l.getD s .dead) = true) → depsU r root src i l = [] ∧ depsOk r root src i l = true
  | i, [], _ => ⟨rfl, rfl⟩
  | i, v :: l, h => by
    obtain ⟨h1, h2⟩ := deps_none (r := r) (root := root) (i := i + 1) (l := l) (fun s hs hr hn => by
      have := h (s + 1) (by simpa using hs) (by omega) (by rw [show i + (s + 1) = i + 1 + s by omega]; exact hn)
      simpa using this)
    have h0 : (v.on r && i != r && src != some i && !keepable root src v) = false := by
      rw [Bool.eq_false_iff]
      intro hc
      simp only [Bool.and_eq_true, Bool.not_eq_true', bne_iff_ne] at hc
      have := h 0 (by simpa using hc.1.1.1) (by simpa using hc.1.1.2) (by simpa using hc.1.2)
      rw [List.getD_cons_zero, hc.2] at this
      cases this
    simp [depsU, depsOk, h0, h1, h2]

/-- On a flat root nothing hangs but addresses. -/
theorem flat_keep (hI : Inv w0 L0 N vs T a w L) {r : Nat} (hb : (T.getD r .dead).deep = false) (hbx : ∀ A, a.tmps.getD r undef = .tuple A → False) (s : Nat) (hs : (T.getD s .dead).on r = true) : keepable (T.getD r .dead) none (T.getD s .dead) = true := by
  have h := hI.slots s
  generalize hv : T.getD s .dead = v at h hs
  have hno : (T.getD r .dead).deep = true → False := fun h => by rw [hb] at h; cases h
  have hroot : ∀ {q}, v.root = some q → q = r := fun h => by simpa [V.on, h] using hs
  cases v with
  | ptr r' p t => rfl
  | d l n t x => exact (hno (h.1 r (by simpa [V.on, V.root] using hs))).elim
  | box l n t x => exact (hno (h.1 r (by simpa [V.on, V.root] using hs))).elim
  | rp l t x => exact (hno (h.1 r (by simpa [V.on, V.root] using hs))).elim
  | view r' p t => have := hroot rfl; subst this; exact (hno h.1).elim
  | part r' i n t x =>
    have := hroot rfl
    subst this
    obtain ⟨_, A, _, _, h1, _⟩ := h
    exact (hbx A h1).elim
  | hole v p =>
    have := hroot (q := r) (by simpa [V.on, V.root] using hs)
    have h0 : v.root = none := h.1
    have h1 : v.root = some r := by simpa [V.on, V.root] using hs
    rw [h0] at h1
    cases h1
  | dead => simp [V.on, V.root] at hs
  | tup l => simp [V.on, V.root] at hs

/-- Data that needs no memory may be held anywhere. -/
theorem Own.void {n m : Nat} {t : Ty} {x : t.den} {q q' : List Nat} {o o' s' : Nat} {cs : List Value} (hm : m ≤ n) (h : Own w (fun _ => .free) (fun _ => False) s n t x q o cs) : Own w' L' S' s' m t x q' o' cs :=
  Own.moveLow hm (fun k hk => hk.elim) (fun k d rest _ hk => by cases hk) h

theorem SL_free {k : Nat} : ¬ SL (fun _ => Lab.free) none k := by
  rintro (h | ⟨_, _, h, _⟩) <;> cases h

theorem run_store_cells {X : TypeId} {t : Ty} (h : TyOk P C X t) {g o : Nat} {cur : Array Value} {e : TypeId} {c : Value} {cs : List Value} (hh : w.heap[g]? = some (.cells cur e (0, 0))) (hf : Form t cs c) (h1 : ∀ v ∈ cs, v.oneCell' = true)
    (hl : cs.length = t.sz) (hb : o + t.sz ≤ cur.size) : (Instr.storeAt X (.pointer (some ⟨g, o, none⟩)) c).run P w = .ok () (w.setRow g (putCells cur o cs)) := by
  have hc := Form.cells hf h1
  have hsz : c.cells.size = t.sz := by rw [← Array.length_toList, hc, hl]
  have hst := run_storeCells_at P g o e cs 0 cur w hh (by simp; omega) h1
  simp only [Nat.add_zero] at hst
  simp [Instr.storeAt, Instr.sureAddr, storeVar, h.run_sizeOf, hsz, hc, hst, putCells]

theorem step_store (hI : Inv w0 L0 N vs T a w L) (hC : CtxOk P C) {o : Oper} {X : TypeId} {t : Nat} {x : Operand} {ups : List (Nat × V)} {log : List Nat} (ho : o.op = .store X (.tmp t) x) (hdst : o.dst = none)
    {bk : Option (List Nat)} (h : (storeM C vs N bk X t x).Runs T ups log) : Step P o w0 L0 N vs (setAll T ups) a w := by
  obtain ⟨log0, rfl, h⟩ := h
  have hst := hI.slots t
  -- the address
  have haddr : ∀ r p, addrOf t (T.getD t .dead) = some (r, p) → ∃ g, a.eval (.tmp t) = .pointer (some ⟨g, (node [] 0 p).2, none⟩) ∧ L g = .own r (node [] 0 p).1 := by
    intro r p he
    generalize T.getD t .dead = v at he hst
    cases v with
    | ptr r2 p2 t2 =>
      simp only [addrOf, Option.some.injEq, Prod.mk.injEq] at he
      obtain ⟨rfl, rfl⟩ := he
      exact hst
    | box l n t2 x2 =>
      simp only [addrOf, Option.some.injEq, Prod.mk.injEq] at he
      obtain ⟨rfl, rfl⟩ := he
      obtain ⟨_, g, cur, e, h1, h2, _⟩ := hst
      exact ⟨g, h1, h2⟩
    | dead => cases he
    | tup _ => cases he
    | d _ _ _ _ => cases he
    | rp _ _ _ => cases he
    | view _ _ _ => cases he
    | hole _ _ => cases he
    | part _ _ _ _ _ => cases he
  dsimp only at h
  split at h
  · exact h.elim
  · rename_i r p he
    obtain ⟨g, hev, hg⟩ := haddr r p he
    obtain ⟨log1, rfl, h⟩ := h
    obtain ⟨⟨l, n', t', x'⟩, l1, l2, rfl, hz, h⟩ := M.runs_bind h
    dsimp only at h
    split at h
    · rename_i hc
      obtain ⟨hX, hself, hrN⟩ := hc
      obtain ⟨⟨y, src⟩, l3, l4, rfl, hv, h⟩ := M.runs_bind h
      obtain ⟨u', l5, l6, rfl, hm, h⟩ := M.runs_bind h
      have hups : ups = (r, u') :: (src.toList.map (fun s => (s, V.dead)) ++ depsU r (T.getD r .dead) src 0 T) ∧ depsOk r (T.getD r .dead) src 0 T = true := by
        cases hfl : (!(T.getD r .dead).deep && src.isNone) with
        | false =>
          rw [hfl] at h
          dsimp only [cond_false] at h
          split at h
          · rename_i ks
            obtain ⟨hbox, h⟩ := h
            obtain ⟨hbare, _, h⟩ := bareM_runs h
            obtain ⟨rfl, _⟩ := h
            obtain ⟨e1, e2⟩ := deps_none (r := r) (root := T.getD r .dead) (src := src) (i := 0) (l := T) (fun s hs hr hn => by
              rw [Nat.zero_add] at hr hn
              have hd : (T.getD s .dead).deepOn r = false := by
                cases hsrc : src with
                | none =>
                  rw [hsrc] at hbare
                  exact hbare s hr
                | some s0 =>
                  rw [hsrc] at hbare hn
                  exact hbare s (fun e => hn (by rw [e]; rfl))
              unfold V.deepOn at hd
              rw [hs, Bool.true_and] at hd
              have hnd : (T.getD r .dead).isD = false := by
                generalize T.getD r .dead = u at hbox
                cases u <;> simp [V.boxy, V.isD] at hbox ⊢
              generalize T.getD s .dead = v at hd
              cases v with
              | ptr r2 p2 t2 =>
                simp only [keepable, hnd, Bool.not_false, Bool.and_true, Bool.or_eq_true]
                exact .inr (by simpa using hd)
              | _ => simp at hd)
            rw [e1, e2, List.append_nil]
            exact ⟨rfl, rfl⟩
          · obtain ⟨Ts, l7, l8, rfl, hall, h⟩ := M.runs_bind h
            obtain ⟨hdok, rfl, _⟩ := h
            have hTs : Ts = T := by rw [allM_runs hall (by rw [Nat.zero_add, hI.len])]; rfl
            subst hTs
            exact ⟨rfl, hdok⟩
        | true =>
          rw [hfl] at h
          obtain ⟨rfl, _⟩ := h
          simp only [Bool.and_eq_true, Bool.not_eq_true', Option.isNone_iff_eq_none] at hfl
          obtain ⟨hdeep, rfl⟩ := hfl
          have hbx : ∀ A, a.tmps.getD r undef = .tuple A → False := by
            intro A hA
            have hsr := hI.slots r
            rw [hA] at hsr
            generalize T.getD r .dead = u at hsr hz hdeep
            cases u with
            | box l2 n t x => obtain ⟨_, _, _, _, h1, _⟩ := hsr; cases h1
            | d l2 n t x =>
              simp only [rootD] at hz
              split at hz
              · obtain ⟨z, m1, m2, rfl, z1, z2⟩ := M.runs_bind hz
                cases n with
                | zero => cases t <;> simp only [getP] at z1 <;> exact z1.elim
                | succ n =>
                  cases t with
                  | slice e t => simp [V.deep, Ty.depth] at hdeep
                  | _ => simp only [getP] at z1; exact z1.elim
              · exact hz.elim
            | dead => exact hz.elim
            | tup _ => exact hz.elim
            | rp _ _ _ => exact hz.elim
            | ptr _ _ _ => exact hz.elim
            | view _ _ _ => exact hz.elim
            | hole _ _ => exact hz.elim
            | part _ _ _ _ _ => exact hz.elim
          obtain ⟨e1, e2⟩ := deps_none (r := r) (root := T.getD r .dead) (src := none) (i := 0) (l := T) (fun s hs _ _ => flat_keep hI hdeep hbx s hs)
          rw [e1, e2]
          exact ⟨rfl, rfl⟩
      obtain ⟨rfl, hdok⟩ := hups
      generalize hTs : T = Ts at *
      obtain ⟨hb, hlend, _, howns, hisd⟩ := rootD_inB hz (hI.slots r)
      obtain ⟨g', cur, e, k1, k2, k3, k4⟩ := hb
      obtain rfl := hI.inj g g' r _ hg k1
      -- the value
      have hval : ∃ cs, Form t' cs (a.eval x) ∧ (∀ v ∈ cs, v.oneCell' = true) ∧ cs.length = t'.sz ∧ (∀ s, src = some s → s ≠ r ∧ s ∉ vs ∧ ∃ k y, n' ≠ 0 ∧ k ≠ 0 ∧ t'.depth ≠ 0 ∧ Ts.getD s .dead = .d none k t' y) ∧
          (∀ (L' : Nat → Lab) (w' : World) (u : V) q o', (∀ k, L k = .stable → L' k = .stable ∧ w'.heap[k]? = w.heap[k]?) →
            (∀ s k z i, src = some s → L k = .own s (i :: z) → i < t'.sz → w'.heap[k]? = w.heap[k]? ∧ (z.length < n' → L' k = .own r (q ++ (o' + i) :: z)) ∧ (n' ≤ z.length → L' k = .stable)) →
            Own w' L' (SL L' u.root) r n' t' y q o' cs) := by
        obtain ⟨v, m1, m2, rfl, hv1, hv2⟩ := M.runs_bind hv
        split at hv2
        · rename_i k tv y0
          split at hv2
          · rename_i htv
            subst htv
            have hrep : ∃ s0, SRep L Ts a.tmps s0 (.d none k tv y0) w (a.eval x) ∧ (∀ s, x = .tmp s → s0 = s ∧ Ts.getD s .dead = .d none k tv y0) ∧ ((∀ s, x ≠ .tmp s) → ∀ L T tm s w, SRep L T tm s (.d none k tv y0) w (a.eval x)) := by
              rcases opnd_rep hI hv1 with ⟨s, rfl, hv, hs⟩ | ⟨_, hs⟩
              · exact ⟨s, hs, fun s' he => by cases he; exact ⟨rfl, hv.symm⟩, fun h => absurd rfl (h s)⟩
              · cases x with
                | tmp s =>
                  obtain ⟨_, _, hv, _⟩ := hv1
                  refine ⟨s, ?_, fun s' he => by cases he; exact ⟨rfl, hv.symm⟩, fun h => absurd rfl (h s)⟩
                  rw [hv]
                  exact hI.slots s
                | const c => exact ⟨0, hs _ _ _ _ _, fun s' he => (by cases he), fun _ => hs⟩
                | func c => exact ⟨0, hs _ _ _ _ _, fun s' he => (by cases he), fun _ => hs⟩
                | global c => exact hv1.elim
            obtain ⟨s0, ⟨_, cs, hf, how⟩, hx, hx2⟩ := hrep
            have hstab : ∀ {L' : Nat → Lab} {w' : World} {u : V}, (∀ k, L k = .stable → L' k = .stable ∧ w'.heap[k]? = w.heap[k]?) → ∀ k, SL L none k → SL L' u.root k ∧ w'.heap[k]? = w.heap[k]? := by
              intro L' w' u H k hk
              rcases hk with hk | ⟨_, _, hk, _⟩
              · exact ⟨.inl (H k hk).1, (H k hk).2⟩
              · cases hk
            refine ⟨cs, hf, Own.one how, Own.len how, ?_⟩
            split at hv2
            · rename_i hd
              obtain ⟨hv2, _⟩ := hv2
              cases hv2
              refine ⟨fun s hs => (by cases hs), fun L' w' u q o' H1 _ => ?_⟩
              rcases hd with hd | ⟨rfl, rfl⟩
              · exact Own.flat hd how
              · exact Own.of_rd (Rd.move (hstab H1) (Own.rd0 how))
            · rename_i hd
              cases x with
              | tmp s =>
                dsimp only at hv2
                split at hv2
                · rename_i hcc
                  obtain ⟨hv2, _⟩ := hv2
                  cases hv2
                  obtain ⟨c1, c2, ck, c3, c4⟩ := hcc
                  obtain ⟨rfl, hT⟩ := hx s rfl
                  refine ⟨fun s' hs => ?_, fun L' w' u q o' H1 H2 => ?_⟩
                  · injection hs with hs
                    subst hs
                    exact ⟨c4, fun hm => (by rw [List.contains_iff_mem.2 hm] at c3; cases c3), k, _, c1, ck, fun h => hd (.inl h), hT⟩
                  · obtain ⟨k9, c9, how9⟩ := Own.atLeast c2 how
                    refine Own.moveLow c9 (hstab H1) (fun k d rest hdd hk => ?_) how9
                    have hk' : L k = .own s0 (d :: rest) := by simpa using hk
                    have := H2 s0 k rest d rfl hk' hdd
                    exact ⟨this.1, this.2.1, fun h => .inl (this.2.2 h)⟩
                · exact hv2.elim
              | const c =>
                dsimp only at hv2
                split at hv2
                · rename_i hnk
                  obtain ⟨hv2, _⟩ := hv2
                  cases hv2
                  refine ⟨fun s hs => (by cases hs), fun L' w' u q o' H1 _ => ?_⟩
                  obtain ⟨_, cs', hf', how'⟩ := hx2 (by simp) (fun _ => .free) [] #[] 0 w
                  have hcs : cs' = cs := by
                    have e1 := Form.cells hf' (Own.one how')
                    have e2 := Form.cells hf (Own.one how)
                    exact e1.symm.trans e2
                  subst hcs
                  refine Own.moveLow hnk (fun k hk => absurd hk SL_free) (fun k d rest _ hk => by cases hk) how'
                · exact hv2.elim
              | func f => exact hv2.elim
              | global g => exact hv2.elim
          · exact hv2.elim
        · exact hv2.elim
      obtain ⟨cs, hf, hone, hlen, hsrc, hown⟩ := hval
      have hrun : (execOp a.eval o).run P w = .ok .skip (w.setRow g (putCells cur (node [] 0 p).2 cs)) := by
        simp [execOp, ho, hev, run_store_cells (hC X t' hX) k2 hf hone hlen k3]
      have hsr : src ≠ some r := fun e => (hsrc r e).1 rfl
      have hlenT : (setAll Ts ((r, u') :: (src.toList.map (fun s => (s, V.dead)) ++ depsU r (Ts.getD r .dead) src 0 Ts))).length = N := by rw [length_setAll, hI.len]
      have hsN : ∀ s, src = some s → s < N := by
        intro s hs
        obtain ⟨_, _, k, y', _, _, _, hT⟩ := hsrc s hs
        rcases Nat.lt_or_ge s N with h | h
        · exact h
        · rw [getD_out (by rw [hI.len]; exact h)] at hT; cases hT
      have hkeys : ∀ s v, (s, v) ∈ ((r, u') :: (src.toList.map (fun s => (s, V.dead)) ++ depsU r (Ts.getD r .dead) src 0 Ts)) → (s = r ∧ v = u') ∨ (src = some s ∧ v = .dead) ∨ (v = .dead ∧ ((Ts.getD s .dead).on r && s != r && src != some s && !keepable (Ts.getD r .dead) src (Ts.getD s .dead)) = true) := by
        intro s v hm
        rcases List.mem_cons.1 hm with hm | hm
        · injection hm with h1 h2
          exact .inl ⟨h1, h2⟩
        · rcases List.mem_append.1 hm with hm | hm
          · obtain ⟨s', hs', he⟩ := List.mem_map.1 hm
            injection he with h1 h2
            subst h1
            exact .inr (.inl ⟨by simpa using hs', h2.symm⟩)
          · obtain ⟨h1, _, _, h2⟩ := (depsU_mem s v).1 hm
            exact .inr (.inr ⟨h1, by simpa using h2⟩)
      intro K Q hK
      unfold Oper.wp
      rw [hrun, Oper.upon_skip, hdst]
      refine hK a _ _ (Inv.store (m := n') (src := src) hI rfl hz hm (by simpa using hself) hg k2 k3 hlen ?_ hlenT ?_ ?_ ?_ ?_)
      · intro s hs
        obtain ⟨h1, h2, k, y', h3, h4, h5, h6⟩ := hsrc s hs
        refine ⟨h1, h2, ?_, by rw [h6]; rfl⟩
        refine getD_setAll_mem (by rw [hI.len]; exact hsN s hs) ?_ (fun v hm => ?_)
        · simp [hs]
        · rcases hkeys s v hm with ⟨h, _⟩ | ⟨_, h⟩ | ⟨h, _⟩
          · exact absurd h h1
          · exact h
          · exact h
      · refine getD_setAll_mem (by rw [hI.len]; exact hrN) (by simp) (fun v hm => ?_)
        rcases hkeys r v hm with ⟨_, h⟩ | ⟨h, _⟩ | ⟨_, h⟩
        · exact h
        · exact absurd h hsr
        · simp at h
      · intro s hs hs2 hon
        have hslt : s < N := by
          rcases Nat.lt_or_ge s N with h | h
          · exact h
          · rw [getD_out (by rw [hI.len]; exact h)] at hon; simp [V.on, V.root] at hon
        cases hk : keepable (Ts.getD r .dead) src (Ts.getD s .dead) with
        | true =>
          refine .inr ⟨getD_setAll _ _ _ (fun hm => ?_), rfl⟩
          obtain ⟨u, hu, he⟩ := List.mem_map.1 hm
          rcases hkeys s u.2 (by rw [← he]; exact hu) with ⟨h, _⟩ | ⟨h, _⟩ | ⟨_, h⟩
          · exact hs h
          · exact hs2 h
          · rw [hk] at h; simp at h
        | false =>
          have hc : ((Ts.getD s .dead).on r && s != r && src != some s && !keepable (Ts.getD r .dead) src (Ts.getD s .dead)) = true := by
            rw [hon, hk]
            simp only [Bool.and_eq_true, bne_iff_ne, Bool.not_false, and_true, true_and]
            exact ⟨hs, hs2⟩
          refine .inl ⟨getD_setAll_mem (by rw [hI.len]; exact hslt) ?_ (fun v hm => ?_), ?_⟩
          · rw [List.mem_map]
            exact ⟨(s, .dead), by
              refine List.mem_cons_of_mem _ (List.mem_append_right _ ((depsU_mem s .dead).2 ⟨rfl, Nat.zero_le _, ?_, ?_⟩))
              · rw [Nat.zero_add, hI.len]; exact hslt
              · simpa using hc, rfl⟩
          · rcases hkeys s v hm with ⟨h, _⟩ | ⟨h, _⟩ | ⟨h, _⟩
            · exact absurd h hs
            · exact absurd h hs2
            · exact h
          · exact depsOk_spec hdok s (by rw [hI.len]; exact hslt) (by simpa using hc)
      · intro s hs hs2 hon
        refine getD_setAll _ _ _ (fun hm => ?_)
        obtain ⟨u, hu, he⟩ := List.mem_map.1 hm
        rcases hkeys s u.2 (by rw [← he]; exact hu) with ⟨h, _⟩ | ⟨h, _⟩ | ⟨_, h⟩
        · exact hs h
        · exact hs2 h
        · rw [hon] at h; simp at h
      · refine hown _ _ _ _ _ (fun k hk => ⟨newLab_stable hI hk, setRow_other w g k _ (by rintro rfl; rw [hg] at hk; cases hk)⟩) (fun s k z i hs hk hi => ?_)
        have hne := (hsrc s hs).1
        have hlab : newLab (stF r (node [] 0 p).1 (node [] 0 p).2 t'.sz n' src) w L (fun _ => .free) k = if z.length < n' then .own r ((node [] 0 p).1 ++ ((node [] 0 p).2 + i) :: z) else .stable := by
          rw [newLab_old hI (by rw [hk]; simp), hk]
          simp only [relab, stF]
          rw [if_neg hne, if_pos hs, if_pos hi]
        refine ⟨setRow_other w g k _ (by rintro rfl; rw [hg] at hk; injection hk with hk _; exact hne hk.symm), fun h => by rw [hlab, if_pos h], fun h => by rw [hlab, if_neg (by omega)]⟩
    · exact h.elim

end
end Go.Proofs.Ytdfcejijcnhcaaa.C.Am
