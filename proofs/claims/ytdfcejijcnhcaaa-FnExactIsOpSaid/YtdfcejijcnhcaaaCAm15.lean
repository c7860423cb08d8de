/- A part of the proof: Am15. No conditions. -/
import Derived.Test.YtdfcejijcnhcaaaCAm14
set_option linter.unusedVariables false
set_option linter.unusedSimpArgs false
namespace Go.Proofs.Ytdfcejijcnhcaaa.C.Am

/-! ## 15. Giving up, taking, moving -/
def rnF (r d : Nat) : Nat → List Nat → Lab := fun s z => if s = r then .own d z else if s = d then .other else .own s z

/-- The slots that a predicate names are given up. -/
def killed (kp : Nat → V → Bool) (T : List V) : List V := T.mapIdx fun s v => if kp s v then .dead else v

/-- Nothing that stays hangs on what is given up. -/
def killOk (kp : Nat → V → Bool) (T : List V) : Bool :=
  (T.mapIdx fun s v => kp s v || ((match v.root with
    | none => true
    | some r => !(kp r (T.getD r .dead) && (T.getD r .dead).owns)))).all id

/-- Nobody but s hangs on r. -/
def noOn (r s : Nat) (T : List V) : Bool := (T.mapIdx fun s' v => s' == s || v.root != some r).all id

section
variable {P : Program} {C : Ctx} {w w' w0 : World} {S S' : Nat → Prop} {L L' L0 : Nat → Lab} {s N : Nat} {vs : List Nat} {T T' : List V} {tm tm' : Array Value} {a : Act}

theorem getD_mapIdx (g : Nat → V → V) (hg : ∀ s, g s .dead = .dead) (T : List V) (s : Nat) : (T.mapIdx g).getD s .dead = g s (T.getD s .dead) := by
  simp only [List.getD_eq_getElem?_getD, List.getElem?_mapIdx]
  cases T[s]? <;> simp [hg]

theorem getD_killed (kp : Nat → V → Bool) (T : List V) (s : Nat) : (killed kp T).getD s .dead = if kp s (T.getD s .dead) = true then .dead else T.getD s .dead := by
  unfold killed
  rw [getD_mapIdx _ (by intro s; split <;> rfl)]

theorem all_mapIdx {g : Nat → V → Bool} {T : List V} (h : (T.mapIdx g).all id = true) (s : Nat) (hs : s < T.length) : g s (T.getD s .dead) = true := by
  rw [List.all_eq_true] at h
  have : g s (T.getD s .dead) ∈ T.mapIdx g := by
    rw [List.mem_iff_getElem?]
    refine ⟨s, ?_⟩
    simp [List.getElem?_mapIdx, List.getElem?_eq_getElem hs]
  exact h _ this

theorem getD_out {T : List V} {s : Nat} (h : T.length ≤ s) : T.getD s .dead = .dead := by
  simp [List.getD_eq_getElem?_getD, List.getElem?_eq_none h]

theorem Inv.killP (hI : Inv w0 L0 N vs T a w L) {kp : Nat → V → Bool} (h : killOk kp T = true) : ∃ L', Inv w0 L0 N vs (killed kp T) a w L' := by
  refine ⟨_, Inv.kill hI (fun s => kp s (T.getD s .dead)) (by simp [killed, hI.len]) (fun s => getD_killed kp T s) (fun s r hs ho1 ho2 => ?_)⟩
  by_cases hlt : s < T.length
  · have h1 := all_mapIdx h s hlt
    rw [hs, Bool.false_or] at h1
    have hr : (T.getD s .dead).root = some r := by simpa [V.on] using ho1
    rw [hr] at h1
    simp only [ho2, Bool.and_true, Bool.not_eq_true'] at h1
    exact h1
  · rw [getD_out (by omega)] at ho1
    simp [V.on, V.root] at ho1

theorem noOn_on {r s : Nat} (h : noOn r s T = true) : ∀ s', s' ≠ s → (T.getD s' .dead).on r = false := by
  intro s' hs
  by_cases hlt : s' < T.length
  · have h1 := all_mapIdx h s' hlt
    simp only [Bool.or_eq_true, beq_iff_eq, hs, false_or, bne_iff_ne] at h1
    simpa [V.on] using h1
  · rw [getD_out (by omega)]
    rfl

/-- A place's data becomes the looking slot's own. -/
theorem Inv.take (hI : Inv w0 L0 N vs T a w L) {s r n : Nat} {p : List St} {t : Ty} {x : t.den} {log : List Nat} (hs : T.getD s .dead = .view r p t) (hsN : s < N) (hv : (viewD p (T.getD r .dead)).Runs T (none, ⟨n, t, x⟩) log)
    (hn : n ≠ 0) (hd : t.depth ≠ 0) (hno : noOn r s T = true) : ∃ L', Inv w0 L0 N vs ((T.set r .dead).set s (.d none n t x)) a w L' := by
  have hsr := hI.slots s
  rw [hs] at hsr
  obtain ⟨cs, hf, hown, _, hdp⟩ := view_own hI hsr hv
  have hrown := V.owns_of_deep hdp
  have hrs : r ≠ s := by
    rintro rfl
    rw [hs] at hrown
    cases hrown
  have hTs : ((T.set r .dead).set s (.d none n t x)).getD s .dead = .d none n t x := by
    rw [getD_set, if_pos ⟨rfl, by simp [hI.len, hsN]⟩]
  have hTr : ((T.set r .dead).set s (.d none n t x)).getD r .dead = .dead := by
    rw [getD_set, if_neg (fun h => hrs h.1), getD_set]
    split
    · rfl
    · rename_i h
      exact getD_out (Nat.le_of_not_lt fun hl => h ⟨rfl, hl⟩)
  refine ⟨_, Inv.updF (f := mvF r (node [] 0 p).1 (node [] 0 p).2 t.sz n s) (X := fun z => z = r ∨ z = s) (nl := fun _ => .free) hI (mvF_fun hrs) (Wd.refl hI _) (fun _ _ _ _ _ h => by cases h) hI.size (by simp [hI.len]) hI.dfr ?_ ?_ ?_ ?_ ?_⟩
  · intro k z q hz h
    rcases hz with rfl | rfl
    · unfold newLab at h
      split at h
      · obtain ⟨s0, q0, e0, f0⟩ := relab_own h
        exfalso
        rcases mvF_key f0 with ⟨_, _, _, _, h1, _⟩ | ⟨_, h1, h2, _⟩
        · exact hrs h1
        · exact h1 h2.symm
      · cases h
    · rw [hTs]
      simp [V.owns, hn, hd]
  · intro z r' hz hon hr'
    rcases hr' with rfl | rfl
    · exact absurd hon (by rw [noOn_on hno z (fun h => hz (.inr h))]; simp)
    · rw [hs]; rfl
  · intro z hz
    have hz' := not_or.1 hz
    rw [getD_set, if_neg (fun h => hz'.2 h.1), getD_set, if_neg (fun h => hz'.1 h.1)]
    exact ⟨rfl, rfl⟩
  · intro z r' hz hon
    rcases hz with rfl | rfl
    · rw [hTr] at hon; simp [V.on, V.root] at hon
    · rw [hTs] at hon; simp [V.on, V.root] at hon
  · intro z hz
    rcases hz with rfl | rfl
    · rw [hTr]; trivial
    · rw [hTs]
      exact ⟨by simp, cs, hf, Own.taken (Nat.le_refl _) hI (fun k hk => by
        rcases hk with hk | ⟨_, _, hk, _⟩
        · exact hk
        · cases hk) hown⟩


theorem rnF_key {r d s s' : Nat} {z z' : List Nat} (hh : rnF r d s z = .own s' z') : (s = r ∧ s' = d ∧ z' = z) ∨ (s ≠ d ∧ s ≠ r ∧ s' = s ∧ z' = z) := by
  unfold rnF at hh
  split at hh
  · injection hh with h1 h2; exact .inl ⟨by assumption, h1.symm, h2.symm⟩
  · split at hh
    · cases hh
    · injection hh with h1 h2; exact .inr ⟨by assumption, by assumption, h1.symm, h2.symm⟩

theorem rnF_fun {r d : Nat} (h : r ≠ d) : Fun (rnF r d) (fun s => s = r ∨ s = d) := by
  refine ⟨fun s q hs => ?_, fun s q s' q' hs h => ?_, fun s z s2 z2 s' z' h1 h2 => ?_, fun s z => ?_⟩
  · have := not_or.1 hs
    simp [rnF, this]
  · rcases rnF_key h with ⟨_, rfl, _⟩ | ⟨h1, h2, _⟩
    · exact .inr rfl
    · exact absurd hs (not_or.2 ⟨h2, h1⟩)
  · rcases rnF_key h1 with ⟨rfl, rfl, rfl⟩ | ⟨hs, hr, rfl, rfl⟩
    · rcases rnF_key h2 with ⟨rfl, _, h4⟩ | ⟨hs2, hr2, h3, _⟩
      · exact ⟨rfl, h4⟩
      · exact absurd h3.symm hs2
    · rcases rnF_key h2 with ⟨rfl, h3, _⟩ | ⟨hs2, hr2, h3, h4⟩
      · exact absurd h3 hs
      · exact ⟨h3, h4⟩
  · unfold rnF
    repeat' split
    all_goals simp

theorem rn_own {r d : Nat} {nl : Nat → Lab} (hI : Inv w0 L0 N vs T a w L) {k : Nat} {q : List Nat} (h : L k = .own r q) : newLab (rnF r d) w L nl k = .own d q := by
  rw [newLab_old hI (by rw [h]; simp), h]
  simp [relab, rnF]

theorem SL.rn {r d : Nat} {nl : Nat → Lab} {l : Option Nat} (hI : Inv w0 L0 N vs T a w L) (hrd : r ≠ d) (hr : l ≠ some r) (hd : l ≠ some d) : ∀ k, SL L l k → SL (newLab (rnF r d) w L nl) l k ∧ w.heap[k]? = w.heap[k]? := by
  rintro k (h | ⟨s, q, rfl, h⟩)
  · exact ⟨.inl (newLab_stable hI h), rfl⟩
  · refine ⟨.inr ⟨s, q, rfl, newLab_id hI (rnF_fun hrd) h (not_or.2 ⟨fun e => hr (by rw [e]), fun e => hd (by rw [e])⟩)⟩, rfl⟩

theorem TRep.rn {r d : Nat} {nl : Nat → Lab} (hI : Inv w0 L0 N vs T a w L) (hrd : r ≠ d) : {l : List (Nat × Option (Nat × (t : Ty) × t.den))} → {o : Nat} → {vs : List Value} → TRep w L r o l vs → TRep w (newLab (rnF r d) w L nl) d o l vs
  | [], _, _, h => h
  | (sz, c) :: l, o, vs, ⟨v, vs', h1, h2, h3⟩ => ⟨v, vs', h1, fun n t x hc => by
      obtain ⟨h4, cs, h5, h6⟩ := h2 n t x hc
      exact ⟨h4, cs, h5, Own.move (SL.rn hI hrd (by simp) (by simp)) (fun k d rest _ hk => ⟨rn_own hI hk, rfl⟩) h6⟩, TRep.rn hI hrd h3⟩

/-- A slot's own goes to another slot. -/
theorem Inv.moveTo (hI : Inv w0 L0 N vs T a w L) {t d : Nat} {v : V} (ht : T.getD t .dead = v) (hv : v.owns = true) (hst : ∀ u p, v ≠ .hole u p) (hpt : ∀ r i n t x, v ≠ .part r i n t x) (hd : d < N) (hid : (T.getD d .dead).idle = true)
    (hno : noOn t t T = true) (hrt : v.root ≠ some t) (hrd : v.root ≠ some d) : ∃ L', Inv w0 L0 N vs ((T.set t .dead).set d v) (a.put (some d) (a.tmps.getD t undef)) w L' := by
  have htd : t ≠ d := idle_ne hid (by rw [ht]; exact hv)
  have hTd : ((T.set t .dead).set d v).getD d .dead = v := by rw [getD_set, if_pos ⟨rfl, by simp [hI.len, hd]⟩]
  have hTt : ((T.set t .dead).set d v).getD t .dead = .dead := by
    rw [getD_set, if_neg (fun h => htd h.1), getD_set]
    split
    · rfl
    · rename_i h
      exact getD_out (Nat.le_of_not_lt fun hl => h ⟨rfl, hl⟩)
  refine ⟨_, Inv.updF (f := rnF t d) (X := fun z => z = t ∨ z = d) (nl := fun _ => .free) hI (rnF_fun htd) (Wd.refl hI _) (fun _ _ _ _ _ h => by cases h) (by simp [Act.put, hI.size]) (by simp [hI.len]) hI.dfr ?_ ?_ ?_ ?_ ?_⟩
  · intro k z q hz h
    rcases hz with rfl | rfl
    · unfold newLab at h
      split at h
      · obtain ⟨s0, q0, e0, f0⟩ := relab_own h
        exfalso
        rcases rnF_key f0 with ⟨_, h1, _⟩ | ⟨_, h1, h2, _⟩
        · exact htd h1
        · exact h1 h2.symm
      · cases h
    · rw [hTd]; exact hv
  · intro z r' hz hon hr'
    rcases hr' with rfl | rfl
    · exact absurd hon (by rw [noOn_on hno z (fun h => hz (.inl h))]; simp)
    · exact V.not_owns hid
  · intro z hz
    have hz' := not_or.1 hz
    rw [getD_set, if_neg (fun h => hz'.2 h.1), getD_set, if_neg (fun h => hz'.1 h.1)]
    refine ⟨rfl, ?_⟩
    show (a.tmps.setIfInBounds d _).getD z undef = _
    rw [getD_setA, if_neg (fun h => hz'.2 h.1)]
  · intro z r' hz hon
    rcases hz with rfl | rfl
    · rw [hTt] at hon; simp [V.on, V.root] at hon
    · rw [hTd] at hon
      exact hI.roots t r' (by rw [ht]; exact hon)
  · intro z hz
    rcases hz with rfl | rfl
    · rw [hTt]; trivial
    · rw [hTd]
      show SRep _ _ (a.tmps.setIfInBounds z (a.tmps.getD t undef)) z v w ((a.tmps.setIfInBounds z (a.tmps.getD t undef)).getD z undef)
      rw [getD_setA, if_pos ⟨rfl, by rw [hI.size]; exact hd⟩]
      have hs := hI.slots t
      rw [ht] at hs
      have hdeep : ∀ r', v.root = some r' → (T.getD r' .dead).deep = true → (((T.set t .dead).set z v).getD r' .dead).deep = true := by
        intro r' hr' h
        have h1 : r' ≠ z := idle_ne hid (V.owns_of_deep h)
        have h2 : r' ≠ t := fun e => hrt (by rw [hr', e])
        rw [getD_set, if_neg (fun h => h1 h.1), getD_set, if_neg (fun h => h2 h.1)]
        exact h
      cases v with
      | d l n t' x =>
        obtain ⟨h0, cs, hf, ho⟩ := hs
        exact ⟨fun r hr => hdeep r hr (h0 r hr), cs, hf, Own.move (SL.rn hI htd hrt hrd) (fun k i rest _ hk => ⟨rn_own hI hk, rfl⟩) ho⟩
      | box l n t' x =>
        obtain ⟨h0, g, cur, e, h1, h2, h3, h4, h5⟩ := hs
        exact ⟨fun r hr => hdeep r hr (h0 r hr), g, cur, e, h1, rn_own hI h2, h3, h4, Own.move (SL.rn hI htd hrt hrd) (fun k i rest _ hk => ⟨rn_own hI hk, rfl⟩) h5⟩
      | tup l =>
        obtain ⟨us, h1, h2⟩ := hs
        exact ⟨us, h1, TRep.rn hI htd h2⟩
      | hole u p => exact absurd rfl (hst u p)
      | part r i n t x => exact absurd rfl (hpt r i n t x)
      | dead => cases hv
      | rp _ _ _ => cases hv
      | ptr _ _ _ => cases hv
      | view _ _ _ => cases hv

end
end Go.Proofs.Ytdfcejijcnhcaaa.C.Am
