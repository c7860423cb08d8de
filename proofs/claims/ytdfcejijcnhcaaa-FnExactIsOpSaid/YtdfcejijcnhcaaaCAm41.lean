/- A part of the proof: Am41. No conditions. -/
import Derived.Test.YtdfcejijcnhcaaaCAm40
set_option linter.unusedVariables false
set_option linter.unusedSimpArgs false
namespace Go.Proofs.Ytdfcejijcnhcaaa.C.Am

/-! ## 41. What a slot shows of a variable becomes the slot's own, before an operation takes it -/
def takeE (r s : Nat) (v : V) : Nat → List V → List (Nat × V)
  | _, [] => []
  | i, u :: l => cond (i == s) ((i, v) :: takeE r s v (i + 1) l) (cond (i == r || u.on r) ((i, .dead) :: takeE r s v (i + 1) l) (takeE r s v (i + 1) l))

def takeOk (r s : Nat) : Nat → List V → Bool
  | _, [] => true
  | i, u :: l => (i == s || i == r || !(u.on r && u.owns)) && takeOk r s (i + 1) l

def withTake (N : Nat) : List Nat → M (List (Nat × V)) → M (List (Nat × V))
  | [], m => m
  | s :: l, m => .get s fun v => match v with
    | .view r [] _ => .get r fun u => match u with
      | .d none n t x =>
        if n ≠ 0 ∧ t.depth ≠ 0 ∧ s < N ∧ s ≠ r then
          (allM 0 N).bind fun Ts => .chk (takeOk r s 0 Ts) (((withTake N l m).onT (setAll Ts (takeE r s (.d none n t x) 0 Ts))).bind fun ups => .ret (takeE r s (.d none n t x) 0 Ts ++ ups))
        else withTake N l m
      | _ => withTake N l m
    | _ => withTake N l m

section
variable {P : Program} {C : Ctx} {w w' w0 : World} {S S' : Nat → Prop} {L L' L0 : Nat → Lab} {s N : Nat} {vs : List Nat} {T T' : List V} {tm tm' : Array Value} {a : Act}

theorem takeE_mem {r s : Nat} {v : V} : {i : Nat} → {l : List V} → (z : Nat) → (u : V) → ((z, u) ∈ takeE r s v i l ↔ i ≤ z ∧ z < i + l.length ∧ ((z = s ∧ u = v) ∨ (z ≠ s ∧ u = .dead ∧ (z = r ∨ (l.getD (z - i) .dead).on r = true))))
  | i, [], z, u => by simp [takeE]; omega
  | i, u0 :: l, z, u => by
    have ih := takeE_mem (r := r) (s := s) (v := v) (i := i + 1) (l := l) z u
    have hsh : i + 1 ≤ z → (u0 :: l).getD (z - i) .dead = l.getD (z - (i + 1)) .dead := fun h => by
      rw [show z - i = (z - (i + 1)) + 1 by omega, List.getD_cons_succ]
    have hrest : (z, u) ∈ takeE r s v (i + 1) l → i ≤ z ∧ z < i + (u0 :: l).length ∧ ((z = s ∧ u = v) ∨ (z ≠ s ∧ u = .dead ∧ (z = r ∨ ((u0 :: l).getD (z - i) .dead).on r = true))) := by
      intro h
      obtain ⟨h1, h2, h3⟩ := ih.1 h
      rw [hsh h1]
      exact ⟨by omega, by simp only [List.length_cons]; omega, h3⟩
    have hback : z ≠ i → i ≤ z ∧ z < i + (u0 :: l).length ∧ ((z = s ∧ u = v) ∨ (z ≠ s ∧ u = .dead ∧ (z = r ∨ ((u0 :: l).getD (z - i) .dead).on r = true))) → (z, u) ∈ takeE r s v (i + 1) l := by
      rintro hz ⟨h1, h2, h3⟩
      simp only [List.length_cons] at h2
      rw [hsh (by omega)] at h3
      exact ih.2 ⟨by omega, by omega, h3⟩
    simp only [takeE]
    cases hc : (i == s) with
    | true =>
      have hi : i = s := by simpa using hc
      simp only [cond_true, List.mem_cons, Prod.mk.injEq]
      constructor
      · rintro (⟨rfl, rfl⟩ | h)
        · exact ⟨Nat.le_refl _, by simp, .inl ⟨hi, rfl⟩⟩
        · exact hrest h
      · intro h
        by_cases hz : z = i
        · obtain ⟨_, _, h | h⟩ := h
          · exact .inl ⟨hz, h.2⟩
          · exact absurd (hz.trans hi) h.1
        · exact .inr (hback hz h)
    | false =>
      have hi : i ≠ s := by simpa using hc
      simp only [cond_false]
      cases hc2 : (i == r || u0.on r) with
      | true =>
        simp only [cond_true, List.mem_cons, Prod.mk.injEq]
        constructor
        · rintro (⟨rfl, rfl⟩ | h)
          · refine ⟨Nat.le_refl _, by simp, .inr ⟨hi, rfl, ?_⟩⟩
            rw [Nat.sub_self, List.getD_cons_zero]
            simpa using hc2
          · exact hrest h
        · intro h
          by_cases hz : z = i
          · obtain ⟨_, _, h | h⟩ := h
            · exact absurd (hz.symm.trans h.1) hi
            · exact .inl ⟨hz, h.2.1⟩
          · exact .inr (hback hz h)
      | false =>
        simp only [cond_false]
        constructor
        · exact hrest
        · intro h
          by_cases hz : z = i
          · exfalso
            obtain ⟨_, _, h | h⟩ := h
            · exact hi (hz.symm.trans h.1)
            · simp only [Bool.or_eq_false_iff, beq_eq_false_iff_ne] at hc2
              subst hz
              rw [Nat.sub_self, List.getD_cons_zero] at h
              rcases h.2.2 with h | h
              · exact hc2.1 h
              · rw [hc2.2] at h; cases h
          · exact hback hz h

theorem takeE_get (hl : T.length = N) {r s : Nat} {v : V} (hs : s < N) (z : Nat) : (setAll T (takeE r s v 0 T)).getD z .dead = if z = s then v else if z = r ∨ (T.getD z .dead).on r = true then .dead else T.getD z .dead := by
  split
  · rename_i hz
    subst hz
    exact getD_setAll_mem (by rw [hl]; exact hs) (List.mem_map.2 ⟨(z, v), (takeE_mem z v).2 ⟨Nat.zero_le _, by rw [Nat.zero_add, hl]; exact hs, .inl ⟨rfl, rfl⟩⟩, rfl⟩) (fun u hu => by
      rcases ((takeE_mem z u).1 hu).2.2 with h | h
      · exact h.2
      · exact absurd rfl h.1)
  · rename_i hz
    split
    · rename_i hc
      by_cases hzN : z < N
      · exact getD_setAll_mem (by rw [hl]; exact hzN) (List.mem_map.2 ⟨(z, .dead), (takeE_mem z .dead).2 ⟨Nat.zero_le _, by rw [Nat.zero_add, hl]; exact hzN, .inr ⟨hz, rfl, hc⟩⟩, rfl⟩) (fun u hu => by
          rcases ((takeE_mem z u).1 hu).2.2 with h | h
          · exact absurd h.1 hz
          · exact h.2.1)
      · exact getD_out (by rw [length_setAll, hl]; omega)
    · rename_i hc
      refine getD_setAll _ _ _ (fun hm => ?_)
      obtain ⟨u, hu, he⟩ := List.mem_map.1 hm
      subst he
      rcases ((takeE_mem u.1 u.2).1 hu).2.2 with h | h
      · exact hz h.1
      · exact hc h.2.2

theorem takeOk_spec {r s : Nat} : {i : Nat} → {l : List V} → takeOk r s i l = true → ∀ z, i + z ≠ s → i + z ≠ r → (l.getD z .dead).on r = true → (l.getD z .dead).owns = false
  | _, [], _, z, _, _, h => by simp [V.on, V.root] at h
  | i, u :: l, h, z, hs, hr, hc => by
    simp only [takeOk, Bool.and_eq_true, Bool.or_eq_true, Bool.not_eq_true', beq_iff_eq] at h
    cases z with
    | zero =>
      simp only [List.getD_cons_zero] at hc ⊢
      rcases h.1 with h1 | h1
      · rcases h1 with h1 | h1
        · exact absurd h1 (by simpa using hs)
        · exact absurd h1 (by simpa using hr)
      · rw [hc, Bool.true_and] at h1
        exact h1
    | succ z =>
      simp only [List.getD_cons_succ] at hc ⊢
      exact takeOk_spec h.2 z (by omega) (by omega) hc

/-- One slot takes. -/
theorem Inv.takeIt (hI : Inv w0 L0 N vs T a w L) {s r n : Nat} {t t' : Ty} {x : t.den} (hs : T.getD s .dead = .view r [] t') (hr : T.getD r .dead = .d none n t x) (hn : n ≠ 0) (hd : t.depth ≠ 0) (hsN : s < N) (hsr : s ≠ r)
    (hok : takeOk r s 0 T = true) : ∃ L', Inv w0 L0 N vs (setAll T (takeE r s (.d none n t x) 0 T)) a w L' := by
  -- the others that hang on r go
  let kp : Nat → V → Bool := fun z v => z != s && z != r && v.on r
  have hI1 := Inv.killP hI (kp := kp) (by
    unfold killOk
    rw [List.all_eq_true]
    intro b hb
    obtain ⟨i, hi⟩ := List.mem_iff_getElem?.1 hb
    simp only [List.getElem?_mapIdx, Option.map_eq_some_iff] at hi
    obtain ⟨v, hv, rfl⟩ := hi
    have hgv : T.getD i .dead = v := by simp [List.getD_eq_getElem?_getD, hv]
    simp only [id_eq, Bool.or_eq_true]
    cases hroot : v.root with
    | none => exact .inr rfl
    | some q =>
      dsimp only
      cases hk : kp q (T.getD q .dead) with
      | false => exact .inr rfl
      | true =>
        right
        simp only [kp, Bool.and_eq_true, bne_iff_ne] at hk
        have := takeOk_spec hok q (by simpa using hk.1.1) (by simpa using hk.1.2) hk.2
        rw [this]
        rfl)
  obtain ⟨L1, hI1⟩ := hI1
  have hg : ∀ z, (killed kp T).getD z .dead = if kp z (T.getD z .dead) = true then .dead else T.getD z .dead := getD_killed kp T
  have hs1 : (killed kp T).getD s .dead = .view r [] t' := by rw [hg, if_neg (by simp [kp]), hs]
  have hr1 : (killed kp T).getD r .dead = .d none n t x := by rw [hg, if_neg (by simp [kp]), hr]
  have hno : noOn r s (killed kp T) = true := by
    unfold noOn
    rw [List.all_eq_true]
    intro b hb
    obtain ⟨i, hi⟩ := List.mem_iff_getElem?.1 hb
    simp only [List.getElem?_mapIdx, Option.map_eq_some_iff] at hi
    obtain ⟨v, hv, rfl⟩ := hi
    have hgv : (killed kp T).getD i .dead = v := by simp [List.getD_eq_getElem?_getD, hv]
    simp only [id_eq, Bool.or_eq_true, beq_iff_eq, bne_iff_ne]
    by_cases his : i = s
    · exact .inl his
    · right
      intro hroot
      rw [hg] at hgv
      split at hgv
      · subst hgv; simp [V.root] at hroot
      · rename_i hk
        by_cases hir : i = r
        · subst hir
          rw [hr] at hgv
          subst hgv
          simp [V.root] at hroot
        · apply hk
          rw [hgv]
          simp [kp, his, hir, V.on, hroot]
  have htt : t' = t := by
    have hsl := hI1.slots s
    rw [hs1] at hsl
    obtain ⟨hdp, hh⟩ := hsl
    rcases hh with ⟨_, _, l, n', x', h3, _⟩ | ⟨_, _, _, h, _⟩
    · rw [hr1] at h3
      injection h3 with _ _ h3 _
      exact h3.symm
    · rw [hr1] at h
      simp [V.isD] at h
  obtain ⟨L2, hI2⟩ := Inv.take hI1 (n := n) (t := t) (x := x) (p := []) (log := []) (s := s) (r := r) (by rw [hs1, htt]) hsN (by rw [hr1]; exact ⟨rfl, rfl⟩) hn hd hno
  · refine ⟨L2, ?_⟩
    have hlk : (killed kp T).length = N := hI1.len
    have : ((killed kp T).set r .dead).set s (.d none n t x) = setAll T (takeE r s (.d none n t x) 0 T) := by
      refine list_ext (by rw [List.length_set, List.length_set, hlk, length_setAll, hI.len]) (fun z => ?_)
      rw [takeE_get hI.len hsN, getD_set, getD_set, hg]
      by_cases hz : z = s
      · subst hz
        rw [if_pos ⟨rfl, by rw [List.length_set, hlk]; exact hsN⟩, if_pos rfl]
      · rw [if_neg (fun e => hz e.1), if_neg hz]
        by_cases hzr : z = r
        · subst hzr
          have hzN : z < (killed kp T).length := by
            apply Classical.byContradiction
            intro hge
            rw [getD_out (by rw [hI.len]; rw [hlk] at hge; omega)] at hr
            cases hr
          rw [if_pos ⟨rfl, hzN⟩, if_pos (.inl rfl)]
        · rw [if_neg (fun e => hzr e.1)]
          by_cases hon : (T.getD z .dead).on r = true
          · have hk : kp z (T.getD z .dead) = true := by
              show (z != s && z != r && (T.getD z .dead).on r) = true
              rw [hon]
              simp [hz, hzr]
            rw [if_pos hk, if_pos (.inr hon)]
          · have hk : ¬ kp z (T.getD z .dead) = true := by
              show ¬ (z != s && z != r && (T.getD z .dead).on r) = true
              rw [Bool.not_eq_true] at hon
              rw [hon]
              simp
            rw [if_neg hk, if_neg (fun h => h.elim hzr hon)]
    rw [← this]
    exact hI2

theorem withTake_runs {w : World} {a : Act} {m : M (List (Nat × V))} : {ss : List Nat} → {T : List V} → {L : Nat → Lab} → {ups : List (Nat × V)} → {log : List Nat} → Inv w0 L0 N vs T a w L → (withTake N ss m).Runs T ups log →
    ∃ T1 L1 ups2 log2, Inv w0 L0 N vs T1 a w L1 ∧ m.Runs T1 ups2 log2 ∧ setAll T ups = setAll T1 ups2
  | [], T, L, ups, log, hI, h => ⟨T, L, ups, log, hI, h, rfl⟩
  | s :: l, T, L, ups, log, hI, h => by
    obtain ⟨log1, rfl, h⟩ := h
    dsimp only at h
    generalize hvs : T.getD s .dead = v at h
    split at h
    · rename_i r t'
      obtain ⟨log2, rfl, h⟩ := h
      dsimp only at h
      generalize hur : T.getD r .dead = u at h
      split at h
      · rename_i n t x
        split at h
        · rename_i hc
          obtain ⟨hn, hd, hsN, hsr⟩ := hc
          obtain ⟨Ts, l1, l2, rfl, hall, hk, h⟩ := M.runs_bind h
          have hTs : Ts = T := by rw [allM_runs hall (by rw [Nat.zero_add, hI.len])]; rfl
          subst hTs
          obtain ⟨ups2, l3, l4, rfl, h1, h2⟩ := M.runs_bind h
          obtain ⟨rfl, _⟩ := h2
          obtain ⟨log', h1⟩ := M.onT_runs h1
          obtain ⟨L', hI'⟩ := Inv.takeIt hI hvs hur hn hd hsN hsr hk
          obtain ⟨T1, L1, ups3, log3, k1, k2, k3⟩ := withTake_runs hI' h1
          exact ⟨T1, L1, ups3, log3, k1, k2, by rw [setAll_append]; exact k3⟩
        · exact withTake_runs hI h
      · exact withTake_runs hI h
    · exact withTake_runs hI h

end
end Go.Proofs.Ytdfcejijcnhcaaa.C.Am
