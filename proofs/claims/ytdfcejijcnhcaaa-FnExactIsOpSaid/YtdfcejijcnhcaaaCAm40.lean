/- A part of the proof: Am40. No conditions. -/
import Derived.Test.YtdfcejijcnhcaaaCAm39
set_option linter.unusedVariables false
set_option linter.unusedSimpArgs false
namespace Go.Proofs.Ytdfcejijcnhcaaa.C.Am

/-! ## 40. Tuples: their parts go to slots of their own, then are taken out -/
abbrev Comp := Nat × Option (Nat × (t : Ty) × t.den)

def compV (d i : Nat) : Option (Nat × (t : Ty) × t.den) → Option V
  | some (n, ⟨t, x⟩) => if n ≠ 0 ∧ t.depth ≠ 0 then some (.part d i n t x) else none
  | none => none

def partsOf (d : Nat) (h : Nat → Option Nat) : Nat → Nat → List Comp → List ((Nat × Nat × Nat) × V)
  | _, _, [] => []
  | i, o, (sz, c) :: l => match h i, compV d i c with
    | some e, some v => ((e, o, sz), v) :: partsOf d h (i + 1) (o + sz) l
    | _, _ => partsOf d h (i + 1) (o + sz) l

def restOf : List Comp → List Comp
  | [] => []
  | (sz, c) :: l => (sz, if compOwns c = true then none else c) :: restOf l

def idleAll {α : Type} : List Nat → M α → M α
  | [], m => m
  | s :: l, m => .get s fun v => .chk v.idle (idleAll l m)

/-- A tuple is moved; what it owns waits in the slots h. -/
def tupUps (vs : List Nat) (N d s : Nat) (h : Nat → Option Nat) : M (List (Nat × V)) :=
  .get s fun v => match v with
  | .tup l =>
    if nodupB (d :: s :: (partsOf d h 0 0 l).map (·.1.1)) = true ∧ ((partsOf d h 0 0 l).all fun p => decide (p.1.1 < N)) = true ∧ vs.contains s = false ∧ vs.contains d = true then
      idleAll (d :: (partsOf d h 0 0 l).map (·.1.1)) (.ret ((s, V.dead) :: ((partsOf d h 0 0 l).map (fun p => (p.1.1, p.2)) ++ [(d, .tup (restOf l))])))
    else .fail
  | _ => .fail

def extUps (vs : List Nat) (d : Nat) (x : Operand) (i : Nat) : M (List (Nat × V)) :=
  match x with
  | .tmp s => .get d fun vd => match vd with
    | .part r j n t y => if r = s ∧ j = i ∧ vs.contains d = false ∧ n ≠ 0 ∧ t.depth ≠ 0 then .ret [(d, .d none n t y)] else .fail
    | _ => .chk vd.idle (.get s fun v => match v with
      | .tup l => match l[i]? with
        | some (_, some (n, ⟨t, y⟩)) => if n = 0 ∨ t.depth = 0 then .ret [(d, .d none n t y)] else .fail
        | _ => .fail
      | _ => .fail)
  | _ => .fail

/-- The rows of s go to the slots of the parts. -/
def partF (s d : Nat) (ms : List (Nat × Nat × Nat)) : Nat → List Nat → Lab := fun r z =>
  if r = s then match z with
    | y :: rest => match ms.find? (fun p => decide (p.2.1 ≤ y) && decide (y < p.2.1 + p.2.2)) with
      | some p => .own p.1 ((y - p.2.1) :: rest)
      | none => .other
    | [] => .other
  else if r = d ∨ r ∈ ms.map (·.1) then .other else .own r z

theorem partF_key {s d : Nat} {ms : List (Nat × Nat × Nat)} {r : Nat} {z : List Nat} {s' : Nat} {z' : List Nat} (h : partF s d ms r z = .own s' z') :
    (r = s ∧ ∃ p y rest, p ∈ ms ∧ z = y :: rest ∧ p.2.1 ≤ y ∧ y < p.2.1 + p.2.2 ∧ s' = p.1 ∧ z' = (y - p.2.1) :: rest) ∨ (r ≠ s ∧ r ≠ d ∧ r ∉ ms.map (·.1) ∧ s' = r ∧ z' = z) := by
  unfold partF at h
  split at h
  · rename_i hr
    split at h
    · rename_i y rest
      split at h
      · rename_i p hp
        injection h with h1 h2
        have hb := List.find?_some hp
        simp only [Bool.and_eq_true, decide_eq_true_eq] at hb
        exact .inl ⟨hr, p, y, rest, List.mem_of_find?_eq_some hp, rfl, hb.1, hb.2, h1.symm, h2.symm⟩
      · cases h
    · cases h
  · rename_i hr
    split at h
    · cases h
    · rename_i hn
      have hn := not_or.1 hn
      injection h with h1 h2
      exact .inr ⟨hr, hn.1, hn.2, h1.symm, h2.symm⟩

theorem partF_fun {s d b : Nat} {ms : List (Nat × Nat × Nat)} (hs : Srt b ms) (hn : nodupB (ms.map (·.1)) = true) : Fun (partF s d ms) (fun r => r = s ∨ r = d ∨ r ∈ ms.map (·.1)) := by
  refine ⟨fun r z hX => ?_, fun r z s' z' hX h => ?_, fun r z r2 z2 s' z' h1 h2 => ?_, fun r z => ?_⟩
  · have h1 := not_or.1 hX
    unfold partF
    rw [if_neg h1.1, if_neg h1.2]
  · rcases partF_key h with ⟨_, p, _, _, hp, _, _, _, rfl, _⟩ | ⟨h1, h2, h3, rfl, _⟩
    · exact .inr (.inr (List.mem_map_of_mem hp))
    · rcases hX with h | h | h
      · exact absurd h h1
      · exact absurd h h2
      · exact absurd h h3
  · rcases partF_key h1 with ⟨rfl, p, y, rest, hp, rfl, b1, b2, rfl, rfl⟩ | ⟨g1, g2, g3, rfl, rfl⟩
    · rcases partF_key h2 with ⟨rfl, p', y', rest', hp', rfl, b1', b2', he, h3⟩ | ⟨_, _, g3, h3, _⟩
      · have f1 := find_of_mem hn hp
        have f2 := find_of_mem hn hp'
        rw [he] at f1
        rw [f1] at f2
        cases f2
        simp only [List.cons.injEq] at h3
        obtain ⟨h3, rfl⟩ := h3
        exact ⟨rfl, by rw [show y = y' by omega]⟩
      · exact absurd (h3 ▸ List.mem_map_of_mem hp) g3
    · rcases partF_key h2 with ⟨_, p', _, _, hp', _, _, _, h3, _⟩ | ⟨_, _, _, h3, h4⟩
      · exact absurd (h3 ▸ List.mem_map_of_mem hp') g3
      · exact ⟨h3, h4⟩
  · unfold partF
    repeat' split
    all_goals simp

theorem partF_at {s d b : Nat} {ms : List (Nat × Nat × Nat)} (hs : Srt b ms) (hn : nodupB (ms.map (·.1)) = true) {p : Nat × Nat × Nat} (hp : p ∈ ms) {i : Nat} (hi : i < p.2.2) {rest : List Nat} :
    partF s d ms s ((p.2.1 + i) :: rest) = .own p.1 (i :: rest) := by
  unfold partF
  rw [if_pos rfl]
  dsimp only
  have hx : ∃ q, ms.find? (fun q => decide (q.2.1 ≤ p.2.1 + i) && decide (p.2.1 + i < q.2.1 + q.2.2)) = some q := by
    rw [← Option.isSome_iff_exists, List.find?_isSome]
    exact ⟨p, hp, by simp; omega⟩
  obtain ⟨q, hq⟩ := hx
  have hqm := List.mem_of_find?_eq_some hq
  have hb := List.find?_some hq
  simp only [Bool.and_eq_true, decide_eq_true_eq] at hb
  have hqp : q = p := by
    apply Classical.byContradiction
    intro hne
    by_cases h1 : q.1 = p.1
    · have f1 := find_of_mem hn hp
      have f2 := find_of_mem hn hqm
      rw [h1, f1] at f2
      exact hne (Option.some.inj f2).symm
    · have := hs.disj hn q p hqm hp h1
      omega
  subst hqp
  rw [hq]
  simp only [Lab.own.injEq, List.cons.injEq, and_true, true_and]
  omega

theorem partsOf_srt {d : Nat} {h : Nat → Option Nat} : {l : List Comp} → {i o : Nat} → Srt o ((partsOf d h i o l).map (·.1))
  | [], _, _ => trivial
  | (sz, c) :: l, i, o => by
    simp only [partsOf]
    split
    · exact ⟨Nat.le_refl _, partsOf_srt⟩
    · exact Srt.weak (Nat.le_add_right _ _) partsOf_srt
  where
  Srt.weak : {b b' : Nat} → {ms : List (Nat × Nat × Nat)} → b ≤ b' → Srt b' ms → Srt b ms
  | _, _, [], _, _ => trivial
  | _, _, _ :: _, h, h2 => ⟨Nat.le_trans h h2.1, h2.2⟩

section
variable {P : Program} {C : Ctx} {w w' w0 : World} {S S' : Nat → Prop} {L L' L0 : Nat → Lab} {s N : Nat} {vs : List Nat} {T T' : List V} {tm tm' : Array Value} {a : Act}

theorem partsOf_rep {d : Nat} {h : Nat → Option Nat} : {l : List Comp} → {i o : Nat} → {vals : List Value} → TRep w L s o l vals → ∀ p v, (p, v) ∈ partsOf d h i o l →
    ∃ j n t x u cs, v = .part d (i + j) n t x ∧ vals[j]? = some u ∧ t.sz = p.2.2 ∧ Form t cs u ∧ Own w L (SL L none) s n t x [] p.2.1 cs
  | [], _, _, _, _, _, _, hm => by simp [partsOf] at hm
  | (sz, c) :: l, i, o, vals, hr, p, v, hm => by
    obtain ⟨u, vs', rfl, h1, h2⟩ := hr
    have hrec : (p, v) ∈ partsOf d h (i + 1) (o + sz) l → ∃ j n t x u' cs, v = .part d (i + j) n t x ∧ (u :: vs')[j]? = some u' ∧ t.sz = p.2.2 ∧ Form t cs u' ∧ Own w L (SL L none) s n t x [] p.2.1 cs := by
      intro hm
      obtain ⟨j, n, t, x, u', cs, e1, e2, e3, e4, e5⟩ := partsOf_rep h2 p v hm
      exact ⟨j + 1, n, t, x, u', cs, by rw [e1, show i + 1 + j = i + (j + 1) by omega], by simpa using e2, e3, e4, e5⟩
    simp only [partsOf] at hm
    split at hm
    · rename_i e v' he hv'
      rcases List.mem_cons.1 hm with hm | hm
      · injection hm with hp hv
        subst hp hv
        unfold compV at hv'
        split at hv'
        · rename_i n t x
          split at hv'
          · injection hv' with hv'
            obtain ⟨h3, cs, h4, h5⟩ := h1 n t x rfl
            exact ⟨0, n, t, x, u, cs, hv'.symm, rfl, h3, h4, h5⟩
          · cases hv'
        · cases hv'
      · exact hrec hm
    · exact hrec hm

/-- What is left of the tuple owns nothing. -/
theorem restOf_rep {s' : Nat} (H : ∀ k, L k = .stable → L' k = .stable ∧ w'.heap[k]? = w.heap[k]?) : {l : List Comp} → {o : Nat} → {vals : List Value} → TRep w L s o l vals → TRep w' L' s' o (restOf l) vals
  | [], _, _, h => h
  | (sz, c) :: l, o, vals, ⟨v, vs', h1, h2, h3⟩ => by
    refine ⟨v, vs', h1, fun n t x hc => ?_, restOf_rep H h3⟩
    split at hc
    · cases hc
    · rename_i hco
      obtain ⟨h4, cs, h5, h6⟩ := h2 n t x hc
      subst hc
      refine ⟨h4, cs, h5, ?_⟩
      have hn0 : ¬n = 0 → t.depth = 0 := by simpa [compOwns] using hco
      have hn : n = 0 ∨ t.depth = 0 := by omega
      rcases hn with hn | hn
      · subst hn
        refine Own.of_rd (Rd.move (fun k hk => ?_) (Own.rd0 h6))
        rcases hk with hk | ⟨_, _, hk, _⟩
        · exact ⟨.inl (H k hk).1, (H k hk).2⟩
        · cases hk
      · exact Own.flat hn h6

theorem trep_get : {l : List Comp} → {o i : Nat} → {vals : List Value} → {sz n : Nat} → {t : Ty} → {x : t.den} → TRep w L s o l vals → l[i]? = some (sz, some (n, ⟨t, x⟩)) → ∃ o' u cs, vals[i]? = some u ∧ Form t cs u ∧ Own w L (SL L none) s n t x [] o' cs
  | [], _, _, _, _, _, _, _, _, h => by simp at h
  | (sz', c) :: l, o, 0, vals, sz, n, t, x, ⟨v, vs', h1, h2, h3⟩, h => by
    simp only [List.getElem?_cons_zero, Option.some.injEq, Prod.mk.injEq] at h
    obtain ⟨_, cs, h5, h6⟩ := h2 n t x h.2
    exact ⟨o, v, cs, by rw [h1]; rfl, h5, h6⟩
  | (sz', c) :: l, o, i + 1, vals, sz, n, t, x, ⟨v, vs', h1, h2, h3⟩, h => by
    obtain ⟨o', u, cs, e1, e2, e3⟩ := trep_get h3 (by simpa using h)
    exact ⟨o', u, cs, by rw [h1]; simpa using e1, e2, e3⟩

theorem idleAll_runs {α : Type} {m : M α} {x : α} : {l : List Nat} → {log : List Nat} → (idleAll l m).Runs T x log → (∀ s ∈ l, (T.getD s .dead).idle = true) ∧ ∃ log', m.Runs T x log'
  | [], log, h => ⟨by simp, log, h⟩
  | s :: l, log, h => by
    obtain ⟨log', rfl, hc, h⟩ := h
    obtain ⟨h1, h2⟩ := idleAll_runs h
    exact ⟨fun s' hs => by rcases List.mem_cons.1 hs with rfl | hs; exact hc; exact h1 s' hs, h2⟩

theorem getD_setAll_val {ups : List (Nat × V)} (hn : nodupB (ups.map (·.1)) = true) {s : Nat} {v : V} (hm : (s, v) ∈ ups) {T : List V} (hs : s < T.length) : (setAll T ups).getD s .dead = v := by
  unfold setAll
  induction ups generalizing T with
  | nil => cases hm
  | cons u l ih =>
    simp only [List.map_cons, nodupB, Bool.and_eq_true, Bool.not_eq_true'] at hn
    simp only [List.foldl_cons]
    rcases List.mem_cons.1 hm with rfl | hm
    · have := getD_setAll l (T.set s v) s (fun h => by
        have h2 := List.contains_iff_mem.2 h
        rw [hn.1] at h2; cases h2)
      unfold setAll at this
      rw [this, getD_set, if_pos ⟨rfl, hs⟩]
    · exact ih hn.2 hm (by simpa using hs)

theorem nodupB_perm {l : List Nat} : nodupB l = true → l.Nodup := by
  induction l with
  | nil => intro _; exact List.nodup_nil
  | cons x l ih =>
    intro h
    simp only [nodupB, Bool.and_eq_true, Bool.not_eq_true'] at h
    refine List.nodup_cons.2 ⟨fun hm => ?_, ih h.2⟩
    rw [List.contains_iff_mem.2 hm] at h
    cases h.1

theorem nodupB_of {l : List Nat} : l.Nodup → nodupB l = true := by
  induction l with
  | nil => intro _; rfl
  | cons x l ih =>
    intro h
    obtain ⟨h1, h2⟩ := List.nodup_cons.1 h
    simp only [nodupB, Bool.and_eq_true, Bool.not_eq_true', ih h2, and_true]
    rw [Bool.eq_false_iff]
    intro hc
    exact h1 (List.contains_iff_mem.1 hc)

theorem step_tup (hI : Inv w0 L0 N vs T a w L) {o : Oper} {d s : Nat} {h : Nat → Option Nat} {ups : List (Nat × V)} {log : List Nat} (ho : isMove o (.tmp s)) (hdst : o.dst = some d) (hd : d < N)
    (hr : (tupUps vs N d s h).Runs T ups log) : Step P o w0 L0 N vs (setAll T ups) a w := by
  obtain ⟨log', rfl, hr⟩ := hr
  dsimp only at hr
  have hs := hI.slots s
  generalize hv : T.getD s .dead = v at hr hs
  split at hr
  · rename_i l
    split at hr
    · rename_i hc
      obtain ⟨hnd, hlt, hsv, hdv⟩ := hc
      obtain ⟨hidle, log2, hr⟩ := idleAll_runs hr
      obtain ⟨rfl, _⟩ := hr
      obtain ⟨vals, hval, hrep⟩ := hs
      generalize hps : partsOf d h 0 0 l = ps at hnd hlt hidle
      have hsrt : Srt 0 (ps.map (·.1)) := by rw [← hps]; exact partsOf_srt
      have hnodup := nodupB_perm hnd
      have hslots : ps.map (·.1.1) = (ps.map (·.1)).map (·.1) := by rw [List.map_map]; rfl
      obtain ⟨hd1, hnd2⟩ := List.nodup_cons.1 hnodup
      obtain ⟨hs1, hnd3⟩ := List.nodup_cons.1 hnd2
      have hds : d ≠ s := fun e => hd1 (by rw [e]; simp)
      have hdp : d ∉ ps.map (·.1.1) := fun e => hd1 (List.mem_cons_of_mem _ e)
      have hn3 : nodupB ((ps.map (·.1)).map (·.1)) = true := by rw [← hslots]; exact nodupB_of hnd3
      have hsown : (T.getD s .dead).owns = true := by rw [hv]; rfl
      have hsN : s < N := by
        apply Classical.byContradiction
        intro hge
        rw [getD_out (by rw [hI.len]; omega)] at hv
        cases hv
      -- the slots behind the step
      let U : List (Nat × V) := (s, V.dead) :: (ps.map (fun p => (p.1.1, p.2)) ++ [(d, .tup (restOf l))])
      have hU : U.map (·.1) = s :: (ps.map (·.1.1) ++ [d]) := by simp [U, List.map_map, Function.comp_def]
      have hUn : nodupB (U.map (·.1)) = true := by
        rw [hU]
        refine nodupB_of (List.nodup_cons.2 ⟨fun hm => ?_, ?_⟩)
        · rcases List.mem_append.1 hm with hm | hm
          · exact hs1 hm
          · exact hds (List.mem_singleton.1 hm).symm
        · rw [List.nodup_append]
          refine ⟨hnd3, by simp, fun x hx y hy e => ?_⟩
          rw [List.mem_singleton] at hy
          subst e hy
          exact hdp hx
      have hTs : (setAll T U).getD s .dead = .dead := getD_setAll_val hUn (by simp [U]) (by rw [hI.len]; exact hsN)
      have hTd : (setAll T U).getD d .dead = .tup (restOf l) := getD_setAll_val hUn (by simp [U]) (by rw [hI.len]; exact hd)
      have hTp : ∀ p v, (p, v) ∈ ps → (setAll T U).getD p.1 .dead = v := by
        intro p v hp
        refine getD_setAll_val hUn ?_ ?_
        · refine List.mem_cons_of_mem _ (List.mem_append_left _ (List.mem_map.2 ⟨(p, v), hp, rfl⟩))
        · rw [List.all_eq_true] at hlt
          rw [hI.len]
          simpa using hlt _ hp
      have hTo : ∀ z, ¬ (z = s ∨ z = d ∨ z ∈ (ps.map (·.1)).map (·.1)) → (setAll T U).getD z .dead = T.getD z .dead := by
        intro z hz
        refine getD_setAll _ _ _ ?_
        rw [hU, hslots]
        intro hm
        rcases List.mem_cons.1 hm with hm | hm
        · exact hz (.inl hm)
        · rcases List.mem_append.1 hm with hm | hm
          · exact hz (.inr (.inr hm))
          · exact hz (.inr (.inl (List.mem_singleton.1 hm)))
      have hpart : ∀ p v, (p, v) ∈ ps → ∃ j n t x u cs, v = .part d j n t x ∧ vals.toList[j]? = some u ∧ t.sz = p.2.2 ∧ Form t cs u ∧ Own w L (SL L none) s n t x [] p.2.1 cs := by
        intro p v hp
        rw [← hps] at hp
        obtain ⟨j, n, t, x, u, cs, e1, e2⟩ := partsOf_rep hrep p v hp
        exact ⟨0 + j, n, t, x, u, cs, e1, by rw [Nat.zero_add]; exact e2⟩
      have hmem : ∀ z, z ∈ (ps.map (·.1)).map (·.1) → ∃ p v, (p, v) ∈ ps ∧ p.1 = z := by
        intro z hz
        rw [← hslots] at hz
        obtain ⟨⟨p, v⟩, hp, rfl⟩ := List.mem_map.1 hz
        exact ⟨p, v, hp, rfl⟩
      refine Step.value hdst (run_isMove ho) (Inv.updF (T' := setAll T U) (f := partF s d (ps.map (·.1))) (X := fun z => z = s ∨ z = d ∨ z ∈ (ps.map (·.1)).map (·.1)) (nl := fun _ => .free) hI (partF_fun hsrt hn3) (Wd.refl hI _) (fun _ _ _ _ _ h => by cases h) (by simp [Act.put, hI.size]) (by rw [length_setAll, hI.len]) hI.dfr ?_ ?_ ?_ ?_ ?_)
      · intro k z q hz hk
        rcases hz with rfl | rfl | hz
        · exfalso
          unfold newLab at hk
          split at hk
          · obtain ⟨s0, q0, e0, f0⟩ := relab_own hk
            rcases partF_key f0 with ⟨_, p, _, _, hp, _, _, _, h7, _⟩ | ⟨h1, _, _, h7, _⟩
            · exact hs1 (by rw [hslots, h7]; exact List.mem_map_of_mem hp)
            · exact h1 h7.symm
          · cases hk
        · rw [hTd]; rfl
        · obtain ⟨p, v, hp, rfl⟩ := hmem z hz
          rw [hTp p v hp]
          obtain ⟨j, n, t, x, u, cs, rfl, _⟩ := hpart p v hp
          rfl
      · intro z r hz hon hr
        rcases hr with rfl | hr
        · exfalso
          have := hI.roots z _ hon
          rw [List.contains_iff_mem.2 this] at hsv
          cases hsv
        · refine V.not_owns (hidle r ?_)
          rcases hr with rfl | hr
          · simp
          · rw [hslots]; exact List.mem_cons_of_mem _ hr
      · intro z hz
        refine ⟨hTo z hz, ?_⟩
        show (a.tmps.setIfInBounds d _).getD z undef = _
        rw [getD_setA, if_neg (fun e => hz (.inr (.inl e.1)))]
      · intro z r hz hon
        rcases hz with rfl | rfl | hz
        · rw [hTs] at hon; simp [V.on, V.root] at hon
        · rw [hTd] at hon; simp [V.on, V.root] at hon
        · obtain ⟨p, v, hp, rfl⟩ := hmem z hz
          rw [hTp p v hp] at hon
          obtain ⟨j, n, t, x, u, cs, rfl, _⟩ := hpart p v hp
          simp only [V.on, V.root, beq_iff_eq, Option.some.injEq] at hon
          subst hon
          exact List.contains_iff_mem.1 hdv
      · intro z hz
        have hput : (a.put (some d) (a.eval (.tmp s))).tmps.getD d undef = a.tmps.getD s undef := by
          show (a.tmps.setIfInBounds d _).getD d undef = _
          rw [getD_setA, if_pos ⟨rfl, by rw [hI.size]; exact hd⟩]
          rfl
        rcases hz with rfl | rfl | hz
        · rw [hTs]; trivial
        · rw [hTd, hput]
          exact ⟨vals, hval, restOf_rep (fun k hk => ⟨newLab_stable hI hk, rfl⟩) hrep⟩
        · obtain ⟨p, v, hp, rfl⟩ := hmem z hz
          rw [hTp p v hp]
          obtain ⟨j, n, t, x, u, cs, rfl, e2, e3, e4, e5⟩ := hpart p v hp
          refine ⟨by rw [hTd]; rfl, vals, u, cs, by rw [hput]; exact hval, by simpa using e2, e4, ?_⟩
          refine Own.move (fun k hk => ?_) (fun k i rest hi hk => ⟨?_, rfl⟩) e5
          · rcases hk with hk | ⟨_, _, hk, _⟩
            · exact ⟨.inl (newLab_stable hI hk), rfl⟩
            · cases hk
          · have hk' : L k = .own s ((p.2.1 + i) :: rest) := by simpa using hk
            rw [newLab_old hI (by rw [hk']; simp), hk']
            have := partF_at (s := s) (d := d) hsrt hn3 (List.mem_map_of_mem (f := (·.1)) hp) (i := i) (by rw [← e3]; exact hi) (rest := rest)
            simpa [relab] using this
    · exact hr.elim
  · exact hr.elim

theorem step_ext (hI : Inv w0 L0 N vs T a w L) {o : Oper} {x : Operand} {d i : Nat} {ups : List (Nat × V)} {log : List Nat} (ho : o.op = .extract x i) (hdst : o.dst = some d) (hd : d < N)
    (hr : (extUps vs d x i).Runs T ups log) : Step P o w0 L0 N vs (setAll T ups) a w := by
  cases x with
  | tmp s =>
    obtain ⟨log', rfl, hr⟩ := hr
    dsimp only at hr
    have hsd := hI.slots d
    generalize hvd : T.getD d .dead = vd at hr hsd
    split at hr
    · rename_i r j n t y
      split at hr
      · rename_i hc
        obtain ⟨rfl, rfl, hdv, hn, hdep⟩ := hc
        obtain ⟨rfl, _⟩ := hr
        obtain ⟨h0, vals, u, cs, h1, h2, h3, h4⟩ := hsd
        have hrun : (execOp a.eval o).run P w = .ok (.value u) w := by
          have : a.eval (.tmp r) = .tuple vals := h1
          simp [execOp, ho, this, Instr.extract, h2]
        have hT : ∀ z, (setAll T [(d, V.d none n t y)]).getD z .dead = if z = d ∧ d < T.length then V.d none n t y else T.getD z .dead := fun z => getD_set _ _ _ _ _
        have hdN : d < T.length := by rw [hI.len]; exact hd
        refine Step.value hdst hrun (Inv.upd (fun z => z = d) hI (by simp [Act.put, hI.size]) (by rw [length_setAll, hI.len]) hI.dfr hI.fr hI.free hI.inj ?_ (fun _ _ _ _ => ⟨rfl, rfl⟩) ?_ ?_ ?_ ?_)
        · intro k z q hk
          rw [hT]
          split
          · simp [V.owns, hn, hdep]
          · exact hI.owner k z q hk
        · intro z hz
          refine ⟨by rw [hT, if_neg (fun e => hz e.1)], ?_⟩
          show (a.tmps.setIfInBounds d _).getD z undef = _
          rw [getD_setA, if_neg (fun e => hz e.1)]
        · intro z r' hon
          rw [hT] at hon
          split at hon
          · simp [V.on, V.root] at hon
          · exact hI.roots z r' hon
        · intro z r' hz hon ho'
          have hrd : r' ≠ d := by
            rintro rfl
            have := hI.roots z _ hon
            rw [List.contains_iff_mem.2 this] at hdv
            cases hdv
          refine ⟨by rw [hT, if_neg (fun e => hrd e.1)], ?_⟩
          show (a.tmps.setIfInBounds d _).getD r' undef = _
          rw [getD_setA, if_neg (fun e => hrd e.1)]
        · intro z hz
          subst hz
          rw [hT, if_pos ⟨rfl, hdN⟩]
          have : (a.put (some z) u).tmps.getD z undef = u := by
            show (a.tmps.setIfInBounds z _).getD z undef = _
            rw [getD_setA, if_pos ⟨rfl, by rw [hI.size]; exact hd⟩]
          rw [this]
          exact ⟨by simp, cs, h3, h4⟩
      · exact hr.elim
    · obtain ⟨hid, log2, rfl, hr⟩ := hr
      dsimp only at hr
      have hs := hI.slots s
      generalize hv : T.getD s .dead = v at hr hs
      split at hr
      · rename_i l
        split at hr
        · rename_i sz n t y hl
          split at hr
          · rename_i hn
            obtain ⟨rfl, _⟩ := hr
            obtain ⟨vals, h1, h2⟩ := hs
            obtain ⟨o', u, cs, e1, e2, e3⟩ := trep_get h2 hl
            have e1 : vals[i]? = some u := by simpa using e1
            have hrun : (execOp a.eval o).run P w = .ok (.value u) w := by
              have : a.eval (.tmp s) = .tuple vals := h1
              simp [execOp, ho, this, Instr.extract, e1]
            have hres : PureRes P o vs T a w L d (.d none n t y) := PureRes.still hI hrun (fun _ => rfl) ⟨by simp, cs, e2, Own.at0 hn e3 hn⟩
            intro K Q hK
            exact PureRes.inv hI hd (by rw [hvd]; exact hid) hdst hres hK
          · exact hr.elim
        · exact hr.elim
      · exact hr.elim
  | const c => exact hr.elim
  | func f => exact hr.elim
  | global g => exact hr.elim

end
end Go.Proofs.Ytdfcejijcnhcaaa.C.Am
