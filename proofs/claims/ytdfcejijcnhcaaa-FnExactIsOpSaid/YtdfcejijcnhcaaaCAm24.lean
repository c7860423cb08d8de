/- A part of the proof: Am24. No conditions. -/
import Derived.Test.YtdfcejijcnhcaaaCAm23
import Derived.Laws.CopyRow
set_option linter.unusedVariables false
set_option linter.unusedSimpArgs false
namespace Go.Proofs.Ytdfcejijcnhcaaa.C.Am

/-! ## 24. A store into a place -/
def modRoot (p : List St) : V → (t' : Ty) → t'.den → M V
  | .box l n t x, t', y => (modP p t x t' y).bind fun x2 => .ret (.box l n t x2)
  | .d l n t x, t', y => match p with
    | .idx sz i :: p' => (modP (.idx sz i :: p') t x t' y).bind fun x2 => .ret (.d l n t x2)
    | _ => .fail
  | _, _, _ => .fail

/-- The cells [o, o + sz) of row q, and what lies below. -/
def underB (q : List Nat) (o sz : Nat) (z : List Nat) : Bool := match cut q z with
  | some (y :: _) => decide (o ≤ y) && decide (y < o + sz)
  | _ => false

/-- Labels at a store of slot src's data (down to depth m) into a place of slot r. -/
def stF (r : Nat) (q : List Nat) (o sz m : Nat) (src : Option Nat) : Nat → List Nat → Lab := fun s z =>
  if s = r then (if src.isSome && underB q o sz z then .other else .own r z)
  else if src = some s then match z with
    | y :: rest => if y < sz then (if rest.length < m then .own r (q ++ (o + y) :: rest) else .stable) else .other
    | [] => .other
  else .own s z

/-- What may hang on a root that is written. -/
def keepable (root : V) (src : Option Nat) : V → Bool
  | .ptr _ p _ => src.isNone || (shallow p && !root.isD)
  | .view _ [] _ => root.isD
  | _ => false

section
variable {P : Program} {C : Ctx} {w w' w0 : World} {S S' : Nat → Prop} {L L' L0 : Nat → Lab} {s N : Nat} {vs : List Nat} {T T' : List V} {tm tm' : Array Value} {a : Act}

theorem shallow_node : {p : List St} → {q : List Nat} → {o : Nat} → shallow p = true → (node q o p).1 = q
  | [], _, _, _ => rfl
  | .fld _ _ :: p, _, _, h => shallow_node (p := p) h
  | .idx _ _ :: _, _, _, h => by cases h

theorem underB_spec {q : List Nat} {o sz : Nat} {z : List Nat} : underB q o sz z = true ↔ Under q o sz z := by
  unfold underB
  constructor
  · intro h
    split at h
    · rename_i y rest hc
      simp only [Bool.and_eq_true, decide_eq_true_eq] at h
      refine ⟨y - o, rest, by omega, ?_⟩
      rw [cut_some hc]
      congr 2
      omega
    · cases h
  · rintro ⟨d, rest, hd, rfl⟩
    rw [cut_append]
    simp
    omega

theorem stF_key {r : Nat} {q : List Nat} {o sz m : Nat} {src : Option Nat} (hsr : src ≠ some r) {s s' : Nat} {z z' : List Nat} (h : stF r q o sz m src s z = .own s' z') :
    (s = r ∧ s' = r ∧ z' = z ∧ (src.isSome = true → ¬ Under q o sz z)) ∨ (src = some s ∧ s' = r ∧ ∃ y rest, z = y :: rest ∧ y < sz ∧ z' = q ++ (o + y) :: rest) ∨ (s ≠ r ∧ src ≠ some s ∧ s' = s ∧ z' = z) := by
  unfold stF at h
  split at h
  · rename_i hs
    split at h
    · cases h
    · rename_i hc
      injection h with h1 h2
      refine .inl ⟨hs, h1.symm, h2.symm, fun hi hu => hc ?_⟩
      rw [hi, underB_spec.2 hu]
      rfl
  · split at h
    · split at h
      · split at h
        · split at h
          · injection h with h1 h2
            exact .inr (.inl ⟨by assumption, h1.symm, _, _, rfl, by assumption, h2.symm⟩)
          · cases h
        · cases h
      · cases h
    · injection h with h1 h2
      exact .inr (.inr ⟨by assumption, by assumption, h1.symm, h2.symm⟩)

theorem stF_fun {r : Nat} {q : List Nat} {o sz m : Nat} {src : Option Nat} (hsr : src ≠ some r) {X : Nat → Prop} (hX1 : X r) (hX2 : ∀ s, src = some s → X s) : Fun (stF r q o sz m src) X := by
  refine ⟨fun s z hX => ?_, fun s z s' z' hX h => ?_, fun s z s2 z2 s' z' h1 h2 => ?_, fun s z => ?_⟩
  · unfold stF
    rw [if_neg (fun e : s = r => hX (e ▸ hX1)), if_neg (fun e => hX (hX2 s e))]
  · rcases stF_key hsr h with ⟨_, rfl, _⟩ | ⟨_, rfl, _⟩ | ⟨_, _, rfl, _⟩
    · exact hX1
    · exact hX1
    · exact hX
  · rcases stF_key hsr h1 with ⟨rfl, rfl, rfl, hu⟩ | ⟨e1, rfl, y, rest, rfl, hy, rfl⟩ | ⟨e1, e2, rfl, rfl⟩
    · rcases stF_key hsr h2 with ⟨rfl, _, h4, _⟩ | ⟨e1, _, y, rest, rfl, hy, he⟩ | ⟨e1, e2, h3, h4⟩
      · exact ⟨rfl, h4⟩
      · exact absurd ⟨y, rest, hy, he⟩ (hu (by rw [e1]; rfl))
      · exact absurd h3.symm e1
    · rcases stF_key hsr h2 with ⟨rfl, _, h4, hu⟩ | ⟨e2, _, y2, rest2, rfl, hy2, he⟩ | ⟨e2, e3, h3, h4⟩
      · exact absurd ⟨y, rest, hy, h4.symm⟩ (hu (by rw [e1]; rfl))
      · have he := List.append_cancel_left he
        injection he with he1 he2
        rw [e1] at e2
        injection e2 with e2
        exact ⟨e2, by rw [show y = y2 by omega, he2]⟩
      · exact absurd h3.symm e2
    · rcases stF_key hsr h2 with ⟨h3, h5, _⟩ | ⟨e3, h5, _⟩ | ⟨e3, e4, h3, h4⟩
      · exact absurd h5 e1
      · exact absurd h5 e1
      · exact ⟨h3, h4⟩
  · unfold stF
    repeat' split
    all_goals simp

theorem modRoot_same {p : List St} {u u' : V} {t' : Ty} {y : t'.den} {log : List Nat} (h : (modRoot p u t' y).Runs T u' log) : u'.root = u.root ∧ u'.owns = u.owns ∧ u'.deep = u.deep ∧ u'.isD = u.isD := by
  cases u with
  | box l n t x =>
    obtain ⟨x2, l1, l2, rfl, h1, h2⟩ := M.runs_bind h
    obtain ⟨rfl, _⟩ := h2
    exact ⟨rfl, rfl, rfl, rfl⟩
  | d l n t x =>
    simp only [modRoot] at h
    split at h
    · obtain ⟨x2, l1, l2, rfl, h1, h2⟩ := M.runs_bind h
      obtain ⟨rfl, _⟩ := h2
      exact ⟨rfl, rfl, rfl, rfl⟩
    · exact h.elim
  | dead => exact h.elim
  | tup _ => exact h.elim
  | rp _ _ _ => exact h.elim
  | ptr _ _ _ => exact h.elim
  | view _ _ _ => exact h.elim
  | hole _ _ => exact h.elim
  | part _ _ _ _ _ => exact h.elim

theorem modRoot_d {p : List St} {l : Option Nat} {n : Nat} {t : Ty} {x : t.den} {u' : V} {t' : Ty} {y : t'.den} {log : List Nat} (h : (modRoot p (.d l n t x) t' y).Runs T u' log) : ∃ x2, u' = .d l n t x2 := by
  simp only [modRoot] at h
  split at h
  · obtain ⟨x2, l1, l2, rfl, h1, h2⟩ := M.runs_bind h
    obtain ⟨rfl, _⟩ := h2
    exact ⟨x2, rfl⟩
  · exact h.elim

/-- The root behind a store. -/
theorem modRoot_rep {T1 T2 : List V} {tm1 tm2 : Array Value} {p : List St} {u u' : V} {l : Option Nat} {n' : Nat} {t' : Ty} {x' y : t'.den} {log log2 : List Nat} {r g' : Nat} {cur cur' : Array Value} {e' : TypeId} {c : Value}
    (hs : SRep L T1 tm1 r u w c) (hz : (rootD p u).Runs T (l, ⟨n', t', x'⟩) log) (hm : (modRoot p u t' y).Runs T u' log2) (hdp : ∀ r', u.root = some r' → (T2.getD r' .dead).deep = true)
    (hu : Upd w w' L L' (SL L u.root) (SL L' u.root) r (node [] 0 p).1 (node [] 0 p).2 t'.sz g' cur cur' e')
    (hy : Own w' L' (SL L' u.root) r n' t' y (node [] 0 p).1 (node [] 0 p).2 ((cur'.toList.drop (node [] 0 p).2).take t'.sz)) : SRep L' T2 tm2 r u' w' c := by
  cases u with
  | box l0 n t x =>
    obtain ⟨zz, l1, l2, rfl, h1, h2⟩ := M.runs_bind hz
    obtain ⟨h2, _⟩ := h2
    cases h2
    obtain ⟨x2, l3, l4, rfl, h3, h4⟩ := M.runs_bind hm
    obtain ⟨rfl, _⟩ := h4
    obtain ⟨h0, g, curg, e, k1, k2, k3, k4, k5⟩ := hs
    obtain ⟨cur2, j1, j2, j3, j4, j5⟩ := modP_own (q := []) (o := 0) (g1 := g) (cur1 := curg) (e1 := e) hu hy rfl k2 k3 (by omega) (by
      rw [List.drop_zero, List.take_of_length_le (by rw [← k4]; simp)]; exact k5) h1 h3
    refine ⟨fun r' hr' => hdp r' hr', g, cur2, e, k1, j2, j1, by rw [j3]; exact k4, ?_⟩
    rw [List.drop_zero, List.take_of_length_le (by rw [← k4, ← j3]; simp)] at j5
    exact j5
  | d l0 n t x =>
    simp only [rootD] at hz
    split at hz
    · rename_i sz i p'
      obtain ⟨zz, l1, l2, rfl, h1, h2⟩ := M.runs_bind hz
      obtain ⟨h2, _⟩ := h2
      cases h2
      simp only [modRoot] at hm
      obtain ⟨x2, l3, l4, rfl, h3, h4⟩ := M.runs_bind hm
      obtain ⟨rfl, _⟩ := h4
      obtain ⟨h0, cs, k1, k2⟩ := hs
      cases t <;> cases n <;> simp only [getP] at h1 <;> try exact h1.elim
      rename_i e t n
      split at h1
      · rename_i hsz
        subst hsz
        obtain ⟨y0, hy0, h1⟩ := h1
        simp only [modP, if_true] at h3
        obtain ⟨y9, hy9, h3⟩ := h3
        obtain rfl : y0 = y9 := by rw [hy0] at hy9; exact Option.some.inj hy9
        obtain ⟨z2, l5, l6, rfl, h5, h6⟩ := M.runs_bind h3
        obtain ⟨rfl, _⟩ := h6
        obtain ⟨hi, hi0, rfl⟩ := getI_some hy0
        simp only [Own] at k2
        rcases k2 with ⟨_, rfl⟩ | ⟨g2, cap, cur2, hcs, hL, hg, m1, m2, m3, m4⟩
        · exact absurd hi (by simp)
        · have hb : i.toNat * t.sz + t.sz ≤ cur2.size := by
            rw [m3]
            calc i.toNat * t.sz + t.sz = (i.toNat + 1) * t.sz := by rw [Nat.add_mul, Nat.one_mul]
              _ ≤ cap * t.sz := Nat.mul_le_mul_right _ (by omega)
          have hL2 : L g2 = .own r ([] ++ [0]) := hL
          obtain ⟨cur3, j1, j2, j3, j4, j5⟩ := modP_own hu hy (p := p') (q := [] ++ [0]) (o := i.toNat * t.sz) (g1 := g2) (cur1 := cur2) (e1 := e) rfl hL2 hg hb (m4 _ hi) h1 h5
          have hr1 : Reach ([] ++ [0]) (i.toNat * t.sz) t.sz (node [] 0 (St.idx t.sz i :: p')).1 (node [] 0 (St.idx t.sz i :: p')).2 t'.sz := getP_reach (q := [] ++ [0]) (o := i.toNat * t.sz) h1
          refine ⟨fun r' hr' => hdp r' hr', cs, k1, ?_⟩
          simp only [Own]
          refine .inr ⟨g2, cap, cur3, by rw [hcs]; simp, j2, j1, by simpa using m1, m2, by rw [j3]; exact m3, fun j hj => ?_⟩
          simp only [List.length_set] at hj
          by_cases hji : j = i.toNat
          · subst hji
            have : (x.set i.toNat z2)[i.toNat]'(by simpa using hi) = z2 := List.getElem_set_self _
            rw [this]
            exact j5
          · have he : (x.set i.toNat z2)[j]'(by simpa using hj) = x[j] := List.getElem_set_ne (fun e => hji e.symm) _
            rw [he]
            have hd : (j * t.sz + t.sz ≤ i.toNat * t.sz) ∨ (i.toNat * t.sz + t.sz ≤ j * t.sz) := by
              rcases Nat.lt_or_gt_of_ne hji with h | h
              · left
                calc j * t.sz + t.sz = (j + 1) * t.sz := by rw [Nat.add_mul, Nat.one_mul]
                  _ ≤ i.toNat * t.sz := Nat.mul_le_mul_right _ h
              · right
                calc i.toNat * t.sz + t.sz = (i.toNat + 1) * t.sz := by rw [Nat.add_mul, Nat.one_mul]
                  _ ≤ j * t.sz := Nat.mul_le_mul_right _ h
            rw [take_drop_same (cur := cur2) (fun i' h1 h2 => j4 i' (by omega))]
            exact Own.sib hu hr1 (by omega) (m4 j hj)
      · exact h1.elim
    · exact hz.elim
  | dead => exact hz.elim
  | tup _ => exact hz.elim
  | rp _ _ _ => exact hz.elim
  | ptr _ _ _ => exact hz.elim
  | view _ _ _ => exact hz.elim
  | hole _ _ => exact hz.elim
  | part _ _ _ _ _ => exact hz.elim

/-- New cells at a place. -/
def putCells (cur : Array Value) (o : Nat) (cs : List Value) : Array Value := (cur.toList.take o ++ cs ++ cur.toList.drop (o + cs.length)).toArray

theorem putCells_size {cur : Array Value} {o : Nat} {cs : List Value} (h : o + cs.length ≤ cur.size) : (putCells cur o cs).size = cur.size := by
  simp [putCells]; omega

theorem putCells_at {cur : Array Value} {o : Nat} {cs : List Value} (h : o + cs.length ≤ cur.size) : ((putCells cur o cs).toList.drop o).take cs.length = cs := by
  have : (cur.toList.take o).length = o := by simp; omega
  simp only [putCells, List.append_assoc]
  rw [List.drop_left' this, List.take_left' rfl]

theorem putCells_out {cur : Array Value} {o : Nat} {cs : List Value} (h : o + cs.length ≤ cur.size) (i : Nat) (hi : i < o ∨ o + cs.length ≤ i) : (putCells cur o cs)[i]? = cur[i]? := by
  have hl : (cur.toList.take o).length = o := by simp; omega
  simp only [putCells, List.getElem?_toArray]
  rcases hi with hi | hi
  · rw [List.append_assoc, List.getElem?_append_left (by omega), List.getElem?_take_of_lt hi]
    simp
  · rw [List.getElem?_append_right (by simp; omega), List.getElem?_drop]
    simp only [List.length_append, hl]
    rw [show o + cs.length + (i - (o + cs.length)) = i by omega]
    simp

theorem Inv.store (hI : Inv w0 L0 N vs T a w L) {r : Nat} {p : List St} {u u' : V} {l : Option Nat} {n' m : Nat} {t' : Ty} {x' y : t'.den} {log log2 : List Nat} {src : Option Nat} {g' : Nat} {cur : Array Value} {e : TypeId} {cs : List Value}
    (hr : T.getD r .dead = u) (hz : (rootD p u).Runs T (l, ⟨n', t', x'⟩) log) (hm : (modRoot p u t' y).Runs T u' log2) (hself : u.root ≠ some r)
    (hg : L g' = .own r (node [] 0 p).1) (hh : w.heap[g']? = some (.cells cur e (0, 0))) (hsz : (node [] 0 p).2 + t'.sz ≤ cur.size) (hlen : cs.length = t'.sz)
    (hsrc : ∀ s, src = some s → s ≠ r ∧ s ∉ vs ∧ T'.getD s .dead = .dead ∧ (T.getD s .dead).root = none) (hlenT : T'.length = N) (hTr : T'.getD r .dead = u')
    (hT : ∀ s, s ≠ r → src ≠ some s → (T.getD s .dead).on r = true → (T'.getD s .dead = .dead ∧ (T.getD s .dead).owns = false) ∨ (T'.getD s .dead = T.getD s .dead ∧ keepable u src (T.getD s .dead) = true))
    (hT2 : ∀ s, s ≠ r → src ≠ some s → (T.getD s .dead).on r = false → T'.getD s .dead = T.getD s .dead)
    (hy : Own (w.setRow g' (putCells cur (node [] 0 p).2 cs)) (newLab (stF r (node [] 0 p).1 (node [] 0 p).2 t'.sz m src) w L (fun _ => .free)) (SL (newLab (stF r (node [] 0 p).1 (node [] 0 p).2 t'.sz m src) w L (fun _ => .free)) u.root) r n' t' y (node [] 0 p).1 (node [] 0 p).2 cs) :
    Inv w0 L0 N vs T' a (w.setRow g' (putCells cur (node [] 0 p).2 cs)) (newLab (stF r (node [] 0 p).1 (node [] 0 p).2 t'.sz m src) w L (fun _ => .free)) := by
  obtain ⟨hrt, hown', hdeep', hisd'⟩ := modRoot_same hm
  have hsr : src ≠ some r := fun e => (hsrc r e).1 rfl
  have hsl := hI.slots r
  rw [hr] at hsl
  obtain ⟨_, hlend, _, howns, hisd⟩ := rootD_inB hz hsl
  have hl : u.root = l := by
    cases u with
    | box l0 n t x =>
      obtain ⟨zz, l1, l2, rfl, h1, h2⟩ := M.runs_bind hz
      obtain ⟨h2, _⟩ := h2
      cases h2
      rfl
    | d l0 n t x =>
      simp only [rootD] at hz
      split at hz
      · obtain ⟨zz, l1, l2, rfl, h1, h2⟩ := M.runs_bind hz
        obtain ⟨h2, _⟩ := h2
        cases h2
        rfl
      · exact hz.elim
    | dead => exact hz.elim
    | tup _ => exact hz.elim
    | rp _ _ _ => exact hz.elim
    | ptr _ _ _ => exact hz.elim
    | view _ _ _ => exact hz.elim
    | hole _ _ => exact hz.elim
    | part _ _ _ _ _ => exact hz.elim
  let X : Nat → Prop := fun s => s = r ∨ src = some s ∨ (T.getD s .dead).on r = true
  have hfun : Fun (stF r (node [] 0 p).1 (node [] 0 p).2 t'.sz m src) X := stF_fun hsr (.inl rfl) (fun s h => .inr (.inl h))
  have hw' : ∀ k, k ≠ g' → (w.setRow g' (putCells cur (node [] 0 p).2 cs)).heap[k]? = w.heap[k]? := fun k hk => setRow_other w g' k _ hk
  have hwd : Wd w (w.setRow g' (putCells cur (node [] 0 p).2 cs)) L (fun _ => .free) X := by
    refine ⟨rfl, rfl, rfl, by simp [World.setRow], fun k hk hx => hw' k ?_, fun _ _ => rfl, fun _ _ _ _ h => by cases h⟩
    rintro rfl
    exact hx r _ hg (.inl rfl)
  -- a lender is not touched
  have hlX : ∀ r', u.root = some r' → ¬ X r' := by
    intro r' hr' hx
    have hd : (T.getD r' .dead).deep = true := hlend r' (by rw [← hl]; exact hr')
    have ho := V.owns_of_deep hd
    rcases hx with rfl | hx | hx
    · exact hself hr'
    · have := hI.roots r r' (by rw [hr]; simp [V.on, hr'])
      exact (hsrc r' hx).2.1 this
    · by_cases hrr : r' = r
      · exact hself (by rw [← hrr]; exact hr')
      · by_cases hs' : src = some r'
        · exact (hsrc r' hs').2.1 (hI.roots r r' (by rw [hr]; simp [V.on, hr']))
        · rcases hT r' hrr hs' hx with ⟨_, h⟩ | ⟨_, h⟩
          · rw [h] at ho; cases ho
          · generalize T.getD r' .dead = v at h ho
            cases v <;> simp [keepable] at h <;> simp [V.owns] at ho
  have hnotT : ∀ s, ¬ X s → T'.getD s .dead = T.getD s .dead := by
    intro s hs
    have hs := not_or.1 hs
    have hs2 := not_or.1 hs.2
    exact hT2 s hs.1 hs2.1 (by simpa using hs2.2)
  refine Inv.updF (X := X) hI hfun hwd (fun _ _ _ _ _ h => by cases h) hI.size hlenT hI.dfr ?_ ?_ (fun s hs => ⟨hnotT s hs, rfl⟩) ?_ ?_
  · -- who owns
    intro k s q hX h
    by_cases hs : s = r
    · subst hs; rw [hTr, hown']; exact howns
    · unfold newLab at h
      split at h
      · obtain ⟨s0, q0, e0, f0⟩ := relab_own h
        rcases stF_key hsr f0 with ⟨_, rfl, _⟩ | ⟨_, rfl, _⟩ | ⟨h1, h2, rfl, rfl⟩
        · exact absurd rfl hs
        · exact absurd rfl hs
        · have ho := hI.owner k s q e0
          rcases hX with h3 | h3 | h3
          · exact absurd h3 hs
          · exact absurd h3 h2
          · rcases hT s hs h2 h3 with ⟨_, h⟩ | ⟨h4, _⟩
            · rw [h] at ho; cases ho
            · rw [h4]; exact ho
      · cases h
  · intro s r' hs hon hr'
    rcases hr' with rfl | hr' | hr'
    · exact absurd (.inr (.inr hon)) hs
    · exact absurd (hI.roots s r' hon) (hsrc r' hr').2.1
    · by_cases hrr : r' = r
      · subst hrr; exact absurd (.inr (.inr hon)) hs
      · by_cases hs' : src = some r'
        · exact absurd (hI.roots s r' hon) (hsrc r' hs').2.1
        · rcases hT r' hrr hs' hr' with ⟨_, h⟩ | ⟨_, h⟩
          · exact h
          · generalize T.getD r' .dead = v at h
            cases v <;> simp [keepable] at h <;> simp [V.owns]
  · intro s r' hX hon
    by_cases hs : s = r
    · subst hs
      rw [hTr] at hon
      refine hI.roots s r' ?_
      rw [hr]
      simpa [V.on, hrt] using hon
    · by_cases hs' : src = some s
      · rw [(hsrc s hs').2.2.1] at hon
        simp [V.on, V.root] at hon
      · cases ho : (T.getD s .dead).on r with
        | false =>
          rw [hT2 s hs hs' ho] at hon
          exact hI.roots s r' hon
        | true =>
          rcases hT s hs hs' ho with ⟨h, _⟩ | ⟨h, _⟩
          · rw [h] at hon; simp [V.on, V.root] at hon
          · rw [h] at hon; exact hI.roots s r' hon
  · intro s hX
    have hLg : newLab (stF r (node [] 0 p).1 (node [] 0 p).2 t'.sz m src) w L (fun _ => .free) g' = .own r (node [] 0 p).1 := by
      rw [newLab_old hI (by rw [hg]; simp), hg]
      simp only [relab, stF]
      rw [if_pos trivial, if_neg]
      intro h
      simp only [Bool.and_eq_true] at h
      obtain ⟨d, rest, _, h⟩ := underB_spec.1 h.2
      have := congrArg List.length h
      simp at this
    have hnone : ∀ k q, src = none → L k = .own r q → newLab (stF r (node [] 0 p).1 (node [] 0 p).2 t'.sz m src) w L (fun _ => .free) k = .own r q := by
      intro k q hn hk
      rw [newLab_old hI (by rw [hk]; simp), hk]
      simp [relab, stF, hn]
    by_cases hs : s = r
    · subst hs
      rw [hTr]
      have hat : ((putCells cur (node [] 0 p).2 cs).toList.drop (node [] 0 p).2).take t'.sz = cs := by
        have := putCells_at (cur := cur) (o := (node [] 0 p).2) (cs := cs) (by omega)
        rwa [hlen] at this
      refine modRoot_rep (cur := cur) (e' := e) (g' := g') (cur' := putCells cur (node [] 0 p).2 cs) hsl hz hm (fun r' hr' => ?_) ?_ (by rw [hat]; exact hy)
      · rw [hnotT r' (hlX r' hr')]
        exact hlend r' (by rw [← hl]; exact hr')
      · refine ⟨fun k hk => ?_, fun k q2 hk hq hu => ?_, hg, hLg, hh, setRow_heap w g' cur _ e _ hh, putCells_size (by omega), fun i hi => putCells_out (by omega) i (by omega), fun k hk => hI.inj k g' s _ hk hg⟩
        · rcases hk with hk | ⟨r', q, hr', hk⟩
          · exact ⟨.inl (newLab_stable hI hk), hw' k (by rintro rfl; rw [hg] at hk; cases hk)⟩
          · refine ⟨.inr ⟨r', q, hr', newLab_id hI hfun hk (hlX r' hr')⟩, hw' k ?_⟩
            rintro rfl
            rw [hg] at hk
            injection hk with hk _
            exact hlX r' hr' (.inl hk.symm)
        · refine ⟨?_, hw' k ?_⟩
          · rw [newLab_old hI (by rw [hk]; simp), hk]
            simp only [relab, stF]
            rw [if_pos trivial, if_neg]
            intro h
            simp only [Bool.and_eq_true] at h
            exact hu (underB_spec.1 h.2)
          · rintro rfl
            rw [hg] at hk
            injection hk with _ hk
            exact hq hk.symm
    · by_cases hs' : src = some s
      · rw [(hsrc s hs').2.2.1]; trivial
      · have ho : (T.getD s .dead).on r = true := by
          rcases hX with h | h | h
          · exact absurd h hs
          · exact absurd h hs'
          · exact h
        rcases hT s hs hs' ho with ⟨h, _⟩ | ⟨h, hk⟩
        · rw [h]; trivial
        · rw [h]
          have hsl' := hI.slots s
          generalize hv : T.getD s .dead = v at hk ho hsl'
          cases v with
          | ptr r2 p2 t2 =>
            obtain ⟨g, h1, h2⟩ := hsl'
            have hr2 : r2 = r := by simpa [V.on, V.root] using ho
            subst hr2
            refine ⟨g, h1, ?_⟩
            have hk : src.isNone = true ∨ shallow p2 = true := by
              simp only [keepable, Bool.or_eq_true, Bool.and_eq_true] at hk
              exact hk.imp id And.left
            rcases hk with hk | hk
            · exact hnone g _ (by simpa using hk) h2
            · rw [shallow_node hk] at h2 ⊢
              rw [newLab_old hI (by rw [h2]; simp), h2]
              simp only [relab, stF]
              rw [if_pos trivial, if_neg]
              intro h
              simp only [Bool.and_eq_true] at h
              obtain ⟨d, rest, _, h⟩ := underB_spec.1 h.2
              have := congrArg List.length h
              simp at this
          | view r2 p2 t2 =>
            have hr2 : r2 = r := by simpa [V.on, V.root] using ho
            subst hr2
            cases p2 with
            | cons _ _ => simp [keepable] at hk
            | nil =>
              obtain ⟨hd, h1⟩ := hsl'
              refine ⟨by rw [hTr, hdeep']; rw [hr] at hd; exact hd, .inl ⟨rfl, ?_, ?_⟩⟩
              · rcases h1 with ⟨_, h2, _⟩ | ⟨_, _, _, h2, _⟩
                · exact h2
                · rw [hr] at h2
                  simp only [keepable] at hk
                  rw [hk] at h2
                  simp at h2
              · rcases h1 with ⟨_, _, l1, n1, x1, h2, h3⟩ | ⟨_, _, _, h2, _⟩
                · rw [hr] at h2
                  rw [hTr]
                  subst h2
                  obtain ⟨x2, rfl⟩ := modRoot_d hm
                  exact ⟨_, _, _, rfl, h3⟩
                · rw [hr] at h2
                  simp only [keepable] at hk
                  rw [hk] at h2
                  simp at h2
          | dead => simp [keepable] at hk
          | tup _ => simp [keepable] at hk
          | d _ _ _ _ => simp [keepable] at hk
          | box _ _ _ _ => simp [keepable] at hk
          | rp _ _ _ => simp [keepable] at hk
          | hole _ _ => simp [keepable] at hk
          | part _ _ _ _ _ => simp [keepable] at hk

end
end Go.Proofs.Ytdfcejijcnhcaaa.C.Am
