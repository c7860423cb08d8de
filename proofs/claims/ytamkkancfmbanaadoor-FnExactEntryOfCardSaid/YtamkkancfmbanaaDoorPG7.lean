/- A part of the proof: Am33, Am34, Am35, Am36, Am50, Am56. No conditions. -/
import Derived.Test.YtamkkancfmbanaaDoorPG6
import Derived.RowKit3
import Derived.ChangeSame
import Derived.Handed
import Derived.Shelf.Strconv.Itoa3
set_option linter.unusedVariables false
set_option linter.unusedSimpArgs false
namespace Go.Proofs.YtamkkancfmbanaaDoor.P.Am

/-! ## 33. What a law is given -/
/-- Integers fit their kinds, texts and rows are no longer than any machine's. -/
def WfD : (t : Ty) → t.den → Prop
  | .int k, x => k.min ≤ x ∧ x ≤ k.max
  | .bool, _ => True
  | .str, x => (x : ByteArray).size ≤ maxLen
  | .raw _, _ => True
  | .unit, _ => True
  | .pair a b, x => WfD a x.1 ∧ WfD b x.2
  | .agg t, x => WfD t x
  | .slice _ t, xs => (xs : List t.den).length ≤ maxLen ∧ ∀ x ∈ (xs : List t.den), WfD t x

/-- Types of plain data. -/
def Ty.flat : Ty → Bool
  | .raw _ => false
  | .unit => false
  | .pair a b => a.flat && b.flat
  | .agg t => t.flat
  | .slice _ t => t.flat
  | _ => true

theorem flat_struct {t : Ty} (h : (Ty.agg t).flat = true) : t.isArr = false := by
  cases hia : t.isArr with
  | false => rfl
  | true =>
    unfold Ty.isArr at hia
    split at hia
    · simp [Ty.flat] at h
    · cases hia

theorem flat_pos : {t : Ty} → t.flat = true → 0 < t.sz
  | .int _, _ | .bool, _ | .str, _ | .slice _ _, _ => by simp [Ty.sz]
  | .raw _, h | .unit, h => by simp [Ty.flat] at h
  | .pair a b, h => by
    simp only [Ty.flat, Bool.and_eq_true] at h
    have := flat_pos h.1
    simp only [Ty.sz]; omega
  | .agg t, h => by simp only [Ty.flat] at h; simpa [Ty.sz] using flat_pos h

theorem flat_comp : {i : Nat} → {t : Ty} → {o : Nat} → {t1 : Ty} → compT i t = some (o, t1) → t.flat = true → t1.flat = true
  | 0, .pair a b, o, t1, h, hf => by simp only [compT, Option.some.injEq, Prod.mk.injEq] at h; obtain ⟨rfl, rfl⟩ := h; simp only [Ty.flat, Bool.and_eq_true] at hf; exact hf.1
  | i + 1, .pair a b, o, t1, h, hf => by
    simp only [compT, Option.map_eq_some_iff] at h
    obtain ⟨⟨o2, t2⟩, h, he⟩ := h
    simp only [Prod.mk.injEq] at he
    obtain ⟨rfl, rfl⟩ := he
    simp only [Ty.flat, Bool.and_eq_true] at hf
    exact flat_comp h hf.2
  | 0, .int _, _, _, h, hf | 0, .bool, _, _, h, hf | 0, .str, _, _, h, hf | 0, .raw _, _, _, h, hf | 0, .unit, _, _, h, hf | 0, .agg _, _, _, h, hf | 0, .slice _ _, _, _, h, hf => by
    simp only [compT, Option.some.injEq, Prod.mk.injEq] at h; obtain ⟨rfl, rfl⟩ := h; exact hf

def Good (w : World) (t : Ty) (cs : List Value) : Prop := ∃ x : t.den, Rd w (fun k => k < w.heap.size) t x cs ∧ WfD t x

theorem good_tuple {w : World} : {t : Ty} → {cs : List Value} → cs.length = t.sz → t ≠ .unit → (∀ j r, compT j t = some r → Good w r.2 ((cs.drop r.1).take r.2.sz)) → Good w t cs
  | .pair a b, cs, hl, _, h => by
    obtain ⟨x, hx, wx⟩ := h 0 (0, a) rfl
    simp only [Ty.sz] at hl
    by_cases hb : b = .unit
    · subst hb
      refine ⟨(x, ()), ?_, wx, trivial⟩
      simp only [Rd]
      refine ⟨cs, [], by simp, ?_, rfl⟩
      simp only [List.drop_zero] at hx
      rw [List.take_of_length_le (by simp [Ty.sz] at hl; omega)] at hx
      exact hx
    · obtain ⟨y, hy, wy⟩ := good_tuple (t := b) (cs := cs.drop a.sz) (by simp; omega) hb (fun j r hr => by
        have := h (j + 1) (a.sz + r.1, r.2) (by simp [compT, hr])
        rwa [← List.drop_drop] at this)
      refine ⟨(x, y), ?_, wx, wy⟩
      simp only [Rd]
      exact ⟨cs.take a.sz, cs.drop a.sz, by simp, by simpa using hx, hy⟩
  | .int _, cs, hl, _, h | .bool, cs, hl, _, h | .str, cs, hl, _, h | .raw _, cs, hl, _, h | .agg _, cs, hl, _, h | .slice _ _, cs, hl, _, h => by
    have := h 0 _ rfl
    simp only [List.drop_zero] at this
    rwa [List.take_of_length_le (Nat.le_of_eq hl)] at this
  | .unit, cs, _, hu, _ => absurd rfl hu

theorem mapM_all {α β : Type} {f : α → Option β} : {l : List α} → {ys : List β} → l.mapM f = some ys → ys.length = l.length ∧ ∀ i (h : i < l.length), ∃ y, f l[i] = some y ∧ ys[i]? = some y
  | [], ys, h => by simp at h; subst h; exact ⟨rfl, fun i h => absurd h (by simp)⟩
  | a :: l, ys, h => by
    simp only [List.mapM_cons, Option.bind_eq_bind, Option.bind_eq_some_iff, Option.pure_def, Option.some.injEq] at h
    obtain ⟨y, hy, ys', hys, rfl⟩ := h
    obtain ⟨h1, h2⟩ := mapM_all hys
    refine ⟨by simp [h1], fun i hi => ?_⟩
    cases i with
    | zero => exact ⟨y, hy, rfl⟩
    | succ i =>
      obtain ⟨z, hz, hz2⟩ := h2 i (by simpa using hi)
      exact ⟨z, by simpa using hz, by simpa using hz2⟩

theorem choose_list {α : Type} {Q : Nat → α → Prop} : {n : Nat} → (∀ i, i < n → ∃ x, Q i x) → ∃ xs : List α, xs.length = n ∧ ∀ i (h : i < xs.length), Q i xs[i]
  | 0, _ => ⟨[], rfl, fun i h => absurd h (by simp)⟩
  | n + 1, h => by
    obtain ⟨xs, hl, hq⟩ := choose_list (n := n) (fun i hi => h i (by omega))
    obtain ⟨x, hx⟩ := h n (by omega)
    refine ⟨xs ++ [x], by simp [hl], fun i hi => ?_⟩
    by_cases hin : i < xs.length
    · rw [List.getElem_append_left hin]; exact hq i hin
    · have : i = n := by simp at hi; omega
      subst this
      rw [List.getElem_append_right (by omega)]
      simpa using hx

theorem cells_some [Glob] {w : World} {base : Nat} {a : Addr} {n : Nat} {es : List Value} (h : w.cells? base a n = some es) : es.length = n ∧ ∀ i v, es[i]? = some v → w.cell? (a.add i) = some v := by
  unfold World.cells? at h
  split at h
  · obtain ⟨h1, h2⟩ := mapM_all h
    simp only [List.length_range] at h1
    refine ⟨h1, fun i v hv => ?_⟩
    obtain ⟨hi, _⟩ := List.getElem?_eq_some_iff.1 hv
    obtain ⟨y, hy, hy2⟩ := h2 i (by simpa using by omega)
    rw [hv] at hy2
    injection hy2 with hy2
    subst hy2
    simpa using hy
  · cases h

theorem cell_lt {w : World} {a : Addr} {v : Value} (h : w.cell? a = some v) : a.block < w.heap.size ∧ a.spot = none := by
  unfold World.cell? at h
  split at h
  · rename_i c _ _ hh
    split at h
    · cases h
    · rename_i hs
      exact ⟨(Array.getElem?_eq_some_iff.1 hh).1, by simpa using hs⟩
  · cases h

theorem add_add (a : Addr) (i j : Nat) (h : a.spot = none) : (a.add i).add j = ⟨a.block, a.off + (i + j), none⟩ := by
  obtain ⟨b, o, s⟩ := a
  subst h
  unfold Addr.add
  split <;> split <;> simp_all <;> omega

section
variable {H : Type} {enc : TypeId × Value → H} {P : Program} {C : Ctx} {w : World} {base : Nat} {spare : Nat → Bool} {held : Bool}

theorem trod_slice {fuel : Nat} {X e : TypeId} {cs : List Value} {r : DataW H × List MemPlace} (hu : P.underlying X = some (.slice e)) (h : DataW.trod enc P w base spare held (fuel + 1) X cs = some r) :
    cs = [.slice none 0 0] ∨ ∃ a len cap elems, cs = [.slice (some a) len cap] ∧ len ≤ cap ∧ cap ≤ maxLen ∧
      (List.range len).mapM (fun i => (w.cells? base (a.add (i * P.cellsOf e)) (P.cellsOf e)).bind (DataW.trod enc P w base spare held fuel e)) = some elems := by
  simp only [DataW.trod, hu] at h
  rcases cs with _ | ⟨c, _ | ⟨c2, cs⟩⟩
  · simp at h
  · cases c with
    | slice A len cap =>
      cases A with
      | none =>
        rcases len with _ | len <;> rcases cap with _ | cap <;> simp at h ⊢
      | some a =>
        right
        dsimp only at h
        split at h
        · rename_i hc
          obtain ⟨elems, h1, _⟩ := Option.bind_eq_some_iff.1 h
          exact ⟨a, len, cap, elems, rfl, hc.2.1, hc.2.2, h1⟩
        · cases h
    | _ => simp at h
  · simp at h

theorem trod_good [Glob] (hC : CtxOk P C) : ∀ (fuel : Nat) (t : Ty) (X : TypeId) (cs : List Value) (r : DataW H × List MemPlace), C.ty X = some t → t.flat = true → DataW.trod enc P w base spare held fuel X cs = some r → Good w t cs := by
  intro fuel
  induction fuel with
  | zero => intro t X cs r _ _ h; simp [DataW.trod] at h
  | succ fuel ih =>
    intro t X cs r hX hf h
    have hty := hC X t hX
    have hu := hty.und
    obtain ⟨inf, z, hi1, hi2, _⟩ := hty.info
    have hcells : P.cellsOf X = t.sz := by simp [Program.cellsOf, hi1, hi2]
    cases t with
    | int k =>
      simp only [DataW.trod] at h
      rw [hu] at h
      split at h <;> simp_all
      obtain ⟨h1, _⟩ := h
      obtain ⟨rfl, h1⟩ := h1
      simp only [Lit.wf, Bool.and_eq_true, decide_eq_true_eq] at h1
      exact ⟨_, show _ = _ from rfl, h1⟩
    | bool =>
      simp only [DataW.trod] at h
      rw [hu] at h
      split at h <;> simp_all
      exact ⟨_, show _ = _ from rfl, trivial⟩
    | str =>
      simp only [DataW.trod] at h
      rw [hu] at h
      split at h <;> simp_all
      exact ⟨_, show _ = _ from rfl, h.1⟩
    | raw z => simp [Ty.flat] at hf
    | unit => simp [Ty.flat] at hf
    | pair a b => exact hu.elim
    | slice e te =>
      obtain ⟨hu, he⟩ := hu
      have hfe : te.flat = true := hf
      have hce : P.cellsOf e = te.sz := by
        obtain ⟨inf', z', hi1', hi2', _⟩ := (hC e te he).info
        simp [Program.cellsOf, hi1', hi2']
      have hpos := flat_pos hfe
      rcases trod_slice hu h with rfl | ⟨a, len, cap, elems, rfl, hlc, hcm, h1⟩
      · exact ⟨[], by simp only [Rd]; exact ⟨none, 0, rfl, by simp, by simp, by simp⟩, by simp [WfD, maxLen]⟩
      · rw [hce] at h1
        obtain ⟨h2, h3⟩ := mapM_all h1
        have hel : ∀ i, i < len → ∃ es, w.cells? base (a.add (i * te.sz)) te.sz = some es ∧ Good w te es := by
          intro i hi
          obtain ⟨y, hy, _⟩ := h3 i (by simpa using hi)
          simp only [List.getElem_range] at hy
          obtain ⟨es, hes, hy⟩ := Option.bind_eq_some_iff.1 hy
          exact ⟨es, hes, ih te _ es y he hfe hy⟩
        obtain ⟨xs, hxl, hxs⟩ := choose_list (Q := fun i x => ∃ es, w.cells? base (a.add (i * te.sz)) te.sz = some es ∧ Rd w (fun k => k < w.heap.size) te x es ∧ WfD te x) (n := len) (fun i hi => by
          obtain ⟨es, hes, x, hx, wx⟩ := hel i hi
          exact ⟨x, es, hes, hx, wx⟩)
        refine ⟨xs, ?_, ?_⟩
        · simp only [Rd]
          refine ⟨some a, cap, by rw [hxl], by rw [hxl]; exact hlc, by simp, fun hne => ?_⟩
          have h0 : 0 < xs.length := List.length_pos_iff.2 hne
          obtain ⟨es, hes, _⟩ := hxs 0 h0
          obtain ⟨hl0, hc0⟩ := cells_some hes
          obtain ⟨v0, hv0⟩ : ∃ v, es[0]? = some v := ⟨_, List.getElem?_eq_getElem (by omega)⟩
          obtain ⟨hlt, hsp⟩ := cell_lt (hc0 0 v0 hv0)
          have hspot : a.spot = none := by simpa [Addr.add] using hsp
          have hblk : a.block < w.heap.size := by simpa [Addr.add] using hlt
          refine ⟨a.block, a.off, by obtain ⟨b, o, s⟩ := a; simp_all, hblk, fun j hj => ?_⟩
          obtain ⟨es, hes, hrd, _⟩ := hxs j hj
          refine ⟨es, hrd, fun i v hv => ?_⟩
          have := (cells_some hes).2 i v hv
          rwa [add_add a _ _ hspot] at this
        · refine ⟨by rw [hxl]; omega, fun x hx => ?_⟩
          obtain ⟨i, hi, rfl⟩ := List.mem_iff_getElem.1 hx
          obtain ⟨es, _, _, wx⟩ := hxs i hi
          exact wx
    | agg t' =>
      obtain ⟨⟨fs, hu, hfo, hfn⟩, _⟩ := (hC X _ hX).str (flat_struct hf)
      simp only [DataW.trod] at h
      rw [hu] at h
      have h' : (if cs.length = P.cellsOf X then (fs.toList.mapM fun f => DataW.trod enc P w base spare held fuel f.type ((cs.drop f.offset).take (P.cellsOf f.type))).map fun xs => (DataW.agg (xs.map (·.1)), xs.flatMap (·.2)) else none) = some r := by
        split at h <;> simp_all
      clear h
      split at h'
      · rename_i hl
        obtain ⟨xs, hxs, _⟩ := Option.map_eq_some_iff.1 h'
        obtain ⟨_, h3⟩ := mapM_all hxs
        have hft : t'.flat = true := hf
        have hne : t' ≠ .unit := by rintro rfl; simp [Ty.flat] at hft
        have hl' : cs.length = t'.sz := by rw [hl, hcells]; rfl
        have : Good w t' cs := good_tuple hl' hne (fun j r hr => by
          have hlt := hfn j r hr
          obtain ⟨t1, e1, e2, _⟩ := hfo j fs[j] (Array.getElem?_eq_getElem hlt)
          rw [hr] at e1
          injection e1 with e1
          subst e1
          obtain ⟨y, hy, _⟩ := h3 j (by simpa using hlt)
          simp only [Array.getElem_toList] at hy
          obtain ⟨inf', z', hi1', hi2', _⟩ := (hC _ _ e2).info
          have hce : P.cellsOf fs[j].type = t1.sz := by simp [Program.cellsOf, hi1', hi2']
          rw [hce] at hy
          exact ih t1 _ _ y e2 (flat_comp hr hft) hy)
        obtain ⟨x, hx, wx⟩ := this
        exact ⟨x, by simp only [Rd]; exact hx, wx⟩
      · cases h'

end
end Go.Proofs.YtamkkancfmbanaaDoor.P.Am

set_option linter.unusedVariables false
set_option linter.unusedSimpArgs false
namespace Go.Proofs.YtamkkancfmbanaaDoor.P.Am

/-! ## 34. What was read is read again -/
theorem mapM_congr {α β : Type} {f g : α → Option β} : {l : List α} → {ys : List β} → l.mapM f = some ys → (∀ a y, f a = some y → y ∈ ys → g a = some y) → l.mapM g = some ys
  | [], ys, h, _ => by simpa using h
  | a :: l, ys, h, H => by
    simp only [List.mapM_cons, Option.bind_eq_bind, Option.bind_eq_some_iff, Option.pure_def, Option.some.injEq] at h
    obtain ⟨y, hy, ys', hys, rfl⟩ := h
    have h1 := H a y hy (by simp)
    have h2 := mapM_congr hys (fun a y ha hm => H a y ha (by simp [hm]))
    simp [h1, h2]

section
variable {H : Type} {enc : TypeId × Value → H} {P : Program} {C : Ctx} {w w' : World} {base : Nat} {sp : Nat → Bool} {held : Bool}

theorem cells_again [Glob] (hH : ∀ k, k < w.heap.size → w'.heap[k]? = w.heap[k]?) {a : Addr} {n : Nat} {es : List Value} (h : w.cells? base a n = some es) : w'.cells? base a n = some es := by
  unfold World.cells? at h ⊢
  split at h
  · rename_i hb
    rw [if_pos hb]
    refine mapM_congr h (fun i v hv _ => ?_)
    have := (cell_lt hv).1
    rw [World.cell?_of_block (hH _ this)]
    exact hv
  · cases h

theorem row_mem {a : Addr} {n i : Nat} (h : i < n) : ∃ p ∈ MemPlace.row a n, p.block = a.block := by
  unfold MemPlace.row
  exact ⟨_, List.mem_map.2 ⟨i, by simpa using h, rfl⟩, by simp [MemPlace.block]⟩

theorem trod_slice2 {fuel : Nat} {X e : TypeId} {a : Addr} {len cap : Nat} {r : DataW H × List MemPlace} {sp : Nat → Bool} (hu : P.underlying X = some (.slice e)) (h : DataW.trod enc P w base sp held (fuel + 1) X [.slice (some a) len cap] = some r) :
    (base ≤ a.block ∧ len ≤ cap ∧ cap ≤ maxLen) ∧ ∃ elems rest, (List.range len).mapM (fun i => (w.cells? base (a.add (i * P.cellsOf e)) (P.cellsOf e)).bind (DataW.trod enc P w base sp held fuel e)) = some elems ∧
      (if sp a.block = true then (List.range (cap - len)).mapM (fun j => (w.cells? base (a.add ((len + j) * P.cellsOf e)) (P.cellsOf e)).bind (DataW.trod enc P w base sp held fuel e)) else some []) = some rest ∧
      r = (.slice (elems.map (·.1)) (rest.map (·.1)), MemPlace.row a ((elems.length + rest.length) * P.cellsOf e) ++ (elems ++ rest).flatMap (·.2)) := by
  simp only [DataW.trod, hu] at h
  split at h
  · rename_i hc
    obtain ⟨elems, h1, h2⟩ := Option.bind_eq_some_iff.1 h
    obtain ⟨rest, h3, h4⟩ := Option.map_eq_some_iff.1 h2
    exact ⟨hc, elems, rest, h1, h3, h4.symm⟩
  · cases h

theorem trod_again [Glob] (hC : CtxOk P C) (hH : ∀ k, k < w.heap.size → w'.heap[k]? = w.heap[k]?) : ∀ (fuel : Nat) (t : Ty) (X : TypeId) (cs : List Value) (r : DataW H × List MemPlace), C.ty X = some t → t.flat = true →
    DataW.trod enc P w base (fun _ => true) held fuel X cs = some r → (∀ p ∈ r.2, sp p.block = true) → DataW.trod enc P w' base sp held fuel X cs = some r := by
  intro fuel
  induction fuel with
  | zero => intro t X cs r _ _ h; simp [DataW.trod] at h
  | succ fuel ih =>
    intro t X cs r hX hf h hs
    have hu := (hC X t hX).und
    cases t with
    | int k =>
      simp only [DataW.trod, hu] at h ⊢
      rcases cs with _ | ⟨c, _ | ⟨c2, cs⟩⟩
      · simp at h
      · cases c <;> simp at h ⊢ <;> exact h
      · simp at h
    | bool =>
      simp only [DataW.trod, hu] at h ⊢
      rcases cs with _ | ⟨c, _ | ⟨c2, cs⟩⟩
      · simp at h
      · cases c <;> simp at h ⊢ <;> exact h
      · simp at h
    | str =>
      simp only [DataW.trod, hu] at h ⊢
      rcases cs with _ | ⟨c, _ | ⟨c2, cs⟩⟩
      · simp at h
      · cases c <;> simp at h ⊢ <;> exact h
      · simp at h
    | raw z => simp [Ty.flat] at hf
    | unit => simp [Ty.flat] at hf
    | pair a b => exact hu.elim
    | slice e te =>
      obtain ⟨hu, he⟩ := hu
      have hfe : te.flat = true := hf
      have hce : P.cellsOf e = te.sz := by
        obtain ⟨inf', z', hi1', hi2', _⟩ := (hC e te he).info
        simp [Program.cellsOf, hi1', hi2']
      have hpos := flat_pos hfe
      rcases trod_slice hu h with rfl | ⟨a, len, cap, _, rfl, _, _, _⟩
      · simp only [DataW.trod, hu] at h ⊢
        simpa using h
      · obtain ⟨hc, elems, rest, h1, h2, rfl⟩ := trod_slice2 hu h
        rw [if_pos rfl] at h2
        have hstep : ∀ (i : Nat) (y : DataW H × List MemPlace), ((w.cells? base (a.add (i * P.cellsOf e)) (P.cellsOf e)).bind (DataW.trod enc P w base (fun _ => true) held fuel e)) = some y → (∀ p ∈ y.2, sp p.block = true) →
            ((w'.cells? base (a.add (i * P.cellsOf e)) (P.cellsOf e)).bind (DataW.trod enc P w' base sp held fuel e)) = some y := by
          intro i y hy hp
          obtain ⟨es, hes, hy⟩ := Option.bind_eq_some_iff.1 hy
          rw [cells_again hH hes]
          exact ih te e es y he hfe hy hp
        have hmem : ∀ y, (y ∈ elems ∨ y ∈ rest) → ∀ p ∈ y.2, sp p.block = true := fun y hy p hp => hs p (by
          simp only [List.mem_append, List.mem_flatMap]
          exact .inr ⟨y, hy, hp⟩)
        have g1 := mapM_congr h1 (fun i y hy hm => hstep i y hy (hmem y (.inl hm)))
        have g2 := mapM_congr h2 (fun j y hy hm => hstep (len + j) y hy (hmem y (.inr hm)))
        simp only [DataW.trod, hu]
        rw [if_pos hc, g1, Option.bind_some]
        by_cases hsp : sp a.block = true
        · rw [if_pos hsp, g2]; rfl
        · have hz : elems.length + rest.length = 0 := by
            apply Classical.byContradiction
            intro hne
            have : 0 < (elems.length + rest.length) * P.cellsOf e := by rw [hce]; exact Nat.mul_pos (by omega) hpos
            obtain ⟨p, hp, hb⟩ := row_mem (a := a) this
            exact hsp (by rw [← hb]; exact hs p (List.mem_append_left _ hp))
          have : rest = [] := List.eq_nil_of_length_eq_zero (by omega)
          subst this
          rw [if_neg hsp]; rfl
    | agg t' =>
      obtain ⟨⟨fs, hu, hfo, hfn⟩, _⟩ := (hC X _ hX).str (flat_struct hf)
      simp only [DataW.trod, hu] at h ⊢
      split at h
      · rename_i hl
        rw [if_pos hl]
        obtain ⟨xs, hxs, rfl⟩ := Option.map_eq_some_iff.1 h
        have hft : t'.flat = true := hf
        have : fs.toList.mapM (fun f => DataW.trod enc P w' base sp held fuel f.type ((cs.drop f.offset).take (P.cellsOf f.type))) = some xs := by
          have gen : ∀ (l : List Field) (xs : List (DataW H × List MemPlace)), (∀ f ∈ l, f ∈ fs.toList) → l.mapM (fun f => DataW.trod enc P w base (fun _ => true) held fuel f.type ((cs.drop f.offset).take (P.cellsOf f.type))) = some xs → (∀ y ∈ xs, ∀ p ∈ y.2, sp p.block = true) →
              l.mapM (fun f => DataW.trod enc P w' base sp held fuel f.type ((cs.drop f.offset).take (P.cellsOf f.type))) = some xs := by
            intro l
            induction l with
            | nil => intro xs _ h _; simpa using h
            | cons f l ihl =>
              intro xs hsub h hp
              simp only [List.mapM_cons, Option.bind_eq_bind, Option.bind_eq_some_iff, Option.pure_def, Option.some.injEq] at h
              obtain ⟨y, hy, ys', hys, rfl⟩ := h
              obtain ⟨j, hj⟩ := List.mem_iff_getElem?.1 (hsub f (by simp))
              obtain ⟨t1, e1, e2, _⟩ := hfo j f (by simpa using hj)
              have g1 := ih t1 _ _ y e2 (flat_comp e1 hft) hy (hp y (by simp))
              have g2 := ihl ys' (fun f hf => hsub f (by simp [hf])) hys (fun z hz => hp z (by simp [hz]))
              simp [g1, g2]
          exact gen _ _ (fun _ h => h) hxs (fun y hy p hp => hs p (by
            simp only [List.mem_flatMap]
            exact ⟨y, hy, hp⟩))
        rw [this]; rfl
      · cases h

end
end Go.Proofs.YtamkkancfmbanaaDoor.P.Am

set_option linter.unusedVariables false
set_option linter.unusedSimpArgs false
namespace Go.Proofs.YtamkkancfmbanaaDoor.P.Am
open Go.ChangeShapes Go.WideShapes

/-! ## 35. From a law's function to its row -/
section
variable {H : Type} {enc : TypeId × Value → H} {P : Program} {C : Ctx} {w w' : World}

theorem okWide_form [Glob] (hC : CtxOk P C) {X : TypeId} {t : Ty} {v : Value} {base : Nat} (hX : C.ty X = some t) (hf : t.flat = true) (hok : Value.okWide P w .any base X v) : Form t v.cells.toList v := by
  have hu := (hC X t hX).und
  unfold Value.okWide at hok
  cases t with
  | agg t' =>
    obtain ⟨⟨fs, hu, _⟩, _⟩ := (hC X _ hX).str (flat_struct hf)
    rw [hu] at hok
    obtain ⟨cs, rfl, _⟩ := hok
    simp [Form, Value.cells]
  | int k =>
    rw [hu] at hok
    cases v <;> simp [Cell.okWide, Cell.ok, hu] at hok
    rfl
  | bool =>
    rw [hu] at hok
    cases v <;> simp [Cell.okWide, Cell.ok, hu] at hok
    rfl
  | str =>
    rw [hu] at hok
    cases v <;> simp [Cell.okWide, Cell.ok, hu] at hok
    rfl
  | slice e te =>
    obtain ⟨hu, _⟩ := hu
    rw [hu] at hok
    cases v <;> simp [Cell.okWide, Cell.ok, hu] at hok
    rfl
  | raw z => simp [Ty.flat] at hf
  | unit => simp [Ty.flat] at hf
  | pair a b => exact hu.elim

/-- The parameters' types: read only, plain. -/
def parsB (C : Ctx) : List TypeId → List (Ty × Mode) → Bool
  | [], [] => true
  | X :: Xs, (t, .ro) :: ps => decide (C.ty X = some t) && t.flat && parsB C Xs ps
  | _, _ => false

def lawLab (w : World) : Nat → Lab := fun k => if k < w.heap.size then .stable else .free

theorem args_rep [Glob] (hC : CtxOk P C) {base : Nat} : {Xs : List TypeId} → {ps : List (Ty × Mode)} → {vs : List Value} → {ds : List (DataW H)} → {p : List MemPlace} → {i : Nat} → parsB C Xs ps = true →
    (∀ (j : Nat) t v, Xs[j]? = some t → vs[j]? = some v → Value.okWide P w .any base t v) → DataW.TrodAll enc P w 0 (fun _ => true) true Xs vs ds p → ∃ x, ArgsRep w (lawLab w) i ps x vs ∧ WfD (pTy ps) x
  | [], [], vs, ds, p, i, _, _, h => by
    obtain ⟨rfl, _⟩ := trodAll_nil h
    exact ⟨(), rfl, trivial⟩
  | X :: Xs, (t, .ro) :: ps, vs, ds, p, i, hb, hok, h => by
    simp only [parsB, Bool.and_eq_true, decide_eq_true_eq] at hb
    obtain ⟨⟨hX, hf⟩, hb⟩ := hb
    obtain ⟨v, vs1, d, ds1, a, b, rfl, rfl, rfl, ⟨fuel, h1⟩, h2⟩ := trodAll_cons h
    obtain ⟨x, hx, wx⟩ := trod_good hC fuel t X _ _ hX hf h1
    obtain ⟨y, hy, wy⟩ := args_rep (i := i + 1) hC hb (fun j t v' hj hv => hok (j + 1) t v' (by simpa using hj) (by simpa using hv)) h2
    refine ⟨(x, y), ?_, wx, wy⟩
    refine ⟨v, vs1, v.cells.toList, rfl, okWide_form hC hX hf (hok 0 X v rfl rfl), Own.of_rd (Rd.move (fun k hk => ⟨?_, rfl⟩) hx), hy⟩
    have hk : k < w.heap.size := hk
    show (lawLab w) k = .stable
    unfold lawLab
    rw [if_pos hk]
  | [], _ :: _, _, _, _, _, hb, _, _ => by simp [parsB] at hb
  | _ :: _, [], _, _, _, _, hb, _, _ => by simp [parsB] at hb
  | _ :: _, (_, .mut _) :: _, _, _, _, _, hb, _, _ => by simp [parsB] at hb

theorem args_again [Glob] (hC : CtxOk P C) (hH : ∀ k, k < w.heap.size → w'.heap[k]? = w.heap[k]?) {sp : Nat → Bool} : {Xs : List TypeId} → {ps : List (Ty × Mode)} → {vs : List Value} → {ds : List (DataW H)} → {p : List MemPlace} → parsB C Xs ps = true →
    DataW.TrodAll enc P w 0 (fun _ => true) true Xs vs ds p → (∀ q ∈ p, sp q.block = true) → DataW.TrodAll enc P w' 0 sp true Xs vs ds p
  | [], [], vs, ds, p, _, h, _ => by
    obtain ⟨rfl, rfl, rfl⟩ := trodAll_nil h
    exact trodAll_mk0
  | X :: Xs, (t, .ro) :: ps, vs, ds, p, hb, h, hs => by
    simp only [parsB, Bool.and_eq_true, decide_eq_true_eq] at hb
    obtain ⟨⟨hX, hf⟩, hb⟩ := hb
    obtain ⟨v, vs1, d, ds1, a, b, rfl, rfl, rfl, ⟨fuel, h1⟩, h2⟩ := trodAll_cons h
    exact ⟨a, b, ⟨fuel, trod_again hC hH fuel t X _ _ hX hf h1 (fun q hq => hs q (List.mem_append_left _ hq))⟩, args_again hC hH hb h2 (fun q hq => hs q (List.mem_append_right _ hq)), rfl⟩
  | [], _ :: _, _, _, _, hb, _, _ => by simp [parsB] at hb
  | _ :: _, [], _, _, _, hb, _, _ => by simp [parsB] at hb
  | _ :: _, (_, .mut _) :: _, _, _, _, hb, _, _ => by simp [parsB] at hb

/-- A law's call, on whatever it may be given. -/
theorem law_calls [Glob] (hC : CtxOk P C) {f : FuncId} {ps : List (Ty × Mode)} {sem : (pTy ps).den → Option (Ty.pair (rTy [(.bool, 0)]) (mTy ps)).den} (hok : FnOk P f ⟨ps, [(.bool, 0)], sem⟩)
    (hgl : Glob.ok w (lawLab w)) (hsem : ∀ x, WfD (pTy ps) x → ∃ m, sem x = some ((true, ()), m)) {Xs : List TypeId} (hb : parsB C Xs ps = true) {args : Array Value} {base : Nat} {ds : List (DataW H)} {p : List MemPlace}
    (hval : ∀ (j : Nat) t v, Xs[j]? = some t → args[j]? = some v → Value.okWide P w .any base t v) (hA : DataW.TrodAll enc P w 0 (fun _ => true) true Xs args.toList ds p) :
    Calls P f args w (fun e w' => e = .returned (.bool true) ∧ w'.os = w.os ∧ w'.output = w.output ∧ w.heap.size ≤ w'.heap.size ∧ ∀ k, k < w.heap.size → w'.heap[k]? = w.heap[k]?) := by
  obtain ⟨x, hx, wx⟩ := args_rep (i := 0) hC hb (fun j t v hj hv => hval j t v hj (by simpa using hv)) hA
  obtain ⟨m, hm⟩ := hsem x wx
  have hl : Legit w (lawLab w) ps := by
    refine ⟨fun k hk => ?_, fun k k' s q h => ?_, fun k s q h => ?_, hgl⟩
    · unfold lawLab; rw [if_neg (by omega)]
    · unfold lawLab at h; split at h <;> cases h
    · unfold lawLab at h; split at h <;> cases h
  refine Calls.mono (hok.2 x _ hm w (lawLab w) args hl hx) ?_
  rintro e w' ⟨cs, L', rfl, hleft, hres, _⟩
  have hres := (ResTop.low (rs := [(.bool, 0)]) rfl).1 hres
  simp only [ResRep] at hres
  obtain ⟨c, cs', cells, rfl, h1, h2, rfl⟩ := hres
  simp only [Own] at h2
  subst h2
  have hc : c = .bool true := ((List.cons.inj h1).1).symm
  subst hc
  exact ⟨rfl, hleft.os, hleft.output, hleft.size, fun k hk => (hleft.keep k hk (.inl (by unfold lawLab; rw [if_pos hk]))).2⟩

theorem law_post [Glob] {f : Func} {s : ChangeSpec} {apart fresh handsOn again : Bool} {args : Array Value} {ds gs : List (DataW H)} {before : List MemPlace} (hC : CtxOk P C) {ps : List (Ty × Mode)} (hb : parsB C f.params.toList ps = true)
    (hW : DataW.Whole enc P f.params.toList s.vars apart w args.toList ds gs before) (hvars : s.vars = []) (hs : s.fn H (ds ++ gs) = { results := [.lit (.bool true)], args := ds }) {B : TypeId} (hres : f.resultTypes = #[B]) (hB : P.underlying B = some .bool)
    (hos : w'.os = w.os) (hout : w'.output = w.output) (hH : ∀ k, k < w.heap.size → w'.heap[k]? = w.heap[k]?) : s.post enc P f apart fresh handsOn again w args (.bool true) w' := by
  have hlt := hW.lt
  have hW0 := hW
  obtain ⟨p, q, hA, hV, rfl, hz, hn⟩ := hW
  rw [hvars] at hV
  have hq : q = [] ∧ gs = [] := by
    cases gs with
    | nil => exact ⟨hV, rfl⟩
    | cons _ _ => exact hV.elim
  obtain ⟨rfl, rfl⟩ := hq
  have hread : ∀ (b : Nat) (sp : Nat → Bool) (hd : Bool), DataW.TrodAll enc P w' b sp hd f.resultTypes.toList ((Value.bool true).resultList f.resultTypes.size) (s.fn H (ds ++ [])).results [] := by
    intro b sp hd
    rw [hs, hres]
    refine ⟨[], [], ⟨1, ?_⟩, rfl, rfl⟩
    simp [DataW.trod, hB, Value.cells]
  have hargs : ∀ sp : Nat → Bool, (∀ q ∈ p, sp q.block = true) → DataW.TrodAll enc P w' 0 sp true f.params.toList args.toList (s.fn H (ds ++ [])).args p := by
    intro sp h
    rw [hs]
    exact args_again hC hH hb hA h
  have hv : ∀ sp : Nat → Bool, DataW.TrodVars enc P w' sp s.vars (s.fn H (ds ++ [])).vars [] := by
    intro sp
    rw [hs, hvars]
    rfl
  have hkb : w.keptBut w' (fun _ => False) := by
    refine ⟨hos, hout, fun i hi => ?_⟩
    rw [hH i hi]
    split
    · rename_i h1 h2
      rw [h1] at h2
      cases h2
      exact ⟨rfl, rfl, rfl, fun _ _ => rfl⟩
    · rename_i h1 h2
      rw [h1] at h2
      cases h2
      exact .inr ⟨rfl, rfl⟩
    · rfl
  refine ⟨ds, [], p ++ [], [], p, [], hW0, hread _ _ _, hargs _ (fun q hq => by simpa using hlt q (by simpa using hq)), hv _, World.keptBut_mono (fun _ h => h.elim) hkb, fun _ => ?_⟩
  refine ⟨fun j t r hj hr => ?_, _, _, ([] ++ p) ++ [], ⟨[] ++ p, [], trodAll_append (hargs _ (fun _ _ => rfl)) (hread _ _ _), hv _, rfl, fun b off hp => ?_, fun ha => ?_⟩, fun q hq _ => by simpa using hq⟩
  · rw [hres] at hj hr
    cases j with
    | zero =>
      simp [Value.resultList] at hj hr
      subst hj hr
      simp [Value.okWide, hB, Cell.okWide, Cell.ok]
    | succ j => simp at hj
  · have hp' : MemPlace.cell b off ∈ p ++ [] := by simpa using hp
    have hb' : b < w.heap.size := hlt _ hp'
    have := hz b off hp'
    unfold World.frozen? at this ⊢
    dsimp only at this ⊢
    rw [hH b hb']
    exact this
  · have := hn ha
    simpa using this

theorem trodAll_len {base : Nat} {sp : Nat → Bool} {held : Bool} : {ts : List TypeId} → {vs : List Value} → {ds : List (DataW H)} → {p : List MemPlace} → DataW.TrodAll enc P w base sp held ts vs ds p → ds.length = ts.length
  | [], _, _, _, h => by obtain ⟨_, rfl, _⟩ := trodAll_nil h; rfl
  | _ :: _, _, _, _, h => by
    obtain ⟨v, vs1, d, ds1, a, b, rfl, rfl, rfl, _, h2⟩ := trodAll_cons h
    simp [trodAll_len h2]

/-- What the row asks of the call. -/
theorem law_contractG [Glob] (hC : CtxOk P C) {f : FuncId} {fn : Func} {s : ChangeSpec} {apart fresh handsOn again : Bool} {ps : List (Ty × Mode)} {sem : (pTy ps).den → Option (Ty.pair (rTy [(.bool, 0)]) (mTy ps)).den}
    (hok : FnOk P f ⟨ps, [(.bool, 0)], sem⟩) (hsem : ∀ x, WfD (pTy ps) x → ∃ m, sem x = some ((true, ()), m)) (hb : parsB C fn.params.toList ps = true) (hvars : s.vars = [])
    (hs : ∀ ds : List (DataW H), ds.length = fn.params.size → s.fn H ds = { results := [.lit (.bool true)], args := ds }) {B : TypeId} (hres : fn.resultTypes = #[B]) (hB : P.underlying B = some .bool)
    (W : World) (base : Nat) (args : Array Value) (ds gs : List (DataW H)) (before : List MemPlace)
    (hval : ∀ (j : Nat) t v, fn.params[j]? = some t → args[j]? = some v → Value.okWide P W .any base t v) (hW : DataW.Whole enc P fn.params.toList s.vars apart W args.toList ds gs before) (hgl : Glob.ok W (lawLab W)) :
    Calls P f args W fun e W' => ∃ v, e = .returned v ∧ s.post enc P fn apart fresh handsOn again W args v W' := by
  have hW0 := hW
  obtain ⟨p, q, hA, hV, rfl, hz, hn⟩ := hW
  have hgs : gs = [] := by
    rw [hvars] at hV
    cases gs with
    | nil => rfl
    | cons _ _ => exact hV.elim
  refine Calls.mono (law_calls hC hok hgl hsem hb (fun j t v hj hv => hval j t v (by simpa using hj) hv) hA) ?_
  rintro e W' ⟨rfl, h1, h2, h3, h4⟩
  refine ⟨_, rfl, law_post hC hb hW0 hvars ?_ hres hB h1 h2 h4⟩
  rw [hgs, List.append_nil]
  exact hs ds (by have := trodAll_len hA; simpa using this)


theorem law_contract [Glob] (hC : CtxOk P C) {f : FuncId} {fn : Func} {s : ChangeSpec} {apart fresh handsOn again : Bool} {ps : List (Ty × Mode)} {sem : (pTy ps).den → Option (Ty.pair (rTy [(.bool, 0)]) (mTy ps)).den}
    (hok : FnOk P f ⟨ps, [(.bool, 0)], sem⟩) (hsem : ∀ x, WfD (pTy ps) x → ∃ m, sem x = some ((true, ()), m)) (hgl : ∀ w, Glob.ok w (lawLab w)) (hb : parsB C fn.params.toList ps = true) (hvars : s.vars = [])
    (hs : ∀ ds : List (DataW H), ds.length = fn.params.size → s.fn H ds = { results := [.lit (.bool true)], args := ds }) {B : TypeId} (hres : fn.resultTypes = #[B]) (hB : P.underlying B = some .bool)
    (W : World) (base : Nat) (args : Array Value) (ds gs : List (DataW H)) (before : List MemPlace)
    (hval : ∀ (j : Nat) t v, fn.params[j]? = some t → args[j]? = some v → Value.okWide P W .any base t v) (hW : DataW.Whole enc P fn.params.toList s.vars apart W args.toList ds gs before) :
    Calls P f args W fun e W' => ∃ v, e = .returned v ∧ s.post enc P fn apart fresh handsOn again W args v W' :=
  law_contractG hC hok hsem hb hvars hs hres hB W base args ds gs before hval hW (hgl W)

end
end Go.Proofs.YtamkkancfmbanaaDoor.P.Am

set_option linter.unusedVariables false
namespace Go.Proofs.YtamkkancfmbanaaDoor.P.Am

/-! ## 36. Loops by their place in the code -/
/-- One turn of a loop. -/
noncomputable def turnB (E : Env) {R : Type} (c : Code) (k : Ex → List V → Option R) (self : List V → Option R) (T : List V) : Option R := denK E c (fun e T' => match e with
  | .nrm => keepK (E.keep (loopKey c)) T' self
  | .ext i => k (.ext i) T'
  | .ret => k .ret T') T

/-- The code at a place, and what follows it. -/
noncomputable def contAt (E : Env) {R : Type} : List Nat → Code → (Ex → List V → Option R) → Code × (Ex → List V → Option R)
  | [], c, k => (c, k)
  | 0 :: p, .seq a b, k => contAt E p a (fun e T' => match e with
    | .nrm => keepK (E.keep (joinKey b)) T' (denK E b k)
    | .ext i => k (.ext i) T'
    | .ret => k .ret T')
  | 1 :: p, .seq a b, k => contAt E p b k
  | 0 :: p, .cond _ a b, k => contAt E p a k
  | 1 :: p, .cond _ a b, k => contAt E p b k
  | 0 :: p, .block id c, k => contAt E p c (fun e T' => match e with
    | .nrm => k .nrm T'
    | .ext i => cond (i == id) (k .nrm T') (k (.ext i) T')
    | .ret => k .ret T')
  | 0 :: p, .loop c, k => contAt E p c (fun e T' => match e with
    | .nrm => keepK (E.keep (loopKey c)) T' (fixO (turnB E c k))
    | .ext i => k (.ext i) T'
    | .ret => k .ret T')
  | _, c, k => (.skip, k)

noncomputable def loopAt0 (E : Env) {R : Type} (p : List Nat) (c : Code) (k : Ex → List V → Option R) (T : List V) : Option R :=
  match contAt E p c k with
  | (.loop c', k') => fixO (turnB E c' k') T
  | _ => none

/-- The same thing, not to be unfolded. -/
noncomputable def shut {α : Type} (a : α) : α := Classical.choose (⟨a, rfl⟩ : ∃ x, x = a)
theorem shut_eq {α : Type} (a : α) : shut a = a := Classical.choose_spec (⟨a, rfl⟩ : ∃ x, x = a)

noncomputable def loopAt (E : Env) {R : Type} (p : List Nat) (c : Code) (k : Ex → List V → Option R) (T : List V) : Option R := shut (loopAt0 E p c k) T

/-- One turn of the loop at a place. -/
noncomputable def turnAt (E : Env) {R : Type} (p : List Nat) (c : Code) (k : Ex → List V → Option R) (T : List V) : Option R :=
  match contAt E p c k with
  | (.loop c', k') => turnB E c' k' (fixO (turnB E c' k')) T
  | _ => none

theorem loopAt_eq [Glob] {R : Type} (E : Env) (p : List Nat) (c : Code) (k : Ex → List V → Option R) (T : List V) : loopAt E p c k T = turnAt E p c k T := by
  unfold loopAt
  rw [shut_eq]
  unfold loopAt0 turnAt
  split
  · exact fixO_eq (turn_tail _) T
  · rfl

/-- What follows a place. -/
noncomputable def joinAt0 (E : Env) {R : Type} (p : List Nat) (c : Code) (k : Ex → List V → Option R) (T : List V) : Option R :=
  match contAt E p c k with
  | (c', k') => denK E c' k' T

noncomputable def joinAt (E : Env) {R : Type} (p : List Nat) (c : Code) (k : Ex → List V → Option R) (T : List V) : Option R := shut (joinAt0 E p c k) T

theorem loop_eq [Glob] {E : Env} {R : Type} {c : Code} {k : Ex → List V → Option R} (T : List V) : fixO (turnB E c k) T = turnB E c k (fixO (turnB E c k)) T := fixO_eq (turn_tail k) T

end Go.Proofs.YtamkkancfmbanaaDoor.P.Am

set_option linter.unusedVariables false
set_option linter.unusedSimpArgs false
namespace Go.Proofs.YtamkkancfmbanaaDoor.P.Am

/-! ## 50. Code whose loops and rests bear names -/
def lookP : List (Nat × List Nat) → Nat → Option (List Nat)
  | [], _ => none
  | (k, p) :: l, key => cond (k == key) (some p) (lookP l key)

/-! ### the same, with lists that are laid out at once -/
def setC {α : Type} : List V → Nat → V → (List V → α) → α
  | [], _, _, K => K []
  | _ :: l, 0, v, K => K (v :: l)
  | a :: l, n + 1, v, K => setC l n v fun l' => K (a :: l')

theorem setC_eq {α : Type} : (T : List V) → (i : Nat) → (v : V) → (K : List V → α) → setC T i v K = K (T.set i v)
  | [], _, _, _ => rfl
  | _ :: _, 0, _, _ => rfl
  | a :: l, n + 1, v, K => by simp only [setC, List.set_cons_succ]; rw [setC_eq l n v]

def setAllC {α : Type} : List (Nat × V) → List V → (List V → α) → α
  | [], T, K => K T
  | u :: l, T, K => setC T u.1 u.2 fun T' => setAllC l T' K

theorem setAllC_eq [Glob] {α : Type} : (ups : List (Nat × V)) → (T : List V) → (K : List V → α) → setAllC ups T K = K (setAll T ups)
  | [], _, _ => rfl
  | u :: l, T, K => by
    simp only [setAllC]
    rw [setC_eq, setAllC_eq l]
    rfl

def forceC {α : Type} : List V → (List V → α) → α
  | [], K => K []
  | a :: l, K => forceC l fun l' => K (a :: l')

theorem forceC_eq {α : Type} : (T : List V) → (K : List V → α) → forceC T K = K T
  | [], _ => rfl
  | a :: l, K => by simp only [forceC]; rw [forceC_eq l]

def keepC {α : Type} (ks : Nat) : Nat → List V → (List V → α) → α
  | _, [], K => K []
  | i, v :: l, K => cond (ks.testBit i) (keepC ks (i + 1) l fun l' => K (v :: l')) (keepC ks (i + 1) l fun l' => K (.dead :: l'))

theorem keepC_eq {α : Type} (ks : Nat) : (i : Nat) → (T : List V) → (K : List V → α) → keepC ks i T K = K (keepL ks i T)
  | _, [], _ => rfl
  | i, v :: l, K => by
    simp only [keepC, keepL]
    cases ks.testBit i with
    | true => simp only [cond_true]; rw [keepC_eq ks (i + 1) l]
    | false => simp only [cond_false]; rw [keepC_eq ks (i + 1) l]

def frzC {α : Type} (k : Nat) (v : V) (K : V → α) : α := match v with
  | .d l n t x => K (.d l (min k n) t x)
  | .box l n t x => K (.box l (min k n) t x)
  | v => K v

theorem frzC_eq {α : Type} (k : Nat) (v : V) (K : V → α) : frzC k v K = K (frzV k v) := by cases v <;> rfl

def iceC {α : Type} (m : Nat) : Nat → List V → (List V → α) → α
  | _, [], K => K []
  | i, v :: l, K => cond (m.testBit (1000 + i)) (frzC 0 v fun v' => iceC m (i + 1) l fun l' => K (v' :: l')) (cond (m.testBit (2000 + i)) (frzC 1 v fun v' => iceC m (i + 1) l fun l' => K (v' :: l')) (iceC m (i + 1) l fun l' => K (v :: l')))

theorem iceC_eq [Glob] {α : Type} (m : Nat) : (i : Nat) → (T : List V) → (K : List V → α) → iceC m i T K = K (iceL m i T)
  | _, [], _ => rfl
  | i, v :: l, K => by
    simp only [iceC, iceL]
    cases m.testBit (1000 + i) with
    | true => simp only [cond_true]; rw [frzC_eq, iceC_eq m (i + 1) l]
    | false =>
      simp only [cond_false]
      cases m.testBit (2000 + i) with
      | true => simp only [cond_true]; rw [frzC_eq, iceC_eq m (i + 1) l]
      | false => simp only [cond_false]; rw [iceC_eq m (i + 1) l]

def keepF {R : Type} (ks : Option Nat) (T : List V) (K : List V → Option R) : Option R :=
  match ks with
  | none => K T
  | some m => cond (keepOk m T 0 T) (cond (decide (m < 2 ^ 1000)) (keepC m 0 T K) (keepC m 0 T fun T' => cond (iceOk m T' 0 T') (iceC m 0 T' K) none)) none

theorem keepF_eq [Glob] {R : Type} (ks : Option Nat) (T : List V) (K : List V → Option R) : keepF ks T K = keepK ks T K := by
  cases ks with
  | none => rfl
  | some m => simp only [keepF, keepK, keepC_eq, iceC_eq]

def opsF {R : Type} (E : Env) (ops : Array Oper) (draw : Bool) (K : List V → Option R) (T0 : List V) : List Oper → List V → List Rec → Option R
  | [], T, recs => cond (!draw || (backB 0 ops.toList && tiedB (preds ops.toList []) [] (recs.map fun r => (mask r.rd, mask r.wr)) && asksB T0 recs && decide (E.N ≤ tagK))) (K T) none
  | o :: l, T, recs => cond (pinOk E o) (match o.guard with
    | none => (E.step o).runK T [] fun log ups => setAllC ups T fun T => opsF E ops draw K T0 l T (recs ++ [(log, ups)])
    | some (j, want) => match (ops[j]?).bind (·.dst) with
      | none => none
      | some g => match T.getD g .dead with
        | .d l0 n0 .bool b => cond b
            (setC T g (.d l0 n0 .bool true) fun T => cond want
              ((E.step o).runK T [g] fun log ups => setAllC ups T fun T => opsF E ops draw K T0 l T (recs ++ [(log, ups)]))
              ((skipUps E o T).bind fun u => setAllC u.2 T fun T => opsF E ops draw K T0 l T (recs ++ [(g :: u.1, u.2)])))
            (setC T g (.d l0 n0 .bool false) fun T => cond want
              ((skipUps E o T).bind fun u => setAllC u.2 T fun T => opsF E ops draw K T0 l T (recs ++ [(g :: u.1, u.2)]))
              ((E.step o).runK T [g] fun log ups => setAllC ups T fun T => opsF E ops draw K T0 l T (recs ++ [(log, ups)])))
        | .tup [] => (skipUps E o T).bind fun u => setAllC u.2 T fun T => opsF E ops draw K T0 l T (recs ++ [(g :: u.1, u.2)])
        | _ => none) none

theorem opsF_eq [Glob] {R : Type} (E : Env) (ops : Array Oper) (draw : Bool) (K : List V → Option R) (T0 : List V) : (l : List Oper) → (T : List V) → (recs : List Rec) → opsF E ops draw K T0 l T recs = opsK E ops draw K T0 l T recs
  | [], T, recs => rfl
  | o :: l, T, recs => by
    simp only [opsF, opsK, setAllC_eq, setC_eq, opsF_eq E ops draw K T0 l]
    rfl

section
variable (E : Env) {R : Type} (js : List (Nat × List Nat)) (c0 : Code) (K0 : Ex → List V → Option R)

/-- What follows a statement, by its name if it has one. -/
noncomputable def restN (key : Nat) (f : List V → Option R) : List V → Option R :=
  match lookP js key with
  | some p => joinAt E p c0 K0
  | none => f

noncomputable def loopN (key : Nat) (f : List V → Option R) : List V → Option R :=
  match lookP js key with
  | some p => loopAt E p c0 K0
  | none => f

noncomputable def denE : Code → (Ex → List V → Option R) → List V → Option R
  | .skip, k, T => k .nrm T
  | .label _, k, T => k .nrm T
  | .region id ops draw, k, T => keepF (E.keep id) T fun T => opsF E ops draw (k .nrm) T ops.toList T []
  | .seq a b, k, T => denE a (fun e T' => match e with
    | .nrm => keepF (E.keep (joinKey b)) T' (restN E js c0 K0 (joinKey b) (denE b k))
    | .ext i => k (.ext i) T'
    | .ret => k .ret T') T
  | .cond (.tmp t) a b, k, T => match T.getD t .dead with
    | .d l0 n0 .bool x => cond x (setC T t (.d l0 n0 .bool true) (denE a k)) (setC T t (.d l0 n0 .bool false) (denE b k))
    | _ => none
  | .block id c, k, T => denE c (fun e T' => match e with
    | .nrm => k .nrm T'
    | .ext i => cond (i == id) (k .nrm T') (k (.ext i) T')
    | .ret => k .ret T') T
  | .exit id, k, T => k (.ext id) T
  | .loop c, k, T => keepF (E.keep (loopKey c)) T (loopN E js c0 K0 (loopKey c) (fixO (turnB E c k)))
  | .ret, k, T => k .ret T
  | _, _, _ => none

noncomputable def contE : List Nat → Code → (Ex → List V → Option R) → Code × (Ex → List V → Option R)
  | [], c, k => (c, k)
  | 0 :: p, .seq a b, k => contE p a (fun e T' => match e with
    | .nrm => keepF (E.keep (joinKey b)) T' (restN E js c0 K0 (joinKey b) (denE E js c0 K0 b k))
    | .ext i => k (.ext i) T'
    | .ret => k .ret T')
  | 1 :: p, .seq a b, k => contE p b k
  | 0 :: p, .cond _ a b, k => contE p a k
  | 1 :: p, .cond _ a b, k => contE p b k
  | 0 :: p, .block id c, k => contE p c (fun e T' => match e with
    | .nrm => k .nrm T'
    | .ext i => cond (i == id) (k .nrm T') (k (.ext i) T')
    | .ret => k .ret T')
  | 0 :: p, .loop c, k => contE p c (fun e T' => match e with
    | .nrm => keepF (E.keep (loopKey c)) T' (loopN E js c0 K0 (loopKey c) (fixO (turnB E c k)))
    | .ext i => k (.ext i) T'
    | .ret => k .ret T')
  | _, c, k => (.skip, k)

noncomputable def joinE (p : List Nat) (T : List V) : Option R :=
  match contE E js c0 K0 p c0 K0 with
  | (c', k') => forceC T fun T => denE E js c0 K0 c' k' T
end

/-- The names are where they should be. -/
def okB (js : List (Nat × List Nat)) : Code → List Nat → Bool
  | .seq a b, q => (match lookP js (joinKey b) with
    | none => true
    | some p => p == q ++ [1]) && (okB js a (q ++ [0]) && okB js b (q ++ [1]))
  | .cond _ a b, q => okB js a (q ++ [0]) && okB js b (q ++ [1])
  | .block _ c, q => okB js c (q ++ [0])
  | .loop c, q => (match lookP js (loopKey c) with
    | none => true
    | some p => p == q) && okB js c (q ++ [0])
  | _, _ => true

section
variable {E : Env} {R : Type} {js : List (Nat × List Nat)} {c0 : Code} {K0 : Ex → List V → Option R}

theorem contAt_snoc (i : Nat) : ∀ (p : List Nat) (c : Code) (k : Ex → List V → Option R), contAt E (p ++ [i]) c k = contAt E [i] (contAt E p c k).1 (contAt E p c k).2
  | [], c, k => by simp only [List.nil_append, contAt]
  | j :: p, c, k => by
    have hs : ∀ k : Ex → List V → Option R, contAt E [i] .skip k = (.skip, k) := fun k => by
      match i with
      | 0 => rfl
      | 1 => rfl
      | _ + 2 => rfl
    match j, c with
    | 0, .seq a b => simp only [List.cons_append, contAt]; exact contAt_snoc i p a _
    | 1, .seq a b => simp only [List.cons_append, contAt]; exact contAt_snoc i p b _
    | 0, .cond _ a b => simp only [List.cons_append, contAt]; exact contAt_snoc i p a _
    | 1, .cond _ a b => simp only [List.cons_append, contAt]; exact contAt_snoc i p b _
    | 0, .block _ c => simp only [List.cons_append, contAt]; exact contAt_snoc i p c _
    | 0, .loop c => simp only [List.cons_append, contAt]; exact contAt_snoc i p c _
    | 1, .block _ _ | 1, .loop _ => exact (hs k).symm
    | 0, .skip | 0, .label _ | 0, .region .. | 0, .exit _ | 0, .ret | 0, .rangeFunc .. | 0, .scope _ | 0, .goto _ | 0, .refuse _ => exact (hs k).symm
    | 1, .skip | 1, .label _ | 1, .region .. | 1, .exit _ | 1, .ret | 1, .rangeFunc .. | 1, .scope _ | 1, .goto _ | 1, .refuse _ => exact (hs k).symm
    | _ + 2, _ => exact (hs k).symm

theorem at0_seq [Glob] {q : List Nat} {a b : Code} {k : Ex → List V → Option R} (h : contAt E q c0 K0 = (.seq a b, k)) : contAt E (q ++ [0]) c0 K0 = (a, fun e T' => match e with
    | .nrm => keepK (E.keep (joinKey b)) T' (denK E b k)
    | .ext i => k (.ext i) T'
    | .ret => k .ret T') ∧ contAt E (q ++ [1]) c0 K0 = (b, k) := by
  constructor
  · rw [contAt_snoc, h]; rfl
  · rw [contAt_snoc, h]; rfl

theorem restN_eq [Glob] {q : List Nat} {b : Code} {k : Ex → List V → Option R} {f : List V → Option R} (h : contAt E q c0 K0 = (b, k)) (hf : f = denK E b k)
    (hok : (match lookP js (joinKey b) with | none => true | some p => p == q) = true) : restN E js c0 K0 (joinKey b) f = denK E b k := by
  unfold restN
  split at hok
  · rename_i hn; rw [hn]; exact hf
  · rename_i p hp
    rw [hp]
    rw [beq_iff_eq] at hok
    subst hok
    funext T
    simp only [joinAt, shut_eq, joinAt0, h]

theorem loopN_eq [Glob] {q : List Nat} {c : Code} {k : Ex → List V → Option R} {f : List V → Option R} (h : contAt E q c0 K0 = (.loop c, k)) (hf : f = fixO (turnB E c k))
    (hok : (match lookP js (loopKey c) with | none => true | some p => p == q) = true) : loopN E js c0 K0 (loopKey c) f = fixO (turnB E c k) := by
  unfold loopN
  split at hok
  · rename_i hn; rw [hn]; exact hf
  · rename_i p hp
    rw [hp]
    rw [beq_iff_eq] at hok
    subst hok
    funext T
    simp only [loopAt, shut_eq, loopAt0, h]

theorem denE_eq [Glob] : (c : Code) → (k : Ex → List V → Option R) → (q : List Nat) → contAt E q c0 K0 = (c, k) → okB js c q = true → denE E js c0 K0 c k = denK E c k
  | .skip, k, q, h, hok => rfl
  | .label _, k, q, h, hok => rfl
  | .region id ops draw, k, q, h, hok => by
    funext T
    simp only [denE, denK, keepF_eq, opsF_eq]
  | .exit _, k, q, h, hok => rfl
  | .ret, k, q, h, hok => rfl
  | .seq a b, k, q, h, hok => by
    simp only [okB, Bool.and_eq_true] at hok
    obtain ⟨h1, h2, h3⟩ := hok
    obtain ⟨e0, e1⟩ := at0_seq h
    have ib := denE_eq b k (q ++ [1]) e1 h3
    have ia := denE_eq a _ (q ++ [0]) e0 h2
    funext T
    simp only [denE, denK, keepF_eq]
    rw [restN_eq e1 ib h1]
    exact congrFun ia T
  | .cond c a b, k, q, h, hok => by
    simp only [okB, Bool.and_eq_true] at hok
    have e0 : contAt E (q ++ [0]) c0 K0 = (a, k) := by rw [contAt_snoc, h]; rfl
    have e1 : contAt E (q ++ [1]) c0 K0 = (b, k) := by rw [contAt_snoc, h]; rfl
    have ia := denE_eq a _ (q ++ [0]) e0 hok.1
    have ib := denE_eq b _ (q ++ [1]) e1 hok.2
    funext T
    cases c <;> simp only [denE, denK, ia, ib, setC_eq] <;> rfl
  | .block id c, k, q, h, hok => by
    simp only [okB] at hok
    have e0 : contAt E (q ++ [0]) c0 K0 = (c, fun e T' => match e with
      | .nrm => k .nrm T'
      | .ext i => cond (i == id) (k .nrm T') (k (.ext i) T')
      | .ret => k .ret T') := by rw [contAt_snoc, h]; rfl
    have ic := denE_eq c _ (q ++ [0]) e0 hok
    funext T
    simp only [denE, denK]
    exact congrFun ic T
  | .loop c, k, q, h, hok => by
    simp only [okB, Bool.and_eq_true] at hok
    funext T
    simp only [denE, denK, keepF_eq]
    rw [loopN_eq h rfl hok.1]
    rfl
  | .rangeFunc .., k, q, h, hok => rfl
  | .scope _, k, q, h, hok => rfl
  | .goto _, k, q, h, hok => rfl
  | .refuse _, k, q, h, hok => rfl

theorem contE_eq [Glob] : (p : List Nat) → (c : Code) → (k : Ex → List V → Option R) → (q : List Nat) → contAt E q c0 K0 = (c, k) → okB js c q = true → contE E js c0 K0 p c k = contAt E p c k ∧ okB js (contAt E p c k).1 (q ++ p) = true ∧ contAt E (q ++ p) c0 K0 = contAt E p c k
  | [], c, k, q, h, hok => ⟨rfl, by simpa [contAt] using hok, by simpa [contAt] using h⟩
  | j :: p, c, k, q, h, hok => by
    have hs : ∀ k : Ex → List V → Option R, contE E js c0 K0 (j :: p) c k = (.skip, k) → contAt E (j :: p) c k = (.skip, k) → contAt E (q ++ j :: p) c0 K0 = contAt E (j :: p) c k → contE E js c0 K0 (j :: p) c k = contAt E (j :: p) c k ∧ okB js (contAt E (j :: p) c k).1 (q ++ j :: p) = true ∧ contAt E (q ++ j :: p) c0 K0 = contAt E (j :: p) c k := fun k h1 h2 h3 => by
      refine ⟨by rw [h1, h2], by rw [h2]; rfl, h3⟩
    have hcat : contAt E (q ++ j :: p) c0 K0 = contAt E (j :: p) c k := by
      have gen : ∀ (n : Nat) (p q : List Nat) (c : Code) (k : Ex → List V → Option R), p.length = n → contAt E q c0 K0 = (c, k) → contAt E (q ++ p) c0 K0 = contAt E p c k := by
        intro n
        induction n with
        | zero =>
          intro p q c k hp h
          obtain rfl := List.eq_nil_of_length_eq_zero hp
          simpa [contAt] using h
        | succ n ih =>
          intro p q c k hp h
          have hne : p ≠ [] := by rintro rfl; simp at hp
          obtain ⟨p0, i, rfl⟩ : ∃ p0 i, p = p0 ++ [i] := ⟨p.dropLast, p.getLast hne, (List.dropLast_concat_getLast hne).symm⟩
          rw [← List.append_assoc, contAt_snoc, ih p0 q c k (by simp at hp; omega) h, ← contAt_snoc]
      exact gen _ _ q c k rfl h
    have hq : q ++ j :: p = (q ++ [j]) ++ p := by simp
    match j, c with
    | 0, .seq a b =>
      simp only [okB, Bool.and_eq_true] at hok
      obtain ⟨h1, h2, h3⟩ := hok
      obtain ⟨e0, e1⟩ := at0_seq h
      have ib := denE_eq b k (q ++ [1]) e1 h3
      have ia := contE_eq p a _ (q ++ [0]) e0 h2
      rw [hq]
      simp only [contE, contAt, keepF_eq]
      rw [restN_eq e1 ib h1]
      exact ia
    | 1, .seq a b =>
      simp only [okB, Bool.and_eq_true] at hok
      have ia := contE_eq p b _ (q ++ [1]) (at0_seq h).2 hok.2.2
      rw [hq]
      simp only [contE, contAt]
      exact ia
    | 0, .cond _ a b =>
      simp only [okB, Bool.and_eq_true] at hok
      have ia := contE_eq p a _ (q ++ [0]) (by rw [contAt_snoc, h]; rfl) hok.1
      rw [hq]
      simp only [contE, contAt]
      exact ia
    | 1, .cond _ a b =>
      simp only [okB, Bool.and_eq_true] at hok
      have ia := contE_eq p b _ (q ++ [1]) (by rw [contAt_snoc, h]; rfl) hok.2
      rw [hq]
      simp only [contE, contAt]
      exact ia
    | 0, .block id c =>
      simp only [okB] at hok
      have ia := contE_eq p c _ (q ++ [0]) (by rw [contAt_snoc, h]; rfl) hok
      rw [hq]
      simp only [contE, contAt]
      exact ia
    | 0, .loop c =>
      simp only [okB, Bool.and_eq_true] at hok
      have ia := contE_eq p c _ (q ++ [0]) (by rw [contAt_snoc, h]; rfl) hok.2
      rw [hq]
      simp only [contE, contAt, keepF_eq]
      rw [loopN_eq h rfl hok.1]
      exact ia
    | 1, .block _ _ | 1, .loop _ => exact hs k rfl rfl hcat
    | 0, .skip | 0, .label _ | 0, .region .. | 0, .exit _ | 0, .ret | 0, .rangeFunc .. | 0, .scope _ | 0, .goto _ | 0, .refuse _ => exact hs k rfl rfl hcat
    | 1, .skip | 1, .label _ | 1, .region .. | 1, .exit _ | 1, .ret | 1, .rangeFunc .. | 1, .scope _ | 1, .goto _ | 1, .refuse _ => exact hs k rfl rfl hcat
    | _ + 2, _ => exact hs k rfl rfl hcat

/-- A rest, with all names in it. -/
theorem join_eq [Glob] (hok : okB js c0 [] = true) (p : List Nat) (T : List V) : joinAt E p c0 K0 T = joinE E js c0 K0 p T := by
  obtain ⟨h1, h2, h3⟩ := contE_eq (E := E) (js := js) (c0 := c0) (K0 := K0) p c0 K0 [] rfl hok
  rw [List.nil_append] at h2 h3
  unfold joinAt
  rw [shut_eq]
  unfold joinAt0 joinE
  rw [h1]
  simp only [forceC_eq]
  exact (congrFun (denE_eq _ _ p h3 h2) T).symm

theorem all_eq [Glob] (hok : okB js c0 [] = true) (T : List V) : denK E c0 K0 T = joinE E js c0 K0 [] T := by
  rw [← join_eq hok]
  unfold joinAt
  rw [shut_eq]
  rfl

def isLoop : Code → Bool
  | .loop _ => true
  | _ => false

/-- A loop, one turn of it, with all names in it. -/
theorem turn_eq [Glob] (hok : okB js c0 [] = true) (p : List Nat) (hl : isLoop (contAt E p c0 K0).1 = true) (T : List V) : loopAt E p c0 K0 T = joinE E js c0 K0 (p ++ [0]) T := by
  rw [← join_eq hok, loopAt_eq]
  unfold turnAt joinAt
  rw [shut_eq]
  unfold joinAt0
  rw [contAt_snoc]
  generalize contAt E p c0 K0 = ck at hl
  obtain ⟨c, k⟩ := ck
  cases c <;> first | rfl | cases hl

end
end Go.Proofs.YtamkkancfmbanaaDoor.P.Am

set_option linter.unusedVariables false
set_option linter.unusedSimpArgs false
namespace Go.Proofs.YtamkkancfmbanaaDoor.P.Am
open Go.Proofs Go.Shelf

/-! ## 56. A number's text -/
def itoaSem : (pTy [(.int .i64, .ro)]).den → Option (Ty.pair (rTy [(.str, 0)]) (mTy [(.int .i64, .ro)])).den :=
  fun x => if -9223372036854775808 ≤ x.1 ∧ x.1 ≤ 9223372036854775807 then some ((⟨(Lib.itoa x.1).toArray⟩, ()), ()) else none

theorem itoa_ok [Glob] {P : Program} {ρ : Ren} (L : LaysM.n171 P ρ) (hT : ∀ w L0, Glob.ok w L0 → Lib.TabIs P w "internal/strconv.uint64pow10" .u64 Lib.pow10Tab)
    (hf : ∃ fn, P.funcs[ρ.f 171]? = some fn ∧ (fn.name == "runtime.NumGoroutine") = false ∧ fn.body.isNone = false) :
    FnOk P (ρ.f 171) ⟨[(.int .i64, .ro)], [(.str, 0)], itoaSem⟩ := by
  refine ⟨hf, fun x r hr w L0 args hl ha => ?_⟩
  change itoaSem x = some r at hr
  obtain ⟨n, u⟩ := x
  change Int at n
  unfold itoaSem at hr
  dsimp only at hr
  split at hr
  case isFalse => cases hr
  rename_i hb
  injection hr with hr
  subst hr
  simp only [ArgsRep] at ha
  obtain ⟨c1, cs', cells, hargs, h1, h2, rfl⟩ := ha
  have hc1 : cells = [c1] := h1
  subst hc1
  simp only [Own] at h2
  have hc : c1 = .int .i64 n := (List.cons.inj h2).1
  subst hc
  have hae : args = #[.int .i64 n] := by rw [← Array.toArray_toList (xs := args), hargs]
  rw [hae]
  refine Calls.mono (Any.strconv_Itoa L n hb.1 hb.2 w (hT w L0 hl.glob)) ?_
  rintro e w' ⟨rfl, k, os, rfl⟩
  have hno : ∀ k s q, L0 k ≠ .own s q := fun k s q h => by
    obtain ⟨t, m, h3, h4⟩ := hl.write h
    match s, h3 with
    | 0, h3 =>
      simp only [List.getElem?_cons_zero, Option.some.injEq, Prod.mk.injEq] at h3
      exact h4 h3.2.symm
    | s + 1, h3 => simp at h3
  refine ⟨[.string ⟨(Lib.itoa n).toArray⟩], L0, rfl, ⟨rfl, rfl, rfl, ?_, ?_, fun j hj _ => ⟨rfl, ?_⟩, fun j hj => hl.free j ?_, fun j j' s q h => absurd h (hno _ _ _), fun j s q h => absurd h (hno _ _ _)⟩, ?_, ?_⟩
  · show w.heap.size ≤ (w.heap ++ os).size
    simp
  · show w.drawn ≤ w.drawn + k
    omega
  · show (w.heap ++ os)[j]? = w.heap[j]?
    rw [Array.getElem?_append_left hj]
  · have : (w.heap ++ os).size ≤ j := hj
    simp at this
    omega
  · exact .inl ⟨by decide, _, [], [_], rfl, rfl, by simp only [Own], rfl⟩
  · exact ⟨_, [], rfl, rfl⟩

/-! ### the table that is laid -/
def tabName : String := "internal/strconv.uint64pow10"
theorem tab_keep {P : Program} {g : Nat} (hg : P.globalNamed tabName = some g) {w w' : World} {L L' : Nat → Lab} (h : Lib.TabIs P w tabName .u64 Lib.pow10Tab ∧ g < w.heap.size ∧ (L g = .stable ∨ L g = .other))
    (hk : ∀ k, k < w.heap.size → (L k = .stable ∨ L k = .other) → (L' k = .stable ∨ L' k = .other) ∧ w'.heap[k]? = w.heap[k]?) : Lib.TabIs P w' tabName .u64 Lib.pow10Tab ∧ g < w'.heap.size ∧ (L' g = .stable ∨ L' g = .other) := by
  obtain ⟨h1, h2, h3⟩ := h
  obtain ⟨k1, k2⟩ := hk g h2 h3
  refine ⟨?_, ?_, k1⟩
  · unfold Lib.TabIs World.var? at h1 ⊢
    rw [hg, Option.bind_some] at h1 ⊢
    rw [k2]; exact h1
  · apply Classical.byContradiction
    intro hn
    rw [Array.getElem?_eq_none (by omega), Array.getElem?_eq_getElem h2] at k2
    cases k2
@[reducible] def tabGlob (P : Program) (g : Nat) (hg : P.globalNamed tabName = some g) : Glob :=
  ⟨fun w L => Lib.TabIs P w tabName .u64 Lib.pow10Tab ∧ g < w.heap.size ∧ (L g = .stable ∨ L g = .other), fun h hk => tab_keep hg h hk⟩

theorem tabGlob_start {P : Program} {g : Nat} (hg : P.globalNamed tabName = some g) {w : World} (h : Lib.TabIs P w tabName .u64 Lib.pow10Tab) {L : Nat → Lab} (hL : ∀ k, k < w.heap.size → L k = .stable) : (tabGlob P g hg).ok w L := by
  have h1 := h
  unfold Lib.TabIs World.var? at h1
  rw [hg, Option.bind_some] at h1
  have hlt : g < w.heap.size := by
    apply Classical.byContradiction
    intro hn
    rw [Array.getElem?_eq_none (by omega)] at h1
    cases h1
  exact ⟨h, hlt, .inl (hL g hlt)⟩
end Go.Proofs.YtamkkancfmbanaaDoor.P.Am
